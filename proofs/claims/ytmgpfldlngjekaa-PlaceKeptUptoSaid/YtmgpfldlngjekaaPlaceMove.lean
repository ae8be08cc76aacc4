/-
  place.Right, place.Len, place.Meets, place.Join, place.Move and the references' twins: what each computes.
-/
import Derived.Test.YtmgpfldlngjekaaKit
import Derived.Test.YtmgpfldlngjekaaRows
namespace Go.Proofs.Ytmgpfldlngjekaa
open Go.RowKit Go.Shelf

def rightB (f t n : Int) : Bool := decide (0 ≤ f) && decide (f ≤ t) && decide (t ≤ n)

theorem place_Right (f t n : Int) (w : World)  :
    Calls Try.prog 11 #[.agg #[.int .i64 f, .int .i64 t], .int .i64 n] w fun e w' => e = .returned (.bool (rightB f t n)) ∧ w.alloc (.cells #[.int .i64 f, .int .i64 t] 23) = w' := by
  go_enter Try.func11, Try.ntmps11
  go_wp2
  all_goals (go_ret; exact ⟨ret_bool (by unfold rightB; rw [Bool.eq_iff_iff]; simp <;> omega), rfl⟩)

theorem ref_Right (f t n : Int) (w : World)  :
    Calls Try.prog 14 #[.agg #[.int .i64 f, .int .i64 t], .int .i64 n] w fun e w' => e = .returned (.bool (rightB f t n)) ∧ w.alloc (.cells #[.int .i64 f, .int .i64 t] 23) = w' := by
  go_enter Try.func14, Try.ntmps14
  go_wp2
  all_goals (go_ret; exact ⟨ret_bool (by unfold rightB; rw [Bool.eq_iff_iff]; simp <;> omega), rfl⟩)

theorem place_Meets (f t g u : Int) (w : World)  :
    Calls Try.prog 15 #[.agg #[.int .i64 f, .int .i64 t], .agg #[.int .i64 g, .int .i64 u]] w fun e w' => e = .returned (.bool (decide (max f g < min t u))) ∧ Below w.heap.size w w' := by
  go_enter Try.func15, Try.ntmps15
  go_wp2
  all_goals (go_ret; exact ⟨ret_bool (by rw [Bool.eq_iff_iff]; simp <;> omega), (by repeat (first | (with_reducible exact Below.refl _ _) | (with_reducible assumption) | (with_reducible refine Below.drew ?_) | ((with_reducible refine below_alloc ?_ ?_); (focus (first | omega | (simp; done) | (simp; omega)))) | ((with_reducible refine below_set ?_ ?_); (focus (first | omega | (simp; done) | (simp; omega))))))⟩)

theorem ref_Meets (f t g u : Int) (w : World)  :
    Calls Try.prog 16 #[.agg #[.int .i64 f, .int .i64 t], .agg #[.int .i64 g, .int .i64 u]] w fun e w' => e = .returned (.bool (decide (max f g < min t u))) ∧ Below w.heap.size w w' := by
  go_enter Try.func16, Try.ntmps16
  go_wp2
  all_goals (go_ret; exact ⟨ret_bool (by rw [Bool.eq_iff_iff]; simp <;> omega), (by repeat (first | (with_reducible exact Below.refl _ _) | (with_reducible assumption) | (with_reducible refine Below.drew ?_) | ((with_reducible refine below_alloc ?_ ?_); (focus (first | omega | (simp; done) | (simp; omega)))) | ((with_reducible refine below_set ?_ ?_); (focus (first | omega | (simp; done) | (simp; omega))))))⟩)

def joinV (f t g u : Int) : Value := .agg #[.int .i64 (min f g), .int .i64 (max t u)]

theorem place_Join (f t g u : Int) (w : World)  :
    Calls Try.prog 17 #[.agg #[.int .i64 f, .int .i64 t], .agg #[.int .i64 g, .int .i64 u]] w fun e w' => e = .returned (joinV f t g u) ∧ Below w.heap.size w w' := by
  by_cases hf : f = g <;> by_cases ht : t = u
  · subst hf; subst ht
    go_enter Try.func17, Try.ntmps17
    go_wp2
    all_goals
      refine bodyPost_ret (v := joinV f t f t) ?_ rfl ⟨rfl, (by repeat (first | (with_reducible exact Below.refl _ _) | (with_reducible assumption) | (with_reducible refine Below.drew ?_) | ((with_reducible refine below_alloc ?_ ?_); (focus (first | omega | (simp; done) | (simp; omega)))) | ((with_reducible refine below_set ?_ ?_); (focus (first | omega | (simp; done) | (simp; omega))))))⟩
      simp [results, Try.f17, go_sem, joinV]
  · subst hf
    go_enter Try.func17, Try.ntmps17
    go_wp2
    all_goals
      refine bodyPost_ret (v := joinV f t f u) ?_ rfl ⟨rfl, (by repeat (first | (with_reducible exact Below.refl _ _) | (with_reducible assumption) | (with_reducible refine Below.drew ?_) | ((with_reducible refine below_alloc ?_ ?_); (focus (first | omega | (simp; done) | (simp; omega)))) | ((with_reducible refine below_set ?_ ?_); (focus (first | omega | (simp; done) | (simp; omega))))))⟩
      simp [results, Try.f17, go_sem, joinV]
      try omega
  · subst ht
    go_enter Try.func17, Try.ntmps17
    go_wp2
    all_goals
      refine bodyPost_ret (v := joinV f t g t) ?_ rfl ⟨rfl, (by repeat (first | (with_reducible exact Below.refl _ _) | (with_reducible assumption) | (with_reducible refine Below.drew ?_) | ((with_reducible refine below_alloc ?_ ?_); (focus (first | omega | (simp; done) | (simp; omega)))) | ((with_reducible refine below_set ?_ ?_); (focus (first | omega | (simp; done) | (simp; omega))))))⟩
      simp [results, Try.f17, go_sem, joinV]
      try omega
  · go_enter Try.func17, Try.ntmps17
    go_wp2
    all_goals
      refine bodyPost_ret (v := joinV f t g u) ?_ rfl ⟨rfl, (by repeat (first | (with_reducible exact Below.refl _ _) | (with_reducible assumption) | (with_reducible refine Below.drew ?_) | ((with_reducible refine below_alloc ?_ ?_); (focus (first | omega | (simp; done) | (simp; omega)))) | ((with_reducible refine below_set ?_ ?_); (focus (first | omega | (simp; done) | (simp; omega))))))⟩
      simp [results, Try.f17, go_sem, joinV]
      try omega

theorem ref_Join (f t g u : Int) (w : World)  :
    Calls Try.prog 18 #[.agg #[.int .i64 f, .int .i64 t], .agg #[.int .i64 g, .int .i64 u]] w fun e w' => e = .returned (joinV f t g u) ∧ Below w.heap.size w w' := by
  by_cases hf : f = g <;> by_cases ht : t = u
  · subst hf; subst ht
    go_enter Try.func18, Try.ntmps18
    go_wp2
    all_goals
      refine bodyPost_ret (v := joinV f t f t) ?_ rfl ⟨rfl, (by repeat (first | (with_reducible exact Below.refl _ _) | (with_reducible assumption) | (with_reducible refine Below.drew ?_) | ((with_reducible refine below_alloc ?_ ?_); (focus (first | omega | (simp; done) | (simp; omega)))) | ((with_reducible refine below_set ?_ ?_); (focus (first | omega | (simp; done) | (simp; omega))))))⟩
      simp [results, Try.f18, go_sem, joinV]
  · subst hf
    go_enter Try.func18, Try.ntmps18
    go_wp2
    all_goals
      refine bodyPost_ret (v := joinV f t f u) ?_ rfl ⟨rfl, (by repeat (first | (with_reducible exact Below.refl _ _) | (with_reducible assumption) | (with_reducible refine Below.drew ?_) | ((with_reducible refine below_alloc ?_ ?_); (focus (first | omega | (simp; done) | (simp; omega)))) | ((with_reducible refine below_set ?_ ?_); (focus (first | omega | (simp; done) | (simp; omega))))))⟩
      simp [results, Try.f18, go_sem, joinV]
      try omega
  · subst ht
    go_enter Try.func18, Try.ntmps18
    go_wp2
    all_goals
      refine bodyPost_ret (v := joinV f t g t) ?_ rfl ⟨rfl, (by repeat (first | (with_reducible exact Below.refl _ _) | (with_reducible assumption) | (with_reducible refine Below.drew ?_) | ((with_reducible refine below_alloc ?_ ?_); (focus (first | omega | (simp; done) | (simp; omega)))) | ((with_reducible refine below_set ?_ ?_); (focus (first | omega | (simp; done) | (simp; omega))))))⟩
      simp [results, Try.f18, go_sem, joinV]
      try omega
  · go_enter Try.func18, Try.ntmps18
    go_wp2
    all_goals
      refine bodyPost_ret (v := joinV f t g u) ?_ rfl ⟨rfl, (by repeat (first | (with_reducible exact Below.refl _ _) | (with_reducible assumption) | (with_reducible refine Below.drew ?_) | ((with_reducible refine below_alloc ?_ ?_); (focus (first | omega | (simp; done) | (simp; omega)))) | ((with_reducible refine below_set ?_ ?_); (focus (first | omega | (simp; done) | (simp; omega))))))⟩
      simp [results, Try.f18, go_sem, joinV]
      try omega

def lenR (f t : Int) : Int := if 0 ≤ f ∧ f ≤ t then t - f else 0
theorem place_Len (f t : Int) (w : World) (hf : -9223372036854775808 ≤ f) (ht : t ≤ 9223372036854775807) :
    Calls Try.prog 12 #[.agg #[.int .i64 f, .int .i64 t]] w fun e w' => e = .returned (.int .i64 (lenR f t)) ∧ Below w.heap.size w w' := by
  go_enter Try.func12, Try.ntmps12
  go_wp2
  all_goals (go_ret; exact ⟨ret_int (by unfold lenR; split <;> first | rfl | omega | (rw [IntWalk.wrap64_in _ (by omega)])), (by repeat (first | (with_reducible exact Below.refl _ _) | (with_reducible assumption) | (with_reducible refine Below.drew ?_) | ((with_reducible refine below_alloc ?_ ?_); (focus (first | omega | (simp; done) | (simp; omega)))) | ((with_reducible refine below_set ?_ ?_); (focus (first | omega | (simp; done) | (simp; omega))))))⟩)

theorem ref_Len (f t : Int) (w : World) (hf : -9223372036854775808 ≤ f) (ht : t ≤ 9223372036854775807) :
    Calls Try.prog 13 #[.agg #[.int .i64 f, .int .i64 t]] w fun e w' => e = .returned (.int .i64 (lenR f t)) ∧ Below w.heap.size w w' := by
  go_enter Try.func13, Try.ntmps13
  go_wp2
  all_goals (go_ret; exact ⟨ret_int (by unfold lenR; split <;> first | rfl | omega | (rw [IntWalk.wrap64_in _ (by omega)])), (by repeat (first | (with_reducible exact Below.refl _ _) | (with_reducible assumption) | (with_reducible refine Below.drew ?_) | ((with_reducible refine below_alloc ?_ ?_); (focus (first | omega | (simp; done) | (simp; omega)))) | ((with_reducible refine below_set ?_ ?_); (focus (first | omega | (simp; done) | (simp; omega))))))⟩)
end Go.Proofs.Ytmgpfldlngjekaa
