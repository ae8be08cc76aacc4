/-
  place.Move and the reference's: what both compute.
-/
import Derived.Test.YtmgpfldlngjekaaKit
import Derived.Test.YtmgpfldlngjekaaRows
namespace Go.Proofs.Ytmgpfldlngjekaa
open Go.RowKit Go.Shelf

def moveR (f t a c p : Int) : Option (Int × Int) :=
  if 0 ≤ f ∧ f ≤ t ∧ t ≤ 1099511627776 ∧ 0 ≤ a ∧ a ≤ 1099511627776 ∧ 0 ≤ c ∧ c ≤ 1099511627776 ∧ 0 ≤ p ∧ p ≤ 1099511627776 then
    if t ≤ a then some (f, t) else if a + c ≤ f then some (f - c + p, t - c + p) else none
  else none
def spanOkV : Option (Int × Int) → Value
  | some (f, t) => .tuple #[.agg #[.int .i64 f, .int .i64 t], .bool true]
  | none => .tuple #[.agg #[.int .i64 0, .int .i64 0], .bool false]

theorem move_none {f t a c p : Int} (h : ¬ (0 ≤ f ∧ f ≤ t ∧ t ≤ 1099511627776 ∧ 0 ≤ a ∧ a ≤ 1099511627776 ∧ 0 ≤ c ∧ c ≤ 1099511627776 ∧ 0 ≤ p ∧ p ≤ 1099511627776)) : spanOkV (moveR f t a c p) = spanOkV none := by
  unfold moveR; rw [if_neg h]

theorem move_at {f t a c p : Int} (h : 0 ≤ f ∧ f ≤ t ∧ t ≤ 1099511627776 ∧ 0 ≤ a ∧ a ≤ 1099511627776 ∧ 0 ≤ c ∧ c ≤ 1099511627776 ∧ 0 ≤ p ∧ p ≤ 1099511627776) (h1 : t ≤ a) :
    Ending.returned (spanOkV (moveR f t a c p)) = .returned (spanOkV (some (f, t))) := by unfold moveR; rw [if_pos h, if_pos h1]
theorem move_far {f t a c p : Int} (h : 0 ≤ f ∧ f ≤ t ∧ t ≤ 1099511627776 ∧ 0 ≤ a ∧ a ≤ 1099511627776 ∧ 0 ≤ c ∧ c ≤ 1099511627776 ∧ 0 ≤ p ∧ p ≤ 1099511627776) (h1 : a < t) (h2 : a + c ≤ f) :
    Ending.returned (spanOkV (moveR f t a c p)) = .returned (spanOkV (some (f - c + p, t - c + p))) := by unfold moveR; rw [if_pos h, if_neg (by omega), if_pos h2]
theorem move_not {f t a c p : Int} (h : ¬ (0 ≤ f ∧ f ≤ t ∧ t ≤ 1099511627776 ∧ 0 ≤ a ∧ a ≤ 1099511627776 ∧ 0 ≤ c ∧ c ≤ 1099511627776 ∧ 0 ≤ p ∧ p ≤ 1099511627776) ∨ (a < t ∧ f < a + c)) :
    Ending.returned (spanOkV (moveR f t a c p)) = .returned (spanOkV none) := by
  unfold moveR
  rcases h with h | ⟨h1, h2⟩
  · rw [if_neg h]
  · split
    · rw [if_neg (by omega), if_neg (by omega)]
    · rfl

set_option maxHeartbeats 1000000 in
theorem ref_Move_yes (f t a c p : Int) (w : World) (h1 : 0 ≤ f) (h2 : f ≤ t) (h3 : t ≤ 1099511627776) (h4 : 0 ≤ a) (h5 : a ≤ 1099511627776) (h6 : 0 ≤ c) (h7 : c ≤ 1099511627776) (h8 : 0 ≤ p) (h9 : p ≤ 1099511627776) :
    Calls Try.prog 9 #[.agg #[.int .i64 f, .int .i64 t], .int .i64 a, .int .i64 c, .int .i64 p] w fun e w' => e = .returned (spanOkV (moveR f t a c p)) ∧ Below w.heap.size w w' := by
  have k4 : decide (a < 0) = false := by simp; omega
  have k5 : decide (1099511627776 < a) = false := by simp; omega
  have k6 : decide (c < 0) = false := by simp; omega
  have k7 : decide (1099511627776 < c) = false := by simp; omega
  have k8 : decide (p < 0) = false := by simp; omega
  have k9 : decide (1099511627776 < p) = false := by simp; omega
  go_enter Try.func9, Try.ntmps9
  go_wp2
  · refine bodyPost_ret (v := spanOkV (some (f, t))) ?_ rfl ⟨?_, (by repeat (first | (with_reducible exact Below.refl _ _) | (with_reducible assumption) | (with_reducible refine Below.drew ?_) | ((with_reducible refine below_alloc ?_ ?_); (focus (first | omega | (simp; done) | (simp; omega)))) | ((with_reducible refine below_set ?_ ?_); (focus (first | omega | (simp; done) | (simp; omega))))))⟩
    · simp [results, Try.f9, go_sem, spanOkV]
    · unfold moveR; rw [if_pos (by omega), if_pos (by assumption)]
  · refine bodyPost_ret (v := spanOkV (some (f - c + p, t - c + p))) ?_ rfl ⟨?_, (by repeat (first | (with_reducible exact Below.refl _ _) | (with_reducible assumption) | (with_reducible refine Below.drew ?_) | ((with_reducible refine below_alloc ?_ ?_); (focus (first | omega | (simp; done) | (simp; omega)))) | ((with_reducible refine below_set ?_ ?_); (focus (first | omega | (simp; done) | (simp; omega))))))⟩
    · simp [results, Try.f9, go_sem, spanOkV]
    · unfold moveR; rw [if_pos (by omega), if_neg (by omega), if_pos (by assumption)]
  · refine bodyPost_ret (v := spanOkV none) ?_ rfl ⟨?_, (by repeat (first | (with_reducible exact Below.refl _ _) | (with_reducible assumption) | (with_reducible refine Below.drew ?_) | ((with_reducible refine below_alloc ?_ ?_); (focus (first | omega | (simp; done) | (simp; omega)))) | ((with_reducible refine below_set ?_ ?_); (focus (first | omega | (simp; done) | (simp; omega))))))⟩
    · simp [results, Try.f9, go_sem, spanOkV]
    · unfold moveR; rw [if_pos (by omega), if_neg (by omega), if_neg (by omega)]

set_option maxHeartbeats 1000000 in
theorem ref_Move_no (f t a c p : Int) (w : World) (h : ¬ (0 ≤ f ∧ f ≤ t ∧ t ≤ 1099511627776 ∧ 0 ≤ a ∧ a ≤ 1099511627776 ∧ 0 ≤ c ∧ c ≤ 1099511627776 ∧ 0 ≤ p ∧ p ≤ 1099511627776)) :
    Calls Try.prog 9 #[.agg #[.int .i64 f, .int .i64 t], .int .i64 a, .int .i64 c, .int .i64 p] w fun e w' => e = .returned (spanOkV (moveR f t a c p)) ∧ Below w.heap.size w w' := by
  rw [move_none h]
  go_enter Try.func9, Try.ntmps9
  go_wp2
  all_goals first
    | (exfalso; omega)
    | (refine bodyPost_ret (v := spanOkV none) ?_ rfl ⟨rfl, (by repeat (first | (with_reducible exact Below.refl _ _) | (with_reducible assumption) | (with_reducible refine Below.drew ?_) | ((with_reducible refine below_alloc ?_ ?_); (focus (first | omega | (simp; done) | (simp; omega)))) | ((with_reducible refine below_set ?_ ?_); (focus (first | omega | (simp; done) | (simp; omega))))))⟩
       simp [results, Try.f9, go_sem, spanOkV])

set_option maxHeartbeats 2000000 in
theorem place_Move (f t a c p : Int) (w : World) :
    Calls Try.prog 8 #[.agg #[.int .i64 f, .int .i64 t], .int .i64 a, .int .i64 c, .int .i64 p] w fun e w' => e = .returned (spanOkV (moveR f t a c p)) ∧ Below w.heap.size w w' := by
  go_enter Try.func8, Try.ntmps8
  go_wp2
  go_loop [18] (fun i => ∃ k : Nat, k ≤ 3 ∧ i = .int .i64 k ∧ (1 ≤ k → 0 ≤ a ∧ a ≤ 1099511627776) ∧ (2 ≤ k → 0 ≤ c ∧ c ≤ 1099511627776) ∧ (3 ≤ k → 0 ≤ p ∧ p ≤ 1099511627776)) (fun i => 3 - (intOf i).toNat)
  case atStart => exact ⟨0, by omega, rfl, by omega, by omega, by omega⟩
  case round =>
    obtain ⟨k, hk, rfl, r1, r2, r3⟩ := hrel
    obtain rfl | rfl | rfl | rfl : k = 0 ∨ k = 1 ∨ k = 2 ∨ k = 3 := by omega
    · clear r1 r2 r3
      go_wp2
      all_goals first
        | exact ⟨⟨1, by omega, rfl, by omega, by omega, by omega⟩, by simp [intOf]⟩
        | (refine bodyPost_ret (v := spanOkV none) ?_ rfl ⟨by rw [move_none (by omega)], (by repeat (first | (with_reducible exact Below.refl _ _) | (with_reducible assumption) | (with_reducible refine Below.drew ?_) | ((with_reducible refine below_alloc ?_ ?_); (focus (first | omega | (simp; done) | (simp; omega)))) | ((with_reducible refine below_set ?_ ?_); (focus (first | omega | (simp; done) | (simp; omega))))))⟩
           simp [results, Try.f8, go_sem, spanOkV])
    · have r1 := r1 (by omega)
      clear r2 r3
      go_wp2
      all_goals first
        | exact ⟨⟨2, by omega, rfl, by omega, by omega, by omega⟩, by simp [intOf]⟩
        | (refine bodyPost_ret (v := spanOkV none) ?_ rfl ⟨by rw [move_none (by omega)], (by repeat (first | (with_reducible exact Below.refl _ _) | (with_reducible assumption) | (with_reducible refine Below.drew ?_) | ((with_reducible refine below_alloc ?_ ?_); (focus (first | omega | (simp; done) | (simp; omega)))) | ((with_reducible refine below_set ?_ ?_); (focus (first | omega | (simp; done) | (simp; omega))))))⟩
           simp [results, Try.f8, go_sem, spanOkV])
    · have r1 := r1 (by omega)
      have r2 := r2 (by omega)
      clear r3
      go_wp2
      all_goals first
        | exact ⟨⟨3, by omega, rfl, by omega, by omega, by omega⟩, by simp [intOf]⟩
        | (refine bodyPost_ret (v := spanOkV none) ?_ rfl ⟨by rw [move_none (by omega)], (by repeat (first | (with_reducible exact Below.refl _ _) | (with_reducible assumption) | (with_reducible refine Below.drew ?_) | ((with_reducible refine below_alloc ?_ ?_); (focus (first | omega | (simp; done) | (simp; omega)))) | ((with_reducible refine below_set ?_ ?_); (focus (first | omega | (simp; done) | (simp; omega))))))⟩
           simp [results, Try.f8, go_sem, spanOkV])
    · obtain ⟨h4, h5⟩ := r1 (by omega)
      obtain ⟨h6, h7⟩ := r2 (by omega)
      obtain ⟨h8, h9⟩ := r3 (by omega)
      clear r1 r2 r3
      by_cases ht : t ≤ 1099511627776
      all_goals go_wp2
      all_goals first
        | (refine bodyPost_ret (v := spanOkV (some (f, t))) ?_ rfl ⟨?_, ?_⟩
           · simp [results, Try.f8, go_sem, spanOkV]
             done
           · refine (move_at ?_ ?_).symm <;> omega
           · exact (by repeat (first | (with_reducible exact Below.refl _ _) | (with_reducible assumption) | (with_reducible refine Below.drew ?_) | ((with_reducible refine below_alloc ?_ ?_); (focus (first | omega | (simp; done) | (simp; omega)))) | ((with_reducible refine below_set ?_ ?_); (focus (first | omega | (simp; done) | (simp; omega)))))))
        | (refine bodyPost_ret (v := spanOkV (some (f - c + p, t - c + p))) ?_ rfl ⟨?_, ?_⟩
           · simp [results, Try.f8, go_sem, spanOkV]
             omega
           · refine (move_far ?_ ?_ ?_).symm <;> omega
           · exact (by repeat (first | (with_reducible exact Below.refl _ _) | (with_reducible assumption) | (with_reducible refine Below.drew ?_) | ((with_reducible refine below_alloc ?_ ?_); (focus (first | omega | (simp; done) | (simp; omega)))) | ((with_reducible refine below_set ?_ ?_); (focus (first | omega | (simp; done) | (simp; omega)))))))
        | (refine bodyPost_ret (v := spanOkV none) ?_ rfl ⟨?_, ?_⟩
           · simp [results, Try.f8, go_sem, spanOkV]
             done
           · refine (move_not ?_).symm <;> omega
           · exact (by repeat (first | (with_reducible exact Below.refl _ _) | (with_reducible assumption) | (with_reducible refine Below.drew ?_) | ((with_reducible refine below_alloc ?_ ?_); (focus (first | omega | (simp; done) | (simp; omega)))) | ((with_reducible refine below_set ?_ ?_); (focus (first | omega | (simp; done) | (simp; omega)))))))
end Go.Proofs.Ytmgpfldlngjekaa
