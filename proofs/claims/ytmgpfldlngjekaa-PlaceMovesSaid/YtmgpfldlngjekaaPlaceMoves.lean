/-
  PlaceMoves: for every input the law returns true; each argument reads behind the call as it read before.
-/
import Derived.Test.YtmgpfldlngjekaaPlaceKnows
import Derived.ProofKit
import Derived.Lib.SmallJoins
namespace Go.Proofs.Ytmgpfldlngjekaa
open Go.RowKit Go.Shelf

theorem spanOk_form (m : Option (Int × Int)) : ∃ (u v : Int) (b : Bool), spanOkV m = .tuple #[.agg #[.int .i64 u, .int .i64 v], .bool b] := by
  cases m with
  | none => exact ⟨0, 0, false, rfl⟩
  | some x => exact ⟨x.1, x.2, true, rfl⟩

set_option maxHeartbeats 1000000 in
theorem law_moves (f t a c p : Int) (w : World) :
    Calls Try.prog 3 #[.agg #[.int .i64 f, .int .i64 t], .int .i64 a, .int .i64 c, .int .i64 p] w fun e w' => e = .returned (.bool true) ∧ Below w.heap.size w w' := by
  have hm := fun w => place_Move f t a c p w
  have hr : ∀ w, Calls Try.prog 9 #[.agg #[.int .i64 f, .int .i64 t], .int .i64 a, .int .i64 c, .int .i64 p] w fun e w' => e = .returned (spanOkV (moveR f t a c p)) ∧ Below w.heap.size w w' := by
    intro w
    by_cases h : 0 ≤ f ∧ f ≤ t ∧ t ≤ 1099511627776 ∧ 0 ≤ a ∧ a ≤ 1099511627776 ∧ 0 ≤ c ∧ c ≤ 1099511627776 ∧ 0 ≤ p ∧ p ≤ 1099511627776
    · obtain ⟨h1, h2, h3, h4, h5, h6, h7, h8, h9⟩ := h
      exact ref_Move_yes f t a c p w h1 h2 h3 h4 h5 h6 h7 h8 h9
    · exact ref_Move_no f t a c p w h
  obtain ⟨u, v, b, he⟩ := spanOk_form (moveR f t a c p)
  rw [he] at hm hr
  have HM := hidden hm
  have HR := hidden hr
  clear hm hr he
  go_enter Try.func3, Try.ntmps3
  go_wp2_with fail
  refine (HM.out _).mono ?_
  rintro e w1 ⟨rfl, hb1⟩
  have q0 := (Holds.new w 23 #[.int .i64 f, .int .i64 t]).below hb1 (by simp)
  have c00 := q0.c20; have c01 := q0.c21; have l0 := q0.lt
  go_wp2_with fail
  refine (HR.out _).mono ?_
  rintro e w2 ⟨rfl, hb2⟩
  have q1 := (Holds.new w1 23 #[.int .i64 u, .int .i64 v]).below hb2 (by simp)
  have c10 := q1.c20; have c11 := q1.c21; have l1 := q1.lt
  have hbb : Below w.heap.size w w2 := ((Below.refl _ w).alloc (Nat.le_refl _) _ |>.trans (hb1.mono (by simp))).trans (((Below.refl _ w1).alloc (Nat.le_refl _) _ |>.trans (hb2.mono (by simp))).mono (by omega))
  have hbz := hbb.size
  clear hb1 hb2 q1 q0 c00 c01
  go_wp2_with (go_at_call 10; refine (knows _).mono ?_; rintro e w3 ⟨rfl, hb3⟩)
  go_ret
  exact ⟨rfl, Below.trans (by exact (by repeat (first | (with_reducible exact Below.refl _ _) | (with_reducible assumption) | (with_reducible refine Below.drew ?_) | ((with_reducible refine below_alloc ?_ ?_); (focus (first | omega | (simp; done) | (simp; omega)))) | ((with_reducible refine below_set ?_ ?_); (focus (first | omega | (simp; done) | (simp; omega))))))) (hb3.mono (by simp; omega))⟩
end Go.Proofs.Ytmgpfldlngjekaa
