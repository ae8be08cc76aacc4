/-
  law23.knows.
-/
import Derived.Test.YtmlggfapnkhcaaaFollowG
import Derived.Test.YtmlggfapnkhcaaaK1
namespace Go.Proofs.Ytmlggfapnkhcaaa
open Go.RowKit Go.Shelf

theorem g4_has : folHas g4 0 2 = true := by
  unfold folHas
  rw [g4_fol, if_pos (by decide), holdsB_true (by decide)]
/-- Where g4 lies. -/
structure G4At (b0 b1 b2 b3 b4 b5 b6 : Nat) (w : World) : Prop where
  h0 : Holds w b0 84 #[.int .i64 2, .int .u64 0, .int .u64 0, .int .u64 0, .int .u64 0]
  h1 : Holds w b1 78 #[.string sA, .slice (some ⟨b0, 0, none⟩) 1 1, .int .i64 0, .string sB, .slice (some ⟨b0, 0, none⟩) 1 1, .int .i64 0]
  h2 : Holds w b2 9 #[.string sS, .string sT]
  h3 : Holds w b3 49 #[.bool true, .int .i64 1, .int .i64 0, .int .i64 0, .bool false, .int .i64 0, .int .i64 0, .int .i64 0]
  h4 : Holds w b4 49 #[.bool true, .int .i64 0, .int .i64 0, .int .i64 0, .bool false, .int .i64 1, .int .i64 0, .int .i64 0]
  h5 : Holds w b5 45 #[.int .i64 0, .slice (some ⟨b3, 0, none⟩) 2 2, .int .i64 1, .slice (some ⟨b4, 0, none⟩) 2 2, .int .i64 1, .slice none 0 0]
  h6 : Holds w b6 26 #[.slice (some ⟨b1, 0, none⟩) 2 2, .slice (some ⟨b2, 0, none⟩) 2 2, .slice (some ⟨b5, 0, none⟩) 3 3, .int .i64 0, .int .i64 1, .int .i64 1, .int .i64 1, .int .i64 1]
section
variable {b0 b1 b2 b3 b4 b5 b6 : Nat} {w w' : World}
theorem G4At.is_ (h : G4At b0 b1 b2 b3 b4 b5 b6 w) : GramIs w (Old w) (.slice (some ⟨b1, 0, none⟩) 2 2) (.slice (some ⟨b2, 0, none⟩) 2 2) (.slice (some ⟨b5, 0, none⟩) 3 3) g4 :=
  ⟨recs_lit [_, _] h.h1 h.h1.lt rfl rfl rfl rfl (by decide) ⟨rd_lit' h.h0 h.h0.lt rfl rfl (by decide), rd_lit' h.h0 h.h0.lt rfl rfl (by decide), trivial⟩, rd_lit' h.h2 h.h2.lt rfl rfl (by decide),
    recs_lit [_, _, _] h.h5 h.h5.lt rfl rfl rfl rfl (by decide) ⟨rd_lit' h.h3 h.h3.lt rfl rfl (by decide), rd_lit' h.h4 h.h4.lt rfl rfl (by decide), Rd.nil _ _ _, trivial⟩⟩
theorem G4At.next (h : G4At b0 b1 b2 b3 b4 b5 b6 w) (hb : Below w.heap.size w w') : G4At b0 b1 b2 b3 b4 b5 b6 w' :=
  ⟨h.h0.below hb h.h0.lt, h.h1.below hb h.h1.lt, h.h2.below hb h.h2.lt, h.h3.below hb h.h3.lt, h.h4.below hb h.h4.lt, h.h5.below hb h.h5.lt, h.h6.below hb h.h6.lt⟩
end
set_option maxRecDepth 20000 in
set_option maxHeartbeats 8000000 in
theorem knows23 (w : World) : Calls Try.prog 28 #[] w fun r w' => r = .returned (.bool true) ∧ Below w.heap.size w w' := by
  have hb := Below.refl w.heap.size w
  go_enter Try.func28, Try.ntmps28
  go_wp2_with fail
  have HG : Hid (G4At w.heap.size (w.heap.size + 1) (w.heap.size + 1 + 1) (w.heap.size + 1 + 1 + 1) (w.heap.size + 1 + 1 + 1 + 1) (w.heap.size + 1 + 1 + 1 + 1 + 1) (w.heap.size + 1 + 1 + 1 + 1 + 1 + 1) (((((((w.alloc (.cells #[.int .i64 2, .int .u64 0, .int .u64 0, .int .u64 0, .int .u64 0] 84)).alloc (.cells #[.string sA, .slice (some ⟨w.heap.size, 0, none⟩) 1 1, .int .i64 0, .string sB, .slice (some ⟨w.heap.size, 0, none⟩) 1 1, .int .i64 0] 78)).alloc (.cells #[.string sS, .string sT] 9)).alloc (.cells #[.bool true, .int .i64 1, .int .i64 0, .int .i64 0, .bool false, .int .i64 0, .int .i64 0, .int .i64 0] 49)).alloc (.cells #[.bool true, .int .i64 0, .int .i64 0, .int .i64 0, .bool false, .int .i64 1, .int .i64 0, .int .i64 0] 49)).alloc (.cells #[.int .i64 0, .slice (some ⟨w.heap.size + 1 + 1 + 1, 0, none⟩) 2 2, .int .i64 1, .slice (some ⟨w.heap.size + 1 + 1 + 1 + 1, 0, none⟩) 2 2, .int .i64 1, .slice none 0 0] 45)).alloc (.cells #[.slice (some ⟨w.heap.size + 1, 0, none⟩) 2 2, .slice (some ⟨w.heap.size + 1 + 1, 0, none⟩) 2 2, .slice (some ⟨w.heap.size + 1 + 1 + 1 + 1 + 1, 0, none⟩) 3 3, .int .i64 0, .int .i64 1, .int .i64 1, .int .i64 1, .int .i64 1] 26))) := hidden ⟨(by repeat (first | (with_reducible assumption) | ((with_reducible refine holds_new ?_); (focus (first | rfl | (simp; done)))) | (with_reducible refine Holds.alloc ?_ _) | (with_reducible refine Holds.drew ?_))), (by repeat (first | (with_reducible assumption) | ((with_reducible refine holds_new ?_); (focus (first | rfl | (simp; done)))) | (with_reducible refine Holds.alloc ?_ _) | (with_reducible refine Holds.drew ?_))), (by repeat (first | (with_reducible assumption) | ((with_reducible refine holds_new ?_); (focus (first | rfl | (simp; done)))) | (with_reducible refine Holds.alloc ?_ _) | (with_reducible refine Holds.drew ?_))), (by repeat (first | (with_reducible assumption) | ((with_reducible refine holds_new ?_); (focus (first | rfl | (simp; done)))) | (with_reducible refine Holds.alloc ?_ _) | (with_reducible refine Holds.drew ?_))), (by repeat (first | (with_reducible assumption) | ((with_reducible refine holds_new ?_); (focus (first | rfl | (simp; done)))) | (with_reducible refine Holds.alloc ?_ _) | (with_reducible refine Holds.drew ?_))), (by repeat (first | (with_reducible assumption) | ((with_reducible refine holds_new ?_); (focus (first | rfl | (simp; done)))) | (with_reducible refine Holds.alloc ?_ _) | (with_reducible refine Holds.drew ?_))), (by repeat (first | (with_reducible assumption) | ((with_reducible refine holds_new ?_); (focus (first | rfl | (simp; done)))) | (with_reducible refine Holds.alloc ?_ _) | (with_reducible refine Holds.drew ?_)))⟩
  refine (follow_All _ _ _ g4 _ HG.out.is_ g4_small).mono ?_
  rintro r w2 ⟨⟨u, rfl, hu⟩, hb2⟩
  rw [g4_fol] at hu
  have hbw : Below w.heap.size w w2 := Below.trans (by repeat (first | (with_reducible exact Below.refl _ _) | (with_reducible assumption) | (with_reducible refine Below.drew ?_) | (with_reducible refine below_drewN ?_ _) | ((with_reducible refine below_alloc ?_ ?_); (focus (first | omega | (simp; done) | (simp; omega)))) | ((with_reducible refine below_set ?_ ?_); (focus (first | omega | (simp; done) | (simp; omega)))))) (hb2.mono (by simp; omega))
  have hz : w.heap.size + 7 ≤ w2.heap.size := by have := hb2.size; simp at this; omega
  replace HG := hidden (HG.out.next hb2)
  clear hb2
  have hal := hidden ((((Below.refl w2.heap.size w2).alloc (Nat.le_refl _) (.cells #[.int .i64 1, .int .i64 2] 3)).alloc (by simp) (.cells #[.int .i64 0] 3)).alloc (by simp; omega) (.cells #[.slice (some ⟨w2.heap.size, 0, none⟩) 2 2, .slice (some ⟨w2.heap.size + 1, 0, none⟩) 1 1] 34))
  have HB : Hid (Rows2 (((w2.alloc (.cells #[.int .i64 1, .int .i64 2] 3)).alloc (.cells #[.int .i64 0] 3)).alloc (.cells #[.slice (some ⟨w2.heap.size, 0, none⟩) 2 2, .slice (some ⟨w2.heap.size + 1, 0, none⟩) 1 1] 34)) (Old (((w2.alloc (.cells #[.int .i64 1, .int .i64 2] 3)).alloc (.cells #[.int .i64 0] 3)).alloc (.cells #[.slice (some ⟨w2.heap.size, 0, none⟩) 2 2, .slice (some ⟨w2.heap.size + 1, 0, none⟩) 1 1] 34))) (.slice (some ⟨w2.heap.size + 1 + 1, 0, none⟩) 2 2) [[1, 2], [0]]) := hidden (by
    have x0 : Holds (((w2.alloc (.cells #[.int .i64 1, .int .i64 2] 3)).alloc (.cells #[.int .i64 0] 3)).alloc (.cells #[.slice (some ⟨w2.heap.size, 0, none⟩) 2 2, .slice (some ⟨w2.heap.size + 1, 0, none⟩) 1 1] 34)) w2.heap.size 3 #[.int .i64 1, .int .i64 2] := (by repeat (first | (with_reducible assumption) | ((with_reducible refine holds_new ?_); (focus (first | rfl | (simp; done)))) | (with_reducible refine Holds.alloc ?_ _) | (with_reducible refine Holds.drew ?_)))
    have x1 : Holds (((w2.alloc (.cells #[.int .i64 1, .int .i64 2] 3)).alloc (.cells #[.int .i64 0] 3)).alloc (.cells #[.slice (some ⟨w2.heap.size, 0, none⟩) 2 2, .slice (some ⟨w2.heap.size + 1, 0, none⟩) 1 1] 34)) (w2.heap.size + 1) 3 #[.int .i64 0] := (by repeat (first | (with_reducible assumption) | ((with_reducible refine holds_new ?_); (focus (first | rfl | (simp; done)))) | (with_reducible refine Holds.alloc ?_ _) | (with_reducible refine Holds.drew ?_)))
    have x2 : Holds (((w2.alloc (.cells #[.int .i64 1, .int .i64 2] 3)).alloc (.cells #[.int .i64 0] 3)).alloc (.cells #[.slice (some ⟨w2.heap.size, 0, none⟩) 2 2, .slice (some ⟨w2.heap.size + 1, 0, none⟩) 1 1] 34)) (w2.heap.size + 1 + 1) 34 #[.slice (some ⟨w2.heap.size, 0, none⟩) 2 2, .slice (some ⟨w2.heap.size + 1, 0, none⟩) 1 1] := (by repeat (first | (with_reducible assumption) | ((with_reducible refine holds_new ?_); (focus (first | rfl | (simp; done)))) | (with_reducible refine Holds.alloc ?_ _) | (with_reducible refine Holds.drew ?_)))
    exact recs_lit (R := rowI) [_, _] x2 x2.lt rfl rfl rfl rfl (by decide) ⟨rd_lit' x0 x0.lt rfl rfl (by decide), rd_lit' x1 x1.lt rfl rfl (by decide), trivial⟩)
  have HuA := hidden (Recs.old hu.out hal.out)
  obtain ⟨Au, cu, rfl, _, _⟩ := hu.out.value
  clear hu
  go_wp2_with fail
  refine (lists_self HuA.out HB.out).mono ?_
  rintro r w3 ⟨rfl, hb3⟩
  have hb4 := hal.out.more hb3
  replace hbw := hbw.trans (hb4.mono hbw.size)
  replace hz := Nat.le_trans hz hb4.size
  replace HG := hidden (HG.out.next hb4)
  clear hb3 hb4 hal HB HuA
  obtain ⟨s0, s1, s2, s3, s4, s5, s6, s7⟩ := eight HG.out.h6
  have HS1 := hidden (follow_End _ _ _ g4 w3 HG.out.is_ g4_small)
  rw [g4_right, if_pos rfl] at HS1
  go_wp2_with fail
  refine HS1.out.mono ?_
  rintro r w4 ⟨rfl, hb4⟩
  replace hbw := hbw.trans (hb4.mono hbw.size)
  replace hz := Nat.le_trans hz hb4.size
  replace HG := hidden (HG.out.next hb4)
  clear hb4 HS1 s0 s1 s2 s3 s4 s5 s6 s7
  obtain ⟨s0, s1, s2, s3, s4, s5, s6, s7⟩ := eight HG.out.h6
  have HS1 := hidden (follow_Follows _ _ _ g4 0 2 w4 HG.out.is_ g4_small)
  rw [g4_has] at HS1
  have q2 : (((g4.toks.length : Nat) : Int) == 2) = true := by decide
  go_wp2_with fail
  refine HS1.out.mono ?_
  rintro r w5 ⟨rfl, hb4⟩
  replace hbw := hbw.trans (hb4.mono hbw.size)
  clear hb4 HS1 s0 s1 s2 s3 s4 s5 s6 s7
  go_wp2
  go_ret
  exact ⟨rfl, hbw⟩

end Go.Proofs.Ytmlggfapnkhcaaa
