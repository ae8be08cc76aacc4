/-
  law21.knows.
-/
import Derived.Test.YtaagkbgbghleiaaNullS
import Derived.Test.YtaagkbgbghleiaaGramC
import Derived.Test.YtaagkbgbghleiaaLits
namespace Go.Proofs.Ytaagkbgbghleiaa
open Go.RowKit Go.Shelf

abbrev sA : ByteArray := ⟨#[97]⟩
abbrev sT : ByteArray := ⟨#[116]⟩
def rxE : Rx := ⟨2, 0, 0, 0, 0⟩
def g2 : Gram := ⟨[⟨sA, [rxE], 0⟩], [sS, sT], [⟨0, [⟨false, 0, 0, 0⟩, ⟨true, 1, 0, 0⟩]⟩, ⟨1, []⟩], 0, 1, 1, 1, 1⟩
theorem g2_right : rightB g2 = true := rightC_right (by kernel_rfl)
theorem g2_empty : growsB g2 false = [false, true] := by rw [← grown_all (rightB_sound g2_right)]; kernel_rfl
theorem g2_makes : growsB g2 true = [true, true] := by rw [← grown_all (rightB_sound g2_right)]; kernel_rfl
theorem g2_reach : reachB g2 = [true, true] := by rw [← reached_all (rightB_sound g2_right)]; kernel_rfl
theorem g2_small : Small g2 := ⟨by decide, by decide, by decide, by intro s h; simp [allNames, tokNames, g2] at h; rcases h with rfl | rfl | rfl <;> decide⟩

/-- Where g2 lies. -/
structure G2At (b0 b1 b2 b3 b4 b5 : Nat) (w : World) : Prop where
  h0 : Holds w b0 103 #[.int .i64 2, .int .u64 0, .int .u64 0, .int .u64 0, .int .u64 0]
  h1 : Holds w b1 47 #[.string sA, .slice (some ⟨b0, 0, none⟩) 1 1, .int .i64 0]
  h2 : Holds w b2 9 #[.string sS, .string sT]
  h3 : Holds w b3 66 #[.bool false, .int .i64 0, .int .i64 0, .int .i64 0, .bool true, .int .i64 1, .int .i64 0, .int .i64 0]
  h4 : Holds w b4 56 #[.int .i64 0, .slice (some ⟨b3, 0, none⟩) 2 2, .int .i64 1, .slice none 0 0]
  h5 : Holds w b5 36 #[.slice (some ⟨b1, 0, none⟩) 1 1, .slice (some ⟨b2, 0, none⟩) 2 2, .slice (some ⟨b4, 0, none⟩) 2 2, .int .i64 0, .int .i64 1, .int .i64 1, .int .i64 1, .int .i64 1]
theorem G2At.is_ {b0 b1 b2 b3 b4 b5 : Nat} {w : World} (h : G2At b0 b1 b2 b3 b4 b5 w) : GramIs w (Old w) (.slice (some ⟨b1, 0, none⟩) 1 1) (.slice (some ⟨b2, 0, none⟩) 2 2) (.slice (some ⟨b4, 0, none⟩) 2 2) g2 :=
  ⟨recs_lit [_] h.h1 h.h1.lt rfl rfl rfl rfl (by decide) ⟨rd_lit' h.h0 h.h0.lt rfl rfl (by decide), trivial⟩, rd_lit' h.h2 h.h2.lt rfl rfl (by decide),
    recs_lit [_, _] h.h4 h.h4.lt rfl rfl rfl rfl (by decide) ⟨rd_lit' h.h3 h.h3.lt rfl rfl (by decide), Rd.nil _ _ _, trivial⟩⟩
theorem G2At.next {b0 b1 b2 b3 b4 b5 : Nat} {w w' : World} (h : G2At b0 b1 b2 b3 b4 b5 w) (hb : Below w.heap.size w w') : G2At b0 b1 b2 b3 b4 b5 w' :=
  ⟨h.h0.below hb h.h0.lt, h.h1.below hb h.h1.lt, h.h2.below hb h.h2.lt, h.h3.below hb h.h3.lt, h.h4.below hb h.h4.lt, h.h5.below hb h.h5.lt⟩
theorem bools_self {a b : Value} {L : List Bool} {w : World} (hA : Bools w (Old w) a L) (hB : Bools w (Old w) b L) :
    Calls Try.prog 47 #[a, b] w fun r w' => r = .returned (.bool true) ∧ Below w.heap.size w w' := by
  have := same_bools a b L L w hA hB
  rwa [eqB_self] at this
theorem g2_calls {b0 b1 b2 b3 b4 b5 : Nat} {w : World} (h : G2At b0 b1 b2 b3 b4 b5 w) :
    Calls Try.prog 44 #[.agg #[.slice (some ⟨b1, 0, none⟩) 1 1, .slice (some ⟨b2, 0, none⟩) 2 2, .slice (some ⟨b4, 0, none⟩) 2 2, .int .i64 0, .int .i64 1, .int .i64 1, .int .i64 1, .int .i64 1]] w (fun r w' => (∃ u, r = .returned u ∧ Hid (Bools w' (Old w') u [false, true])) ∧ Below w.heap.size w w') ∧
    Calls Try.prog 45 #[.agg #[.slice (some ⟨b1, 0, none⟩) 1 1, .slice (some ⟨b2, 0, none⟩) 2 2, .slice (some ⟨b4, 0, none⟩) 2 2, .int .i64 0, .int .i64 1, .int .i64 1, .int .i64 1, .int .i64 1]] w (fun r w' => (∃ u, r = .returned u ∧ Hid (Bools w' (Old w') u [true, true])) ∧ Below w.heap.size w w') ∧
    Calls Try.prog 46 #[.agg #[.slice (some ⟨b1, 0, none⟩) 1 1, .slice (some ⟨b2, 0, none⟩) 2 2, .slice (some ⟨b4, 0, none⟩) 2 2, .int .i64 0, .int .i64 1, .int .i64 1, .int .i64 1, .int .i64 1]] w (fun r w' => (∃ u, r = .returned u ∧ Hid (Bools w' (Old w') u [true, true])) ∧ Below w.heap.size w w') := by
  refine ⟨(null_Empty _ _ _ g2 w h.is_ g2_small).mono ?_, (null_Makes _ _ _ g2 w h.is_ g2_small).mono ?_, (null_Reached _ _ _ g2 w h.is_ g2_small).mono ?_⟩
  all_goals
    rintro r w' ⟨⟨u, rfl, hu⟩, hb⟩
    refine ⟨⟨u, rfl, hidden ?_⟩, hb⟩
    have := hu.out.row (by decide)
    rw [g2_right, if_pos rfl] at this
    first | rwa [g2_empty] at this | rwa [g2_makes] at this | rwa [g2_reach] at this

set_option maxRecDepth 20000 in
set_option maxHeartbeats 8000000 in
theorem knows21 (w : World) : Calls Try.prog 43 #[] w fun r w' => r = .returned (.bool true) ∧ Below w.heap.size w w' := by
  have hb := Below.refl w.heap.size w
  go_enter Try.func43, Try.ntmps43
  go_wp2_with fail
  have HG : Hid (G2At w.heap.size (w.heap.size + 1) (w.heap.size + 1 + 1) (w.heap.size + 1 + 1 + 1) (w.heap.size + 1 + 1 + 1 + 1) (w.heap.size + 1 + 1 + 1 + 1 + 1) ((((((w.alloc (.cells #[.int .i64 2, .int .u64 0, .int .u64 0, .int .u64 0, .int .u64 0] 103)).alloc (.cells #[.string sA, .slice (some ⟨w.heap.size, 0, none⟩) 1 1, .int .i64 0] 47)).alloc (.cells #[.string sS, .string sT] 9)).alloc (.cells #[.bool false, .int .i64 0, .int .i64 0, .int .i64 0, .bool true, .int .i64 1, .int .i64 0, .int .i64 0] 66)).alloc (.cells #[.int .i64 0, .slice (some ⟨w.heap.size + 1 + 1 + 1, 0, none⟩) 2 2, .int .i64 1, .slice none 0 0] 56)).alloc (.cells #[.slice (some ⟨w.heap.size + 1, 0, none⟩) 1 1, .slice (some ⟨w.heap.size + 1 + 1, 0, none⟩) 2 2, .slice (some ⟨w.heap.size + 1 + 1 + 1 + 1, 0, none⟩) 2 2, .int .i64 0, .int .i64 1, .int .i64 1, .int .i64 1, .int .i64 1] 36))) := hidden ⟨(by repeat (first | (with_reducible assumption) | ((with_reducible refine holds_new ?_); (focus (first | rfl | (simp; done)))) | (with_reducible refine Holds.alloc ?_ _) | (with_reducible refine Holds.drew ?_))), (by repeat (first | (with_reducible assumption) | ((with_reducible refine holds_new ?_); (focus (first | rfl | (simp; done)))) | (with_reducible refine Holds.alloc ?_ _) | (with_reducible refine Holds.drew ?_))), (by repeat (first | (with_reducible assumption) | ((with_reducible refine holds_new ?_); (focus (first | rfl | (simp; done)))) | (with_reducible refine Holds.alloc ?_ _) | (with_reducible refine Holds.drew ?_))), (by repeat (first | (with_reducible assumption) | ((with_reducible refine holds_new ?_); (focus (first | rfl | (simp; done)))) | (with_reducible refine Holds.alloc ?_ _) | (with_reducible refine Holds.drew ?_))), (by repeat (first | (with_reducible assumption) | ((with_reducible refine holds_new ?_); (focus (first | rfl | (simp; done)))) | (with_reducible refine Holds.alloc ?_ _) | (with_reducible refine Holds.drew ?_))), (by repeat (first | (with_reducible assumption) | ((with_reducible refine holds_new ?_); (focus (first | rfl | (simp; done)))) | (with_reducible refine Holds.alloc ?_ _) | (with_reducible refine Holds.drew ?_)))⟩
  refine ((g2_calls HG.out).1).mono ?_
  rintro r w2 ⟨⟨u, rfl, hu⟩, hb2⟩
  have hbw : Below w.heap.size w w2 := Below.trans (by repeat (first | (with_reducible exact Below.refl _ _) | (with_reducible assumption) | (with_reducible refine Below.drew ?_) | (with_reducible refine below_drewN ?_ _) | ((with_reducible refine below_alloc ?_ ?_); (focus (first | omega | (simp; done) | (simp; omega)))) | ((with_reducible refine below_set ?_ ?_); (focus (first | omega | (simp; done) | (simp; omega)))))) (hb2.mono (by simp; omega))
  have hz : w.heap.size + 6 ≤ w2.heap.size := by have := hb2.size; simp at this; omega
  replace HG := hidden (HG.out.next hb2)
  clear hb2
  have hal := hidden ((Below.refl w2.heap.size w2).alloc (Nat.le_refl _) (.cells #[.bool false, .bool true] 4))
  have HB := hidden (show BoolsAt (w2.alloc (.cells #[.bool false, .bool true] 4)) w2.heap.size [false, true] from Holds.new w2 4 #[.bool false, .bool true])
  go_wp2_with fail
  refine (bools_self (Rd.old hu.out hal.out) (BoolsAt.row HB.out rfl HB.out.lt (by decide))).mono ?_
  rintro r w3 ⟨rfl, hb3⟩
  have hb4 := hal.out.more hb3
  replace hbw := hbw.trans (hb4.mono hbw.size)
  replace hz := Nat.le_trans hz hb4.size
  replace HG := hidden (HG.out.next hb4)
  clear hb3 hb4 hal HB hu
  obtain ⟨s0, s1, s2, s3, s4, s5, s6, s7⟩ := eight HG.out.h5
  go_wp2_with fail
  refine ((g2_calls HG.out).2.1).mono ?_
  rintro r w2 ⟨⟨u, rfl, hu⟩, hb2⟩
  replace hbw := hbw.trans (hb2.mono hbw.size)
  replace hz := Nat.le_trans hz hb2.size
  replace HG := hidden (HG.out.next hb2)
  clear hb2 s0 s1 s2 s3 s4 s5 s6 s7
  have hal := hidden ((Below.refl w2.heap.size w2).alloc (Nat.le_refl _) (.cells #[.bool true, .bool true] 4))
  have HB := hidden (show BoolsAt (w2.alloc (.cells #[.bool true, .bool true] 4)) w2.heap.size [true, true] from Holds.new w2 4 #[.bool true, .bool true])
  go_wp2_with fail
  refine (bools_self (Rd.old hu.out hal.out) (BoolsAt.row HB.out rfl HB.out.lt (by decide))).mono ?_
  rintro r w3 ⟨rfl, hb3⟩
  have hb4 := hal.out.more hb3
  replace hbw := hbw.trans (hb4.mono hbw.size)
  replace hz := Nat.le_trans hz hb4.size
  replace HG := hidden (HG.out.next hb4)
  clear hb3 hb4 hal HB hu
  obtain ⟨s0, s1, s2, s3, s4, s5, s6, s7⟩ := eight HG.out.h5
  go_wp2_with fail
  refine ((g2_calls HG.out).2.2).mono ?_
  rintro r w2 ⟨⟨u, rfl, hu⟩, hb2⟩
  replace hbw := hbw.trans (hb2.mono hbw.size)
  replace hz := Nat.le_trans hz hb2.size
  replace HG := hidden (HG.out.next hb2)
  clear hb2 s0 s1 s2 s3 s4 s5 s6 s7
  have hal := hidden ((Below.refl w2.heap.size w2).alloc (Nat.le_refl _) (.cells #[.bool true, .bool true] 4))
  have HB := hidden (show BoolsAt (w2.alloc (.cells #[.bool true, .bool true] 4)) w2.heap.size [true, true] from Holds.new w2 4 #[.bool true, .bool true])
  go_wp2_with fail
  refine (bools_self (Rd.old hu.out hal.out) (BoolsAt.row HB.out rfl HB.out.lt (by decide))).mono ?_
  rintro r w3 ⟨rfl, hb3⟩
  have hb4 := hal.out.more hb3
  replace hbw := hbw.trans (hb4.mono hbw.size)
  replace hz := Nat.le_trans hz hb4.size
  replace HG := hidden (HG.out.next hb4)
  clear hb3 hb4 hal HB hu
  obtain ⟨s0, s1, s2, s3, s4, s5, s6, s7⟩ := eight HG.out.h5
  go_wp2
  go_ret
  exact ⟨rfl, hbw⟩
end Go.Proofs.Ytaagkbgbghleiaa
