/-
  law21.knows.
-/
import Derived.Test.YtmlggfapnkhcaaaNullS
import Derived.Test.YtmlggfapnkhcaaaGramC
import Derived.Test.YtmlggfapnkhcaaaLits
namespace Go.Proofs.Ytmlggfapnkhcaaa
open Go.RowKit Go.Shelf

abbrev sA : ByteArray := ⟨#[97]⟩
abbrev sT : ByteArray := ⟨#[116]⟩
def rxE : Rx := ⟨2, 0, 0, 0, 0⟩
def g2 : Gram := ⟨[⟨sA, [rxE], 0⟩], [sS, sT], [⟨0, [⟨false, 0, 0, 0⟩, ⟨true, 1, 0, 0⟩]⟩, ⟨1, []⟩], 0, 1, 1, 1, 1⟩
theorem g2_right : rightB g2 = true := rightC_right (by kernel_rfl)
theorem g2_empty : growsB g2 false = [false, true] := by rw [← grown_all (rightB_sound g2_right)]; kernel_rfl
theorem g2_makes : growsB g2 true = [true, true] := by rw [← grown_all (rightB_sound g2_right)]; kernel_rfl
theorem g2_reach : reachB g2 = [true, true] := by rw [← reached_all (rightB_sound g2_right)]; kernel_rfl
theorem g2_small : Small g2 := ⟨by decide, by decide, by decide, by intro s h; simp [allNames, tokNames, g2] at h; rcases h with rfl | rfl | rfl <;> decide⟩

/-- Where g2 lies. -/
structure G2At (b0 b1 b2 b3 b4 b5 : Nat) (w : World) : Prop where
  h0 : Holds w b0 84 #[.int .i64 2, .int .u64 0, .int .u64 0, .int .u64 0, .int .u64 0]
  h1 : Holds w b1 78 #[.string sA, .slice (some ⟨b0, 0, none⟩) 1 1, .int .i64 0]
  h2 : Holds w b2 9 #[.string sS, .string sT]
  h3 : Holds w b3 49 #[.bool false, .int .i64 0, .int .i64 0, .int .i64 0, .bool true, .int .i64 1, .int .i64 0, .int .i64 0]
  h4 : Holds w b4 45 #[.int .i64 0, .slice (some ⟨b3, 0, none⟩) 2 2, .int .i64 1, .slice none 0 0]
  h5 : Holds w b5 26 #[.slice (some ⟨b1, 0, none⟩) 1 1, .slice (some ⟨b2, 0, none⟩) 2 2, .slice (some ⟨b4, 0, none⟩) 2 2, .int .i64 0, .int .i64 1, .int .i64 1, .int .i64 1, .int .i64 1]
theorem G2At.is_ {b0 b1 b2 b3 b4 b5 : Nat} {w : World} (h : G2At b0 b1 b2 b3 b4 b5 w) : GramIs w (Old w) (.slice (some ⟨b1, 0, none⟩) 1 1) (.slice (some ⟨b2, 0, none⟩) 2 2) (.slice (some ⟨b4, 0, none⟩) 2 2) g2 :=
  ⟨recs_lit [_] h.h1 h.h1.lt rfl rfl rfl rfl (by decide) ⟨rd_lit' h.h0 h.h0.lt rfl rfl (by decide), trivial⟩, rd_lit' h.h2 h.h2.lt rfl rfl (by decide),
    recs_lit [_, _] h.h4 h.h4.lt rfl rfl rfl rfl (by decide) ⟨rd_lit' h.h3 h.h3.lt rfl rfl (by decide), Rd.nil _ _ _, trivial⟩⟩
theorem G2At.next {b0 b1 b2 b3 b4 b5 : Nat} {w w' : World} (h : G2At b0 b1 b2 b3 b4 b5 w) (hb : Below w.heap.size w w') : G2At b0 b1 b2 b3 b4 b5 w' :=
  ⟨h.h0.below hb h.h0.lt, h.h1.below hb h.h1.lt, h.h2.below hb h.h2.lt, h.h3.below hb h.h3.lt, h.h4.below hb h.h4.lt, h.h5.below hb h.h5.lt⟩
end Go.Proofs.Ytmlggfapnkhcaaa
