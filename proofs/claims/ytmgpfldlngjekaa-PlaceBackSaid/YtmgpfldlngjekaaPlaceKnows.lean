/-
  The examples of chapter 03 (knows): true in whatever world.
-/
import Derived.Test.YtmgpfldlngjekaaPlaceAt
import Derived.Test.YtmgpfldlngjekaaPlaceMove2
namespace Go.Proofs.Ytmgpfldlngjekaa
open Go.RowKit Go.Shelf

def ab_c : ByteArray := ⟨#[97, 98, 10, 99]⟩
theorem at_ab_c : spotV (atFrom 0 3 (lineSpans ab_c)) = .tuple #[.agg #[.int .i64 2, .int .i64 1], .bool true] := by kernel_rfl
theorem move_57 : spanOkV (moveR 5 7 1 2 4) = .tuple #[.agg #[.int .i64 7, .int .i64 9], .bool true] := by
  unfold moveR; simp [spanOkV]

theorem knows_at (w : World) :
    Calls Try.prog 19 #[.string ⟨#[97, 98, 10, 99]⟩, .int .i64 3] w fun e w' => e = .returned (.tuple #[.agg #[.int .i64 2, .int .i64 1], .bool true]) ∧ Below w.heap.size w w' := by
  have h := place_At ab_c 3 w (by decide)
  rw [at_ab_c] at h
  exact h
theorem knows_move (w : World) :
    Calls Try.prog 8 #[.agg #[.int .i64 5, .int .i64 7], .int .i64 1, .int .i64 2, .int .i64 4] w fun e w' => e = .returned (.tuple #[.agg #[.int .i64 7, .int .i64 9], .bool true]) ∧ Below w.heap.size w w' := by
  have h := place_Move 5 7 1 2 4 w
  rw [move_57] at h
  exact h

theorem knows (w : World) :
    Calls Try.prog 10 #[] w fun e w' => e = .returned (.bool true) ∧ Below w.heap.size w w' := by
  go_enter Try.func10, Try.ntmps10
  go_wp2_with fail
  refine (knows_at _).mono ?_
  rintro e w1 ⟨rfl, hb1⟩
  have hz1 := hb1.size
  go_wp2_with fail
  refine (knows_move _).mono ?_
  rintro e w2 ⟨rfl, hb2⟩
  have q1 := (Holds.new w1 35 #[.int .i64 2, .int .i64 1]).below hb2 (by simp)
  have c0 := q1.c20; have c1 := q1.c21; have hlt := q1.lt
  have hbb : Below w.heap.size w w2 := hb1.trans (((Below.refl _ w1).alloc (Nat.le_refl _) _ |>.trans (hb2.mono (by simp))).mono hz1)
  have hbz := hbb.size
  clear hb1 hb2 q1
  go_wp2
  go_ret
  exact ⟨rfl, (by repeat (first | (with_reducible exact Below.refl _ _) | (with_reducible assumption) | (with_reducible refine Below.drew ?_) | ((with_reducible refine below_alloc ?_ ?_); (focus (first | omega | (simp; done) | (simp; omega)))) | ((with_reducible refine below_set ?_ ?_); (focus (first | omega | (simp; done) | (simp; omega))))))⟩
end Go.Proofs.Ytmgpfldlngjekaa
