/-
  many.Has: slices.BinarySearch at []int.
-/
import Derived.Test.YtmlggfapnkhcaaaAscU
import Derived.Test.YtmlggfapnkhcaaaB1
import Derived.Test.YtmlggfapnkhcaaaNullQ
import Derived.Shelf.Slices.SearchI
import Derived.Shelf.Slices.Empties
namespace Go.Proofs.Ytmlggfapnkhcaaa
open Go.RowKit Go.Shelf

def bs_ren : Go.Shelf.Ren := ⟨fun | 25 => 104 | 31 => 130 | 32 => 131 | 37 => 148 | n => n, fun | 0 => 0 | 3 => 3 | 4 => 4 | 22 => 34 | 40 => 155 | n => n, fun n => n⟩
theorem bs_lays : Lays2.n25 Try.prog bs_ren := {
  mixed := by kernel_rfl
  f25 := Try.func104.trans (congrArg some (by kernel_rfl))
  f31 := Try.func130.trans (congrArg some (by kernel_rfl))
  f32 := Try.func131.trans (congrArg some (by kernel_rfl))
  f37 := Try.func148.trans (congrArg some (by kernel_rfl))
  t0 := Try.underlying0
  a0 := Try.isAgg0
  z0 := Try.sizeOf0
  v0 := Try.zeroValue0
  t3 := Try.underlying3
  a3 := Try.isAgg3
  z3 := Try.sizeOf3
  v3 := Try.zeroValue3
  t4 := Try.underlying4
  a4 := Try.isAgg4
  z4 := Try.sizeOf4
  v4 := Try.zeroValue4
  t22 := Try.underlying34
  a22 := Try.isAgg34
  z22 := Try.sizeOf34
  v22 := Try.zeroValue34
  t40 := Try.underlying155
  a40 := Try.isAgg155
  z40 := Try.sizeOf155
  v40 := Try.zeroValue155 }

set_option maxRecDepth 20000 in
set_option maxHeartbeats 8000000 in
theorem many_Has (v : Value) (l : List Int) (x : Int) (w : World) (hR : Ints w (Old w) v l) (ha : Asc l) (hn : l.length ≤ 1000000) :
    Calls Try.prog 68 #[v, .int .i64 x] w fun r w' => r = .returned (.bool (l.contains x)) ∧ Below w.heap.size w w' := by
  have HB : Hid (Calls Try.prog 104 #[v, .int .i64 x] w fun e w' => (∃ z : Int, e = .returned (.tuple #[.int .i64 z, .bool (l.contains x)])) ∧ ∃ q, w' = w.drewN q) := hidden (by
    obtain ⟨A, c, rfl, hc1, hc2⟩ := hR.val
    cases hl0 : l with
    | nil =>
      subst hl0
      exact (Any.slices_BinarySearch_int_empty bs_lays A c x w).mono (fun e w' h => ⟨⟨0, h.1⟩, 0, h.2⟩)
    | cons y t =>
      rw [← hl0]
      have h0 : 0 < l.length := by rw [hl0]; simp
      obtain ⟨b, off, rfl, _, _⟩ := row_at hR (List.getElem?_eq_getElem h0)
      have hcc : ∀ j, j < l.length → w.cell? ⟨b, off + j, none⟩ = some (.int .i64 (l.getD j 0)) := fun j hj => by
        obtain ⟨b', off', e, _, h⟩ := row_at hR (List.getElem?_eq_getElem hj)
        simp only [Option.some.injEq, Addr.mk.injEq, and_true] at e
        obtain ⟨rfl, rfl⟩ := e
        rw [List.getD_eq_getElem?_getD, List.getElem?_eq_getElem hj]
        exact h
      have hs : (l.take l.length).Pairwise (· ≤ ·) := by
        rw [List.take_of_length_le (Nat.le_refl _)]
        exact ha.imp (fun h => Int.le_of_lt h)
      have := Any.slices_BinarySearch_int bs_lays b off l.length c l x w (Nat.le_refl _) (by omega) hcc hs
      rw [List.take_of_length_le (Nat.le_refl _)] at this
      exact this.mono (fun e w' h => ⟨⟨_, h.1⟩, h.2⟩))
  obtain ⟨A, c, rfl, hc1, hc2⟩ := hR.val
  unfold maxLen at hc2
  clear hR ha
  generalize l.contains x = is at *
  go_enter Try.func68, Try.ntmps68
  go_wp2_with fail
  refine HB.out.mono ?_
  rintro e w2 ⟨⟨z, rfl⟩, q, rfl⟩
  go_wp2
  go_ret
  exact ⟨rfl, below_drewN (Below.refl _ _) _⟩
end Go.Proofs.Ytmlggfapnkhcaaa
