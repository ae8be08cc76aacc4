/-
  facsimileref11.Right, of a rising list.
-/
import Derived.Test.YtdbbjlphlbndkaaB1
import Derived.Test.YtdbbjlphlbndkaaAscU
import Derived.Deep.Quiet
namespace Go.Proofs.Ytdbbjlphlbndkaa
open Go.RowKit Go.Shelf

set_option maxRecDepth 20000 in
set_option maxHeartbeats 4000000 in
theorem ref11_Right (v : Value) (l : List Int) (w : World) (hR : Ints w (Old w) v l) (ha : Asc l) :
    Calls Try.prog 18 #[v] w fun r w' => r = .returned (.bool true) ∧ Below w.heap.size w w' := by
  have HR := hidden (fun (w' : World) (hb : Below w.heap.size w w') => Rd.old hR hb)
  obtain ⟨A, c, rfl, hc1, hc2⟩ := hR.val
  unfold maxLen at hc2
  have HA := hidden ha
  clear hR ha
  go_enter Try.func18, Try.ntmps18
  go_wp2
  go_loopw [3] (fun kk wr => ∃ k : Nat, kk = .int .i64 k ∧ 1 ≤ k ∧ (k ≤ l.length ∨ k = 1) ∧ Hid (Below w.heap.size w wr)) (fun kk wr => l.length - (intOf kk).toNat)
  case atStart => exact ⟨1, by go_num, Nat.le_refl _, .inr rfl, hidden (Below.refl _ _)⟩
  case round =>
    obtain ⟨k, rfl, hk1, hk2, HB⟩ := hrel
    by_cases hlt : k < l.length
    · obtain ⟨j, rfl⟩ : ∃ j, k = j + 1 := ⟨k - 1, by omega⟩
      have h1 := List.getElem?_eq_getElem (l := l) (i := j) (by omega)
      have h2 := List.getElem?_eq_getElem hlt
      have h3 := List.pairwise_iff_getElem.1 HA.out j (j + 1) (by omega) hlt (by omega)
      generalize l[j] = x at *
      generalize l[j + 1] = y at *
      obtain ⟨b, o, hA, _, y1⟩ := row_at (HR.out _ HB.out) h1
      obtain ⟨b', o', hA', _, y2⟩ := row_at (HR.out _ HB.out) h2
      subst hA
      cases hA'
      have q1 : ((j + 1 : Nat) : Int) < (l.length : Int) := by omega
      have q2 : decide (y ≤ x) = false := decide_eq_false (by omega)
      have q3 : ((j + 1 : Nat) : Int) - 1 = (j : Int) := by omega
      clear h1 h2 h3
      go_wp2_with fail
      go_quiet (fail)
      have HB2 : Hid (Below w.heap.size w (wr.drewN nq)) := hidden ⟨HB.out.os, HB.out.tape, HB.out.output, HB.out.size, HB.out.block⟩
      go_wp2
      exact ⟨⟨j + 1 + 1, by go_num, by omega, by omega, HB2⟩, by simp [intOf]; omega⟩
    · have q1 : ¬ (k : Int) < (l.length : Int) := by omega
      have hbw := HB.out
      go_wp2
      go_ret
      exact ⟨rfl, hbw⟩
end Go.Proofs.Ytdbbjlphlbndkaa
