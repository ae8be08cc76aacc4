/-
  Are whole numbers the same (the document's answer of layer 11)? And the chapter's example, plainly.
-/
import Derived.Test.YtihblifkbljgaaaTreeOne
namespace Go.Proofs.Ytihblifkbljgaaa
open Go.RowKit Go.Shelf

theorem list_eq_of {L M : List Nat} (hl : L.length = M.length) (h : ∀ k, k < L.length → L[k]? = M[k]?) : L = M := by
  apply List.ext_getElem?
  intro k
  by_cases hk : k < L.length
  · exact h k hk
  · rw [List.getElem?_eq_none (by omega), List.getElem?_eq_none (by omega)]

set_option maxRecDepth 20000 in
set_option maxHeartbeats 2000000 in
theorem same_ints (a b : Value) (L M : List Nat) (w : World) (hl : L.length ≤ 140737488355) (hA : Rd w (Old w) 1 a L.length (ints L)) (hB : Rd w (Old w) 1 b M.length (ints M)) :
    Calls Try.prog 44 #[a, b] w fun r w' => r = .returned (.bool (decide (L = M))) ∧ Below w.heap.size w w' := by
  obtain ⟨A, c, rfl, hc1, hc2⟩ := hA.val
  obtain ⟨A2, c2, rfl, hd1, hd2⟩ := hB.val
  unfold maxLen at hc2 hd2
  have HA := hidden hA
  have HB := hidden hB
  clear hA hB
  by_cases hlen : L.length = M.length
  · have HT : Hid ((∀ k : Nat, k < L.length → L[k]? = M[k]?) → decide (L = M) = true) := hidden (fun h => by simpa using list_eq_of hlen h)
    have HF : Hid ((∃ (k x y : Nat), L[k]? = some x ∧ M[k]? = some y ∧ x ≠ y) → decide (L = M) = false) := hidden (fun ⟨k, x, y, h1, h2, h3⟩ => by
      simp only [decide_eq_false_iff_not]
      intro e
      subst e
      rw [h1] at h2
      exact h3 (Option.some.inj h2))
    generalize decide (L = M) = r at *
    have HLM := hidden hlen
    rw [← hlen] at hd1 ⊢
    clear hlen
    go_enter Try.func44, Try.ntmps44
    go_wp2
    go_loopw [5] (fun kk wr => ∃ k : Nat, k ≤ L.length ∧ kk = .int .i64 k ∧ Hid (∀ j : Nat, j < k → L[j]? = M[j]?) ∧ Below w.heap.size w wr) (fun kk _ => L.length - (intOf kk).toNat)
    case atStart => exact ⟨0, by omega, rfl, hidden (fun j h => by omega), Below.refl _ _⟩
    case round =>
      obtain ⟨k, hk, rfl, HN, hb⟩ := hrel
      by_cases hlt : k < L.length
      · have hx := List.getElem?_eq_getElem hlt
        have hy := List.getElem?_eq_getElem (show k < M.length by have := HLM.out; omega)
        generalize L[k] = x at *
        generalize M[k]'(by have := HLM.out; omega) = y at *
        obtain ⟨b1, o1, rfl, _, x0⟩ := (HA.out.below hb (fun _ h => h)).ints_at hx
        obtain ⟨b2, o2, rfl, _, y0⟩ := (HB.out.below hb (fun _ h => h)).ints_at hy
        have HX := hidden hx
        have HY := hidden hy
        clear hx hy
        have z0 := Ext.cell x0; have z1 := Ext.cell y0
        go_wp2_with fail
        refine wp_region_ext (by kernel_rfl) (by kernel_rfl) ?_
        repeat (go_big_quiet_step (fail))
        refine wpQuiet_nil ?_
        intro w2 hb2
        clear z0 z1
        replace hb := hb.trans (hb2.mono hb.size)
        by_cases hxy : x = y
        · have HN2 : Hid (∀ j : Nat, j < k + 1 → L[j]? = M[j]?) := hidden (fun j hj => by
            by_cases e : j = k
            · subst e; rw [HX.out, HY.out, hxy]
            · exact HN.out j (by omega))
          subst hxy
          go_wp2
          go_roundw
          case rel => exact ⟨k + 1, by omega, by go_num, HN2, hb⟩
          case measure => simp [intOf]; omega
        · have HE := hidden (HF.out ⟨k, x, y, HX.out, HY.out, hxy⟩)
          have q1 : ((x : Int) != (y : Int)) = true := by rw [bne_iff_ne]; omega
          go_wp2
          go_ret
          exact ⟨by rw [HE.out]; rfl, hb⟩
      · obtain rfl : k = L.length := by omega
        have HE := hidden (HT.out HN.out)
        go_wp2
        go_ret
        exact ⟨by rw [HE.out]; rfl, hb⟩
  · have q1 : (((L.length : Nat) : Int) != (M.length : Int)) = true := by rw [bne_iff_ne]; omega
    have HE : Hid (decide (L = M) = false) := hidden (by
      simp only [decide_eq_false_iff_not]
      intro e; rw [e] at hlen; exact hlen rfl)
    generalize decide (L = M) = r at *
    clear hlen
    go_enter Try.func44, Try.ntmps44
    go_wp2
    go_ret
    exact ⟨by rw [HE.out]; rfl, Below.refl _ _⟩
end Go.Proofs.Ytihblifkbljgaaa
