/-
  law27.Few at nodes however many.
-/
import Derived.Test.YtihblifkbljgaaaTreeKnows
namespace Go.Proofs.Ytihblifkbljgaaa
open Go.RowKit Go.Shelf

set_option maxRecDepth 20000 in
set_option maxHeartbeats 2000000 in
theorem few_any (v : Value) (t : List Node) (w : World) (h : Nds w (Old w) v t) :
    Calls Try.prog 12 #[v] w fun e w' => e = .returned (.bool (fewB t)) ∧ Below w.heap.size w w' := by
  by_cases hm : t.length ≤ 120
  · exact few v t w h (by omega)
  obtain ⟨A, c, rfl, hc1, hc2⟩ := h.value
  unfold maxLen at hc2
  have hn := h.later (Below.refl _ w)
  have HF : Hid (fewB t = false) := hidden (by unfold fewB; simp; omega)
  go_enter Try.func12, Try.ntmps12
  go_wp2
  go_loopw [3, 4] (fun n i wr => ∃ (k : Nat) (z : Int), k ≤ t.length ∧ i = .int .i64 k ∧ n = .int .i64 z ∧ Nds wr (fun k => k < w.heap.size) (.slice A t.length c) t ∧ Below w.heap.size w wr) (fun _ i _ => t.length - (intOf i).toNat)
  case atStart => exact ⟨0, 0, Nat.zero_le _, rfl, rfl, hn, Below.refl _ _⟩
  case round =>
    clear hn h
    obtain ⟨k, z, hk, rfl, rfl, h, hb⟩ := hrel
    by_cases hlt : k < t.length
    · obtain ⟨b, off, c', hv, _, _, hT, hat⟩ := h.open_ (by intro e; subst e; simp at hlt)
      simp only [Value.slice.injEq] at hv
      obtain ⟨rfl, _, rfl⟩ := hv
      obtain ⟨l, x0, x1, x2, x3, x4, hp⟩ := hat k _ (List.getElem?_eq_getElem hlt)
      obtain ⟨A', c'', rfl, g1, g2⟩ := hp.value
      unfold maxLen at g2
      clear hat hp x0 x1 x2
      have y3 := Ext.cell x3; have y4 := Ext.cell x4
      generalize t[k] = x at *
      go_wp2_with fail
      refine wp_region_ext (by kernel_rfl) (by kernel_rfl) ?_
      repeat (go_big_quiet_step (fail))
      refine wpQuiet_nil ?_
      simp only [min_if]
      intro w2 hb2
      clear y3 y4 x3 x4
      replace h := h.later (hb2.mono hb.size)
      replace hb := hb.trans (hb2.mono hb.size)
      go_wp2
      go_roundw
      case rel => exact ⟨k + 1, _, by omega, by go_num, rfl, h, hb⟩
      case measure => simp [intOf]; omega
    · obtain rfl : k = t.length := by omega
      have q1 : decide ((t.length : Int) ≤ 120) = false := by simp; omega
      go_wp2
      all_goals (go_ret; exact ⟨by rw [HF.out]; rfl, hb⟩)
end Go.Proofs.Ytihblifkbljgaaa
