/-
  gprint: an item's name.
-/
import Derived.Test.YtfmdmeokbbpmlaaDoorGprP
namespace Go.Proofs.YtfmdmeokbbpmlaaDoor
open Go.RowKit Go.Shelf

def itV (x : Item) : Array Value := #[.bool x.rule, .int .i64 x.n, .int .i64 x.gap, .int .i64 x.in_]
set_option maxRecDepth 20000 in
set_option maxHeartbeats 4000000 in
theorem gprint_name (a b c : Value) (g : Gram) (x : Item) (w : World) (HG : GramIs w (Old w) a b c g) :
    Calls Tryd.prog 90 #[.agg (gramCells a b c g), .agg (itV x)] w fun r w' => r = .returned (.string (nameOf g x)) ∧ Below w.heap.size w w' := by
  obtain ⟨A1, k1, rfl, h11, h12⟩ := HG.1.value
  obtain ⟨A2, k2, rfl, h21, h22⟩ := HG.2.1.val
  obtain ⟨A3, k3, rfl, h31, h32⟩ := HG.2.2.value
  unfold maxLen at h12 h22 h32
  obtain ⟨xr, xn, xg, xi⟩ := x
  unfold gramCells itV
  dsimp only
  have hb : Below w.heap.size w ((w.alloc (.cells (gramCells (.slice A1 g.toks.length k1) (.slice A2 g.rules.length k2) (.slice A3 g.prods.length k3) g) 41)).alloc (.cells #[.bool xr, .int .i64 xn, .int .i64 xg, .int .i64 xi] 47)) := ((Below.refl _ _).alloc (Nat.le_refl _) _).alloc (by simp) _
  unfold gramCells at hb
  by_cases hn : xn < 0
  · have he : nameOf g ⟨xr, xn, xg, xi⟩ = ByteArray.empty := by unfold nameOf; rw [if_pos hn]
    rw [he]
    clear HG he
    go_enter Tryd.func90, Tryd.ntmps90
    go_wp2
    go_ret
    exact ⟨rfl, hb⟩
  · obtain ⟨k, rfl⟩ : ∃ k : Nat, xn = (k : Int) := ⟨xn.toNat, by omega⟩
    have q0 : ¬ (k : Int) < 0 := by omega
    have q1 : (0 : Int) ≤ (k : Int) := by omega
    clear hn
    cases xr with
    | true =>
      have he : nameOf g ⟨true, (k : Int), xg, xi⟩ = (g.rules[k]?).getD ByteArray.empty := by unfold nameOf; rw [if_neg q0, if_pos rfl]; rfl
      rw [he]
      clear he
      by_cases hk : k < g.rules.length
      · have hx := List.getElem?_eq_getElem hk
        obtain ⟨b, off, rfl, hT, hc⟩ := strs_at HG.2.1 hx
        rw [hx, Option.getD_some]
        generalize g.rules[k] = s at *
        have q2 : (k : Int) < (g.rules.length : Int) := by omega
        have hl0 : b < w.heap.size := hT
        have hl1 : b < w.heap.size + 1 := by omega
        clear HG hx hT
        go_enter Tryd.func90, Tryd.ntmps90
        go_wp2
        go_ret
        exact ⟨rfl, hb⟩
      · have q2 : ¬ (k : Int) < (g.rules.length : Int) := by omega
        rw [List.getElem?_eq_none (by omega)]
        clear HG
        go_enter Tryd.func90, Tryd.ntmps90
        go_wp2
        go_ret
        exact ⟨rfl, hb⟩
    | false =>
      have he : nameOf g ⟨false, (k : Int), xg, xi⟩ = ((g.toks[k]?).map (·.name)).getD ByteArray.empty := by unfold nameOf; rw [if_neg q0, if_neg Bool.false_ne_true]; rfl
      rw [he]
      clear he
      by_cases hk : k < g.toks.length
      · have hx := List.getElem?_eq_getElem hk
        obtain ⟨b, off, l, rfl, hT, hc, -⟩ := HG.1.at_ hx
        rw [hx, Option.map_some, Option.getD_some]
        have hc0 := hc 0 _ rfl
        rw [show tokR.k = 3 from rfl, Nat.add_zero] at hc0
        generalize g.toks[k] = t at *
        have q2 : (k : Int) < (g.toks.length : Int) := by omega
        have hl0 : b < w.heap.size := hT
        have hl1 : b < w.heap.size + 1 := by omega
        clear HG hx hT hc
        go_enter Tryd.func90, Tryd.ntmps90
        go_wp2
        go_ret
        exact ⟨rfl, hb⟩
      · have q2 : ¬ (k : Int) < (g.toks.length : Int) := by omega
        rw [List.getElem?_eq_none (by omega)]
        clear HG
        go_enter Tryd.func90, Tryd.ntmps90
        go_wp2
        go_ret
        exact ⟨rfl, hb⟩
end Go.Proofs.YtfmdmeokbbpmlaaDoor
