/-
  law19: GprintShows.
-/
import Derived.Test.YtfmdmeokbbpmlaaDoorGprO
namespace Go.Proofs.YtfmdmeokbbpmlaaDoor
open Go.RowKit Go.Shelf

set_option maxRecDepth 20000 in
set_option maxHeartbeats 8000000 in
theorem law_gprintShows (a b c : Value) (g : Gram) (w : World) (HG : GramIs w (Old w) a b c g) (hz : Named g) (hwd : ∀ t ∈ g.toks, ∀ x ∈ t.rex, Wordy x) (HW : WordsW w) (HT : TabW w) :
    Calls Tryd.prog 7 #[.agg (gramCells a b c g)] w fun r w' => r = .returned (.bool true) ∧ Below w.heap.size w w' := by
  have F1 := hidden (fun (w' : World) (hb : Below w.heap.size w w') => law_Few a b c g w' (HG.old hb) hz)
  have HK := hidden (fun (w' : World) (hb : Below w.heap.size w w') => knows19 w' (HW.old hb))
  have S1 := hidden (fun (hs : fewB g = true) (w' : World) (hb : Below w.heap.size w w') => gprint_Show a b c g w' (HG.old hb) (HW.old hb) (HT.old hb) (by have := (few_small hs).1; omega) (by have := (few_small hs).2.1; omega) (by have := (few_small hs).2.2; omega) hz hwd)
  have S2 := hidden (fun (hs : fewB g = true) (w' : World) (hb : Below w.heap.size w w') => ref_Show19 a b c g w' (HG.old hb) (by have := (few_small hs).1; omega) (by have := (few_small hs).2.1; omega) (by have := (few_small hs).2.2; omega) hz hwd)
  obtain ⟨⟨A1, k1, rfl, v1, m1⟩, ⟨A2, k2, rfl, v2, m2⟩, ⟨A3, k3, rfl, v3, m3⟩⟩ := HG.vals
  have hb1 := ((Below.refl w.heap.size w).alloc (Nat.le_refl _) (.cells (gramCells (.slice A1 g.toks.length k1) (.slice A2 g.rules.length k2) (.slice A3 g.prods.length k3) g) 41))
  have HJ := hidden (Holds.new w 41 (gramCells (.slice A1 g.toks.length k1) (.slice A2 g.rules.length k2) (.slice A3 g.prods.length k3) g))
  clear HG hz hwd HW HT
  unfold gramCells maxLen at *
  generalize gramT g = s1 at *
  generalize fewB g = fg at *
  go_enter Tryd.func7, Tryd.ntmps7
  go_upto_region 1 with fail
  generalize (w.alloc (.cells #[.slice A1 g.toks.length k1, .slice A2 g.rules.length k2, .slice A3 g.prods.length k3, .int .i64 g.start, .int .i64 g.states, .int .i64 g.text, .int .i64 g.nodes, .int .i64 g.pairs] 41)) = w1 at *
  obtain ⟨g0, g1, g2, g3, g4, g5, g6, g7⟩ := gcells HJ.out
  go_wp2_with fail
  refine (F1.out w1 hb1).mono ?_
  rintro r w2 ⟨rfl, hb2⟩
  replace HJ := hidden (HJ.out.below hb2 HJ.out.lt)
  have hb3 := hb1.trans (hb2.mono hb1.size)
  clear g0 g1 g2 g3 g4 g5 g6 g7 F1 hb1 hb2
  cases fg with
  | false =>
    clear S1 S2 HJ
    go_wp2_with fail
    refine (HK.out w2 hb3).mono ?_
    rintro r w3 ⟨rfl, hb4⟩
    go_wp2
    go_ret
    exact ⟨rfl, hb3.trans (hb4.mono hb3.size)⟩
  | true =>
    replace S1 := hidden (S1.out rfl)
    replace S2 := hidden (S2.out rfl)
    obtain ⟨g0, g1, g2, g3, g4, g5, g6, g7⟩ := gcells HJ.out
    have hs1 := strs_eql s1 s1
    rw [eqB_self] at hs1
    go_upto_region 3 with fail
    have HbA := hidden (fun y : Ext w2 => hb3.trans (y.below.mono hb3.size))
    have d0 := fun y : Ext w2 => Ext.cell g0 y
    have d1 := fun y : Ext w2 => Ext.cell g1 y
    have d2 := fun y : Ext w2 => Ext.cell g2 y
    have d3 := fun y : Ext w2 => Ext.cell g3 y
    have d4 := fun y : Ext w2 => Ext.cell g4 y
    have d5 := fun y : Ext w2 => Ext.cell g5 y
    have d6 := fun y : Ext w2 => Ext.cell g6 y
    have d7 := fun y : Ext w2 => Ext.cell g7 y
    clear g0 g1 g2 g3 g4 g5 g6 g7
    refine wp_region_ext (by kernel_rfl) (by kernel_rfl) ?_
    repeat (go_big_quiet_step (first | (go_at_call 25; exact Ext.call (S1.out _ (HbA.out _))) | (go_at_call 26; exact Ext.call (S2.out _ (HbA.out _))) | (go_at_call 18; exact Ext.call (HK.out _ (HbA.out _)))))
    refine wpQuiet_nil ?_
    intro w5 hb5
    clear d0 d1 d2 d3 d4 d5 d6 d7 HbA S1 S2 HK
    go_wp2
    go_ret
    exact ⟨rfl, hb3.trans (hb5.mono hb3.size)⟩
end Go.Proofs.YtfmdmeokbbpmlaaDoor
