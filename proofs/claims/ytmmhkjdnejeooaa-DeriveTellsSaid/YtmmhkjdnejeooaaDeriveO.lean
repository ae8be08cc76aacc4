/-
  DeriveTells: the walk.
-/
import Derived.Test.YtmmhkjdnejeooaaDeriveN
import Derived.Test.YtmmhkjdnejeooaaDeriveH
import Derived.Test.YtmmhkjdnejeooaaLawSmallF
namespace Go.Proofs.Ytmmhkjdnejeooaa.T
open Go.RowKit Go.Shelf

set_option maxRecDepth 100000 in
set_option maxHeartbeats 16000000 in
theorem law_deriveTells (a b c v : Value) (g : Gram) (t : List Node) (y : Item) (w : World) (HG : GramIs w (Old w) a b c g) (hz : Named g) (HN : Nds w (Old w) v t) :
    Calls Try.prog 3 #[.agg (gramCells a b c g), v, .agg (itV y)] w fun r w' => r = .returned (.bool true) ∧ Below w.heap.size w w' := by
  have HSm := hidden (fun (w' : World) (hb : Below w.heap.size w w') => law_Small a b c g w' (HG.old hb) hz)
  have HFw := hidden (fun (w' : World) (hb : Below w.heap.size w w') => few_any v t w' (HN.old hb))
  have HKn := hidden knows30
  have HF1 := hidden (fun (hs : Small g) (h4 : t.length ≤ 1000000) (w' : World) (hb : Below w.heap.size w w') => derive_Fits a b c v g t w' (HG.old hb) hs (HN.old hb) h4)
  have HF2 := hidden (fun (hs : Small g) (h4 : t.length ≤ 1000000) (w' : World) (hb : Below w.heap.size w w') => ref_Fits30 a b c v g t w' (HG.old hb) hs (HN.old hb) h4)
  have HP1 := hidden (fun (hs : Small g) (h4 : t.length ≤ 1000000) (w' : World) (hb : Below w.heap.size w w') => derive_Part a b c v g t y w' (HG.old hb) hs (HN.old hb) h4)
  have HP2 := hidden (fun (hs : Small g) (h4 : t.length ≤ 1000000) (w' : World) (hb : Below w.heap.size w w') => ref_Part30 a b c v g t y w' (HG.old hb) hs (HN.old hb) h4)
  have HV1 := hidden (fun (hs : Small g) (h4 : t.length ≤ 1000000) (w' : World) (hb : Below w.heap.size w w') => derive_Wrong a b c v g t w' (HG.old hb) hs (HN.old hb) h4)
  have HV2 := hidden (fun (hs : Small g) (h4 : t.length ≤ 1000000) (w' : World) (hb : Below w.heap.size w w') => ref_Wrong30 a b c v g t w' (HG.old hb) hs (HN.old hb) h4)
  have HR1 := hidden (fun (hs : Small g) (x : Node) (l : Value) (w' : World) (hb : Below w.heap.size w w') => derive_Rule a b c l g x w' (HG.old hb) hs)
  have HR2 := hidden (fun (hs : Small g) (x : Node) (l : Value) (w' : World) (hb : Below w.heap.size w w') => ref_Rule30 a b c l g x w' (HG.old hb) hs)
  have HSI := hidden (fun (h : smallB g = true) => (small_is h hz).1)
  have HFI := hidden (fun (h : fewB t = true) => (show t.length ≤ 120 from by unfold fewB at h; simp at h; omega))
  have HND := hidden HN
  obtain ⟨⟨A1, k1, rfl, v1, m1⟩, ⟨A2, k2, rfl, v2, m2⟩, ⟨A3, k3, rfl, v3, m3⟩⟩ := HG.vals
  obtain ⟨A, cc, rfl, hc1, hc2⟩ := HN.value
  generalize partD g t y = pd at *
  obtain ⟨rl, yn, gp, ii⟩ := y
  unfold maxLen at m1 m2 m3 hc2
  unfold gramCells itV at *
  dsimp only at *
  have hb1 : Below w.heap.size w ((w.alloc (.cells #[.slice A1 g.toks.length k1, .slice A2 g.rules.length k2, .slice A3 g.prods.length k3, .int .i64 g.start, .int .i64 g.states, .int .i64 g.text, .int .i64 g.nodes, .int .i64 g.pairs] 26)).alloc (.cells #[.bool rl, .int .i64 yn, .int .i64 gp, .int .i64 ii] 30)) := ((Below.refl _ _).alloc (Nat.le_refl _) _).alloc (by simp) _
  have HB1 : Hid (Holds ((w.alloc (.cells #[.slice A1 g.toks.length k1, .slice A2 g.rules.length k2, .slice A3 g.prods.length k3, .int .i64 g.start, .int .i64 g.states, .int .i64 g.text, .int .i64 g.nodes, .int .i64 g.pairs] 26)).alloc (.cells #[.bool rl, .int .i64 yn, .int .i64 gp, .int .i64 ii] 30)) w.heap.size 26 #[.slice A1 g.toks.length k1, .slice A2 g.rules.length k2, .slice A3 g.prods.length k3, .int .i64 g.start, .int .i64 g.states, .int .i64 g.text, .int .i64 g.nodes, .int .i64 g.pairs]) := hidden (by repeat (first | (with_reducible assumption) | ((with_reducible refine holds_new ?_); (focus (first | rfl | (simp; done)))) | (with_reducible refine Holds.alloc ?_ _) | (with_reducible refine Holds.drew ?_)))
  have HB2 : Hid (Holds ((w.alloc (.cells #[.slice A1 g.toks.length k1, .slice A2 g.rules.length k2, .slice A3 g.prods.length k3, .int .i64 g.start, .int .i64 g.states, .int .i64 g.text, .int .i64 g.nodes, .int .i64 g.pairs] 26)).alloc (.cells #[.bool rl, .int .i64 yn, .int .i64 gp, .int .i64 ii] 30)) (w.heap.size + 1) 30 #[.bool rl, .int .i64 yn, .int .i64 gp, .int .i64 ii]) := hidden (Holds.new_at (by simp))
  clear HG HN
  cases hs1 : smallB g
  · rw [hs1] at HSm
    go_enter Try.func3, Try.ntmps3
    go_upto_region 1 with fail
    generalize ((w.alloc (.cells #[.slice A1 g.toks.length k1, .slice A2 g.rules.length k2, .slice A3 g.prods.length k3, .int .i64 g.start, .int .i64 g.states, .int .i64 g.text, .int .i64 g.nodes, .int .i64 g.pairs] 26)).alloc (.cells #[.bool rl, .int .i64 yn, .int .i64 gp, .int .i64 ii] 30)) = w1 at *
    obtain ⟨x0, x1, x2, x3, x4, x5, x6, x7⟩ := eightR HB1.out
    have HX := hidden (HSm.out _ hb1)
    go_wp2_with fail
    refine HX.out.mono ?_
    rintro r w2 ⟨rfl, hbn⟩
    replace HB1 := hidden (HB1.out.below hbn HB1.out.lt)
    replace HB2 := hidden (HB2.out.below hbn HB2.out.lt)
    replace hb1 := hb1.trans (hbn.mono hb1.size)
    clear x0 x1 x2 x3 x4 x5 x6 x7 hbn HX
    obtain ⟨x0, x1, x2, x3, x4, x5, x6, x7⟩ := eightR HB1.out
    have HX := hidden (HKn.out w2)
    go_wp2_with fail
    refine HX.out.mono ?_
    rintro r w3 ⟨rfl, hbn⟩
    replace HB1 := hidden (HB1.out.below hbn HB1.out.lt)
    replace HB2 := hidden (HB2.out.below hbn HB2.out.lt)
    replace hb1 := hb1.trans (hbn.mono hb1.size)
    clear x0 x1 x2 x3 x4 x5 x6 x7 hbn HX
    go_wp2
    go_ret
    exact ⟨rfl, hb1⟩
  · rw [hs1] at HSm
    have hsm := HSI.out hs1
    cases hs2 : fewB t
    · rw [hs2] at HFw
      go_enter Try.func3, Try.ntmps3
      go_upto_region 1 with fail
      generalize ((w.alloc (.cells #[.slice A1 g.toks.length k1, .slice A2 g.rules.length k2, .slice A3 g.prods.length k3, .int .i64 g.start, .int .i64 g.states, .int .i64 g.text, .int .i64 g.nodes, .int .i64 g.pairs] 26)).alloc (.cells #[.bool rl, .int .i64 yn, .int .i64 gp, .int .i64 ii] 30)) = w1 at *
      obtain ⟨x0, x1, x2, x3, x4, x5, x6, x7⟩ := eightR HB1.out
      have HX := hidden (HSm.out _ hb1)
      go_wp2_with fail
      refine HX.out.mono ?_
      rintro r w2 ⟨rfl, hbn⟩
      replace HB1 := hidden (HB1.out.below hbn HB1.out.lt)
      replace HB2 := hidden (HB2.out.below hbn HB2.out.lt)
      replace hb1 := hb1.trans (hbn.mono hb1.size)
      clear x0 x1 x2 x3 x4 x5 x6 x7 hbn HX
      obtain ⟨x0, x1, x2, x3, x4, x5, x6, x7⟩ := eightR HB1.out
      have HX := hidden (HFw.out _ hb1)
      go_wp2_with fail
      refine HX.out.mono ?_
      rintro r w3 ⟨rfl, hbn⟩
      replace HB1 := hidden (HB1.out.below hbn HB1.out.lt)
      replace HB2 := hidden (HB2.out.below hbn HB2.out.lt)
      replace hb1 := hb1.trans (hbn.mono hb1.size)
      clear x0 x1 x2 x3 x4 x5 x6 x7 hbn HX
      obtain ⟨x0, x1, x2, x3, x4, x5, x6, x7⟩ := eightR HB1.out
      have HX := hidden (HKn.out w3)
      go_wp2_with fail
      refine HX.out.mono ?_
      rintro r w4 ⟨rfl, hbn⟩
      replace HB1 := hidden (HB1.out.below hbn HB1.out.lt)
      replace HB2 := hidden (HB2.out.below hbn HB2.out.lt)
      replace hb1 := hb1.trans (hbn.mono hb1.size)
      clear x0 x1 x2 x3 x4 x5 x6 x7 hbn HX
      go_wp2
      go_ret
      exact ⟨rfl, hb1⟩
    · rw [hs2] at HFw
      have h4 : t.length ≤ 1000000 := by have := HFI.out hs2; omega
      replace HF1 := hidden (HF1.out hsm h4)
      replace HF2 := hidden (HF2.out hsm h4)
      replace HP1 := hidden (HP1.out hsm h4)
      replace HP2 := hidden (HP2.out hsm h4)
      replace HV1 := hidden (HV1.out hsm h4)
      replace HV2 := hidden (HV2.out hsm h4)
      clear hz HSI HFI
      generalize fitsB g t = fb at *
      generalize wrongD g t = wd at *
      rcases t with _ | ⟨x, tr⟩
      · replace HR1 := hidden (HR1.out hsm ⟨0, 0, 0, [], ⟨#[]⟩⟩ (.slice none 0 0))
        replace HR2 := hidden (HR2.out hsm ⟨0, 0, 0, [], ⟨#[]⟩⟩ (.slice none 0 0))
        generalize ruleOf g ⟨0, 0, 0, [], ⟨#[]⟩⟩ = ro at *
        unfold ndV at HR1 HR2
        dsimp only at HR1 HR2
        go_enter Try.func3, Try.ntmps3
        go_upto_region 1 with fail
        generalize ((w.alloc (.cells #[.slice A1 g.toks.length k1, .slice A2 g.rules.length k2, .slice A3 g.prods.length k3, .int .i64 g.start, .int .i64 g.states, .int .i64 g.text, .int .i64 g.nodes, .int .i64 g.pairs] 26)).alloc (.cells #[.bool rl, .int .i64 yn, .int .i64 gp, .int .i64 ii] 30)) = w1 at *
        obtain ⟨x0, x1, x2, x3, x4, x5, x6, x7⟩ := eightR HB1.out
        have HX := hidden (HSm.out _ hb1)
        go_wp2_with fail
        refine HX.out.mono ?_
        rintro r w2 ⟨rfl, hbn⟩
        replace HB1 := hidden (HB1.out.below hbn HB1.out.lt)
        replace HB2 := hidden (HB2.out.below hbn HB2.out.lt)
        replace hb1 := hb1.trans (hbn.mono hb1.size)
        clear x0 x1 x2 x3 x4 x5 x6 x7 hbn HX
        obtain ⟨x0, x1, x2, x3, x4, x5, x6, x7⟩ := eightR HB1.out
        have HX := hidden (HFw.out _ hb1)
        go_wp2_with fail
        refine HX.out.mono ?_
        rintro r w3 ⟨rfl, hbn⟩
        replace HB1 := hidden (HB1.out.below hbn HB1.out.lt)
        replace HB2 := hidden (HB2.out.below hbn HB2.out.lt)
        replace hb1 := hb1.trans (hbn.mono hb1.size)
        clear x0 x1 x2 x3 x4 x5 x6 x7 hbn HX
        go_upto_region 6 with fail
        have HB3 : Hid (Holds (w3.alloc (.cells #[.int .i64 0, .int .i64 0, .int .i64 0, .slice none 0 0, .string ⟨#[]⟩] 37)) w3.heap.size 37 #[.int .i64 0, .int .i64 0, .int .i64 0, .slice none 0 0, .string ⟨#[]⟩]) := hidden (Holds.new _ _ _)
        replace HB1 := hidden (HB1.out.alloc (.cells #[.int .i64 0, .int .i64 0, .int .i64 0, .slice none 0 0, .string ⟨#[]⟩] 37))
        replace HB2 := hidden (HB2.out.alloc (.cells #[.int .i64 0, .int .i64 0, .int .i64 0, .slice none 0 0, .string ⟨#[]⟩] 37))
        replace hb1 := hb1.alloc hb1.size (.cells #[.int .i64 0, .int .i64 0, .int .i64 0, .slice none 0 0, .string ⟨#[]⟩] 37)
        generalize hbx : w3.heap.size = bx at *
        generalize (w3.alloc (.cells #[.int .i64 0, .int .i64 0, .int .i64 0, .slice none 0 0, .string ⟨#[]⟩] 37)) = w6 at *
        clear hbx
        have z0 := HB3.out.cell 0; have z1 := HB3.out.cell 1; have z2 := HB3.out.cell 2; have z3 := HB3.out.cell 3; have z4 := HB3.out.cell 4
        have hbs9 := hb1.size
        have y0 := HB2.out.cell 0; have y1 := HB2.out.cell 1; have y2 := HB2.out.cell 2; have y3 := HB2.out.cell 3
        obtain ⟨x0, x1, x2, x3, x4, x5, x6, x7⟩ := eightR HB1.out
        have e0 := Ext.cell x0
        have e1 := Ext.cell x1
        have e2 := Ext.cell x2
        have e3 := Ext.cell x3
        have e4 := Ext.cell x4
        have e5 := Ext.cell x5
        have e6 := Ext.cell x6
        have e7 := Ext.cell x7
        have e8 := Ext.cell y0
        have e9 := Ext.cell y1
        have e10 := Ext.cell y2
        have e11 := Ext.cell y3
        have e12 := Ext.cell z0
        have e13 := Ext.cell z1
        have e14 := Ext.cell z2
        have e15 := Ext.cell z3
        have e16 := Ext.cell z4
        go_wp2_with fail
        refine wp_region_ext (by kernel_rfl) (by kernel_rfl) ?_
        repeat (go_big_quiet_step (first | (go_at_call 8; exact Ext.call (HF1.out _ (hb1.trans ((Ext.below _).mono hbs9)))) | (go_at_call 9; exact Ext.call (HF2.out _ (hb1.trans ((Ext.below _).mono hbs9)))) | (go_at_call 10; exact Ext.call (HP1.out _ (hb1.trans ((Ext.below _).mono hbs9)))) | (go_at_call 11; exact Ext.call (HP2.out _ (hb1.trans ((Ext.below _).mono hbs9)))) | (go_at_call 12; exact Ext.call (HV1.out _ (hb1.trans ((Ext.below _).mono hbs9)))) | (go_at_call 13; exact Ext.call (HV2.out _ (hb1.trans ((Ext.below _).mono hbs9)))) | (go_at_call 14; exact Ext.call (HR1.out _ (hb1.trans ((Ext.below _).mono hbs9)))) | (go_at_call 15; exact Ext.call (HR2.out _ (hb1.trans ((Ext.below _).mono hbs9)))) | (go_at_call 7; exact Ext.call (HKn.out _))))
        refine wpQuiet_nil ?_
        intro wl hbl
        go_wp2
        go_ret
        exact ⟨rfl, hb1.trans (hbl.mono hbs9)⟩
      · obtain ⟨bt, ot, ct, hvt, _, _, hTt, hat⟩ := HND.out.open_ (by intro e; cases e)
        cases hvt
        obtain ⟨l, z0, z1, z2, z3, z4, hPc⟩ := hat 0 x rfl
        obtain ⟨Al, cl, rfl, _, _⟩ := Rd.val hPc
        replace HR1 := hidden (HR1.out hsm x (.slice Al x.lead.length cl))
        replace HR2 := hidden (HR2.out hsm x (.slice Al x.lead.length cl))
        generalize hll : x.lead.length = nl at *
        clear hll hPc hat
        generalize ruleOf g x = ro at *
        unfold ndV at HR1 HR2
        rw [Nat.zero_mul, Nat.add_zero] at z0 z1 z2 z3 z4
        have ht0 : (0 : Int) < ((x :: tr).length : Int) := by simp
        generalize hlt : (x :: tr).length = tl at *
        have q0 : decide ((0 : Int) < (tl : Int)) = true := decide_eq_true ht0
        have q1 : 0 < tl := by omega
        have hTt2 : bt < w.heap.size := hTt
        go_enter Try.func3, Try.ntmps3
        go_upto_region 1 with fail
        generalize ((w.alloc (.cells #[.slice A1 g.toks.length k1, .slice A2 g.rules.length k2, .slice A3 g.prods.length k3, .int .i64 g.start, .int .i64 g.states, .int .i64 g.text, .int .i64 g.nodes, .int .i64 g.pairs] 26)).alloc (.cells #[.bool rl, .int .i64 yn, .int .i64 gp, .int .i64 ii] 30)) = w1 at *
        obtain ⟨x0, x1, x2, x3, x4, x5, x6, x7⟩ := eightR HB1.out
        have HX := hidden (HSm.out _ hb1)
        go_wp2_with fail
        refine HX.out.mono ?_
        rintro r w2 ⟨rfl, hbn⟩
        replace HB1 := hidden (HB1.out.below hbn HB1.out.lt)
        replace HB2 := hidden (HB2.out.below hbn HB2.out.lt)
        replace hb1 := hb1.trans (hbn.mono hb1.size)
        clear x0 x1 x2 x3 x4 x5 x6 x7 hbn HX
        obtain ⟨x0, x1, x2, x3, x4, x5, x6, x7⟩ := eightR HB1.out
        have HX := hidden (HFw.out _ hb1)
        go_wp2_with fail
        refine HX.out.mono ?_
        rintro r w3 ⟨rfl, hbn⟩
        replace HB1 := hidden (HB1.out.below hbn HB1.out.lt)
        replace HB2 := hidden (HB2.out.below hbn HB2.out.lt)
        replace hb1 := hb1.trans (hbn.mono hb1.size)
        clear x0 x1 x2 x3 x4 x5 x6 x7 hbn HX
        have hbt : bt < w3.heap.size := Nat.lt_of_lt_of_le hTt2 hb1.size
        replace z0 := cellF z0 hb1; replace z1 := cellF z1 hb1; replace z2 := cellF z2 hb1; replace z3 := cellF z3 hb1; replace z4 := cellF z4 hb1
        go_upto_region 6 with fail
        have HB3 : Hid (Holds (w3.alloc (.cells #[.int .i64 x.kind, .int .i64 x.n, .int .i64 x.size, .slice Al nl cl, .string x.text] 37)) w3.heap.size 37 #[.int .i64 x.kind, .int .i64 x.n, .int .i64 x.size, .slice Al nl cl, .string x.text]) := hidden (Holds.new _ _ _)
        replace HB1 := hidden (HB1.out.alloc (.cells #[.int .i64 x.kind, .int .i64 x.n, .int .i64 x.size, .slice Al nl cl, .string x.text] 37))
        replace HB2 := hidden (HB2.out.alloc (.cells #[.int .i64 x.kind, .int .i64 x.n, .int .i64 x.size, .slice Al nl cl, .string x.text] 37))
        replace hb1 := hb1.alloc hb1.size (.cells #[.int .i64 x.kind, .int .i64 x.n, .int .i64 x.size, .slice Al nl cl, .string x.text] 37)
        clear z0 z1 z2 z3 z4
        generalize hbx : w3.heap.size = bx at *
        generalize (w3.alloc (.cells #[.int .i64 x.kind, .int .i64 x.n, .int .i64 x.size, .slice Al nl cl, .string x.text] 37)) = w6 at *
        clear hbx
        have z0 := HB3.out.cell 0; have z1 := HB3.out.cell 1; have z2 := HB3.out.cell 2; have z3 := HB3.out.cell 3; have z4 := HB3.out.cell 4
        have hbs9 := hb1.size
        have y0 := HB2.out.cell 0; have y1 := HB2.out.cell 1; have y2 := HB2.out.cell 2; have y3 := HB2.out.cell 3
        obtain ⟨x0, x1, x2, x3, x4, x5, x6, x7⟩ := eightR HB1.out
        have e0 := Ext.cell x0
        have e1 := Ext.cell x1
        have e2 := Ext.cell x2
        have e3 := Ext.cell x3
        have e4 := Ext.cell x4
        have e5 := Ext.cell x5
        have e6 := Ext.cell x6
        have e7 := Ext.cell x7
        have e8 := Ext.cell y0
        have e9 := Ext.cell y1
        have e10 := Ext.cell y2
        have e11 := Ext.cell y3
        have e12 := Ext.cell z0
        have e13 := Ext.cell z1
        have e14 := Ext.cell z2
        have e15 := Ext.cell z3
        have e16 := Ext.cell z4
        go_wp2_with fail
        refine wp_region_ext (by kernel_rfl) (by kernel_rfl) ?_
        repeat (go_big_quiet_step (first | (go_at_call 8; exact Ext.call (HF1.out _ (hb1.trans ((Ext.below _).mono hbs9)))) | (go_at_call 9; exact Ext.call (HF2.out _ (hb1.trans ((Ext.below _).mono hbs9)))) | (go_at_call 10; exact Ext.call (HP1.out _ (hb1.trans ((Ext.below _).mono hbs9)))) | (go_at_call 11; exact Ext.call (HP2.out _ (hb1.trans ((Ext.below _).mono hbs9)))) | (go_at_call 12; exact Ext.call (HV1.out _ (hb1.trans ((Ext.below _).mono hbs9)))) | (go_at_call 13; exact Ext.call (HV2.out _ (hb1.trans ((Ext.below _).mono hbs9)))) | (go_at_call 14; exact Ext.call (HR1.out _ (hb1.trans ((Ext.below _).mono hbs9)))) | (go_at_call 15; exact Ext.call (HR2.out _ (hb1.trans ((Ext.below _).mono hbs9)))) | (go_at_call 7; exact Ext.call (HKn.out _))))
        refine wpQuiet_nil ?_
        intro wl hbl
        go_wp2
        go_ret
        exact ⟨rfl, hb1.trans (hbl.mono hbs9)⟩
end Go.Proofs.Ytmmhkjdnejeooaa.T
