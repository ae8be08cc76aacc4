/-
  FindTells: the walk.
-/
import Derived.Test.YtdbbjlphlbndkaaGreatFindK
import Derived.Test.YtdbbjlphlbndkaaGreatFindR6
import Derived.Test.YtdbbjlphlbndkaaGreatLawSmallF
namespace Go.Proofs.YtdbbjlphlbndkaaGreat.T
open Go.RowKit Go.Shelf

set_option maxRecDepth 100000 in
set_option maxHeartbeats 16000000 in
theorem law_findTells (a b c v lv : Value) (g : Gram) (t : List Node) (s : ByteArray) (x : Node) (w : World) (HG : GramIs w (Old w) a b c g) (hz : Named g) (HN : Nds w (Old w) v t) (hs : s.size ≤ maxLen) (hbk : bulkT t ≤ 1048576) :
    Calls Tryz.prog 3 #[.agg (gramCells a b c g), v, .string s, .agg (ndV x lv)] w fun r w' => r = .returned (.bool true) ∧ Below w.heap.size w w' := by
  have HSm := hidden (fun (w' : World) (hb : Below w.heap.size w w') => law_Small a b c g w' (HG.old hb) hz)
  have HFw := hidden (fun (w' : World) (hb : Below w.heap.size w w') => few_any v t w' (HN.old hb))
  have HKn := hidden knows41
  have HO1 := hidden (fun (hs1 : Small g) (h4 : t.length ≤ 60) (w' : World) (hb : Below w.heap.size w w') => find_Of a b c v g t s w' (HG.old hb) hs1 hs (by omega) (HN.old hb))
  have HO2 := hidden (fun (hs1 : Small g) (h4 : t.length ≤ 60) (w' : World) (hb : Below w.heap.size w w') => ref_Of41 a b c v g t s w' (HG.old hb) hs1 hs h4 (HN.old hb))
  have HT1 := hidden (fun (hs1 : Small g) (h4 : t.length ≤ 60) (w' : World) (hb : Below w.heap.size w w') => find_Texts a b c v g t s w' (HG.old hb) hs1 hs hbk (by omega) (HN.old hb) (fun ht i hi => span_bounds ht hi))
  have HT2 := hidden (fun (hs1 : Small g) (h4 : t.length ≤ 60) (w' : World) (hb : Below w.heap.size w w') => ref_Texts41 a b c v g t s w' (HG.old hb) hs1 hs hbk h4 (HN.old hb) (fun ht i hi => span_bounds ht hi))
  have HC1 := hidden (fun (hs1 : Small g) (w' : World) (hb : Below w.heap.size w w') => find_Check a b c g s w' (HG.old hb) hs1 hs)
  have HC2 := hidden (fun (hs1 : Small g) (w' : World) (hb : Below w.heap.size w w') => ref_Check41 a b c g s w' (HG.old hb) hs1 hs)
  have HN1 := hidden (fun (hs1 : Small g) (w' : World) (hb : Below w.heap.size w w') => find_Named a b c lv g x s w' (HG.old hb) hs1)
  have HN2 := hidden (fun (hs1 : Small g) (w' : World) (hb : Below w.heap.size w w') => ref_Named41 a b c lv g x s w' (HG.old hb) hs1)
  have HSI := hidden (fun (h : smallB g = true) => (small_is h hz).1)
  have hrz := ofRow_len (g := g) (t := t) (s := s)
  obtain ⟨⟨A1, k1, rfl, v1, m1⟩, ⟨A2, k2, rfl, v2, m2⟩, ⟨A3, k3, rfl, v3, m3⟩⟩ := HG.vals
  obtain ⟨A, cc, rfl, hc1, hc2⟩ := HN.value
  unfold maxLen at m1 m2 m3 hs hc2
  unfold gramCells ndV at *
  have hb1 : Below w.heap.size w ((w.alloc (.cells #[.slice A1 g.toks.length k1, .slice A2 g.rules.length k2, .slice A3 g.prods.length k3, .int .i64 g.start, .int .i64 g.states, .int .i64 g.text, .int .i64 g.nodes, .int .i64 g.pairs] 26)).alloc (.cells #[.int .i64 x.kind, .int .i64 x.n, .int .i64 x.size, lv, .string x.text] 31)) := ((Below.refl _ _).alloc (Nat.le_refl _) _).alloc (by simp) _
  have HB1 : Hid (Holds ((w.alloc (.cells #[.slice A1 g.toks.length k1, .slice A2 g.rules.length k2, .slice A3 g.prods.length k3, .int .i64 g.start, .int .i64 g.states, .int .i64 g.text, .int .i64 g.nodes, .int .i64 g.pairs] 26)).alloc (.cells #[.int .i64 x.kind, .int .i64 x.n, .int .i64 x.size, lv, .string x.text] 31)) w.heap.size 26 #[.slice A1 g.toks.length k1, .slice A2 g.rules.length k2, .slice A3 g.prods.length k3, .int .i64 g.start, .int .i64 g.states, .int .i64 g.text, .int .i64 g.nodes, .int .i64 g.pairs]) := hidden (by repeat (first | (with_reducible assumption) | ((with_reducible refine holds_new ?_); (focus (first | rfl | (simp; done)))) | (with_reducible refine Holds.alloc ?_ _) | (with_reducible refine Holds.drew ?_)))
  have HB2 : Hid (Holds ((w.alloc (.cells #[.slice A1 g.toks.length k1, .slice A2 g.rules.length k2, .slice A3 g.prods.length k3, .int .i64 g.start, .int .i64 g.states, .int .i64 g.text, .int .i64 g.nodes, .int .i64 g.pairs] 26)).alloc (.cells #[.int .i64 x.kind, .int .i64 x.n, .int .i64 x.size, lv, .string x.text] 31)) (w.heap.size + 1) 31 #[.int .i64 x.kind, .int .i64 x.n, .int .i64 x.size, lv, .string x.text]) := hidden (Holds.new_at (by simp))
  clear HG HN
  cases hs1 : smallB g
  · rw [hs1] at HSm
    go_enter Tryz.func3, Tryz.ntmps3
    go_upto_region 1 with fail
    generalize ((w.alloc (.cells #[.slice A1 g.toks.length k1, .slice A2 g.rules.length k2, .slice A3 g.prods.length k3, .int .i64 g.start, .int .i64 g.states, .int .i64 g.text, .int .i64 g.nodes, .int .i64 g.pairs] 26)).alloc (.cells #[.int .i64 x.kind, .int .i64 x.n, .int .i64 x.size, lv, .string x.text] 31)) = w1 at *
    obtain ⟨x0, x1, x2, x3, x4, x5, x6, x7⟩ := eightR HB1.out
    have HX := hidden (HSm.out _ hb1)
    go_wp2_with fail
    refine HX.out.mono ?_
    rintro r w2 ⟨rfl, hbn⟩
    replace HB1 := hidden (HB1.out.below hbn HB1.out.lt)
    replace HB2 := hidden (HB2.out.below hbn HB2.out.lt)
    replace hb1 := hb1.trans (hbn.mono hb1.size)
    clear x0 x1 x2 x3 x4 x5 x6 x7 hbn HX
    obtain ⟨x0, x1, x2, x3, x4, x5, x6, x7⟩ := eightR HB1.out
    have HX := hidden (HKn.out w2)
    go_wp2_with fail
    refine HX.out.mono ?_
    rintro r w3 ⟨rfl, hbn⟩
    replace HB1 := hidden (HB1.out.below hbn HB1.out.lt)
    replace HB2 := hidden (HB2.out.below hbn HB2.out.lt)
    replace hb1 := hb1.trans (hbn.mono hb1.size)
    clear x0 x1 x2 x3 x4 x5 x6 x7 hbn HX
    go_wp2
    go_ret
    exact ⟨rfl, hb1⟩
  · rw [hs1] at HSm
    have hsm := HSI.out hs1
    cases hs2 : fewB t
    · rw [hs2] at HFw
      go_enter Tryz.func3, Tryz.ntmps3
      go_upto_region 1 with fail
      generalize ((w.alloc (.cells #[.slice A1 g.toks.length k1, .slice A2 g.rules.length k2, .slice A3 g.prods.length k3, .int .i64 g.start, .int .i64 g.states, .int .i64 g.text, .int .i64 g.nodes, .int .i64 g.pairs] 26)).alloc (.cells #[.int .i64 x.kind, .int .i64 x.n, .int .i64 x.size, lv, .string x.text] 31)) = w1 at *
      obtain ⟨x0, x1, x2, x3, x4, x5, x6, x7⟩ := eightR HB1.out
      have HX := hidden (HSm.out _ hb1)
      go_wp2_with fail
      refine HX.out.mono ?_
      rintro r w2 ⟨rfl, hbn⟩
      replace HB1 := hidden (HB1.out.below hbn HB1.out.lt)
      replace HB2 := hidden (HB2.out.below hbn HB2.out.lt)
      replace hb1 := hb1.trans (hbn.mono hb1.size)
      clear x0 x1 x2 x3 x4 x5 x6 x7 hbn HX
      obtain ⟨x0, x1, x2, x3, x4, x5, x6, x7⟩ := eightR HB1.out
      have HX := hidden (HFw.out _ hb1)
      go_wp2_with fail
      refine HX.out.mono ?_
      rintro r w3 ⟨rfl, hbn⟩
      replace HB1 := hidden (HB1.out.below hbn HB1.out.lt)
      replace HB2 := hidden (HB2.out.below hbn HB2.out.lt)
      replace hb1 := hb1.trans (hbn.mono hb1.size)
      clear x0 x1 x2 x3 x4 x5 x6 x7 hbn HX
      obtain ⟨x0, x1, x2, x3, x4, x5, x6, x7⟩ := eightR HB1.out
      have HX := hidden (HKn.out w3)
      go_wp2_with fail
      refine HX.out.mono ?_
      rintro r w4 ⟨rfl, hbn⟩
      replace HB1 := hidden (HB1.out.below hbn HB1.out.lt)
      replace HB2 := hidden (HB2.out.below hbn HB2.out.lt)
      replace hb1 := hb1.trans (hbn.mono hb1.size)
      clear x0 x1 x2 x3 x4 x5 x6 x7 hbn HX
      go_wp2
      go_ret
      exact ⟨rfl, hb1⟩
    · rw [hs2] at HFw
      by_cases hs3 : 60 < t.length
      · have q3 : decide ((60 : Int) < (t.length : Int)) = true := decide_eq_true (by omega)
        go_enter Tryz.func3, Tryz.ntmps3
        go_upto_region 1 with fail
        generalize ((w.alloc (.cells #[.slice A1 g.toks.length k1, .slice A2 g.rules.length k2, .slice A3 g.prods.length k3, .int .i64 g.start, .int .i64 g.states, .int .i64 g.text, .int .i64 g.nodes, .int .i64 g.pairs] 26)).alloc (.cells #[.int .i64 x.kind, .int .i64 x.n, .int .i64 x.size, lv, .string x.text] 31)) = w1 at *
        obtain ⟨x0, x1, x2, x3, x4, x5, x6, x7⟩ := eightR HB1.out
        have HX := hidden (HSm.out _ hb1)
        go_wp2_with fail
        refine HX.out.mono ?_
        rintro r w2 ⟨rfl, hbn⟩
        replace HB1 := hidden (HB1.out.below hbn HB1.out.lt)
        replace HB2 := hidden (HB2.out.below hbn HB2.out.lt)
        replace hb1 := hb1.trans (hbn.mono hb1.size)
        clear x0 x1 x2 x3 x4 x5 x6 x7 hbn HX
        obtain ⟨x0, x1, x2, x3, x4, x5, x6, x7⟩ := eightR HB1.out
        have HX := hidden (HFw.out _ hb1)
        go_wp2_with fail
        refine HX.out.mono ?_
        rintro r w3 ⟨rfl, hbn⟩
        replace HB1 := hidden (HB1.out.below hbn HB1.out.lt)
        replace HB2 := hidden (HB2.out.below hbn HB2.out.lt)
        replace hb1 := hb1.trans (hbn.mono hb1.size)
        clear x0 x1 x2 x3 x4 x5 x6 x7 hbn HX
        obtain ⟨x0, x1, x2, x3, x4, x5, x6, x7⟩ := eightR HB1.out
        have HX := hidden (HKn.out w3)
        go_wp2_with fail
        refine HX.out.mono ?_
        rintro r w4 ⟨rfl, hbn⟩
        replace HB1 := hidden (HB1.out.below hbn HB1.out.lt)
        replace HB2 := hidden (HB2.out.below hbn HB2.out.lt)
        replace hb1 := hb1.trans (hbn.mono hb1.size)
        clear x0 x1 x2 x3 x4 x5 x6 x7 hbn HX
        go_wp2
        go_ret
        exact ⟨rfl, hb1⟩
      · have q3 : decide ((60 : Int) < (t.length : Int)) = false := decide_eq_false (by omega)
        have h4 : t.length ≤ 60 := by omega
        replace HO1 := hidden (HO1.out hsm h4)
        replace HO2 := hidden (HO2.out hsm h4)
        replace HT1 := hidden (HT1.out hsm h4)
        replace HT2 := hidden (HT2.out hsm h4)
        replace HC1 := hidden (HC1.out hsm)
        replace HC2 := hidden (HC2.out hsm)
        replace HN1 := hidden (HN1.out hsm)
        replace HN2 := hidden (HN2.out hsm)
        clear hbk hz HSI
        generalize ofErr g t s = err at *
        generalize ofRow g t s = row at *
        generalize textsO g t s = txs at *
        generalize checkF g s = ck at *
        generalize namedB g x s = nb at *
        go_enter Tryz.func3, Tryz.ntmps3
        go_upto_region 1 with fail
        generalize ((w.alloc (.cells #[.slice A1 g.toks.length k1, .slice A2 g.rules.length k2, .slice A3 g.prods.length k3, .int .i64 g.start, .int .i64 g.states, .int .i64 g.text, .int .i64 g.nodes, .int .i64 g.pairs] 26)).alloc (.cells #[.int .i64 x.kind, .int .i64 x.n, .int .i64 x.size, lv, .string x.text] 31)) = w1 at *
        obtain ⟨x0, x1, x2, x3, x4, x5, x6, x7⟩ := eightR HB1.out
        have HX := hidden (HSm.out _ hb1)
        go_wp2_with fail
        refine HX.out.mono ?_
        rintro r w2 ⟨rfl, hbn⟩
        replace HB1 := hidden (HB1.out.below hbn HB1.out.lt)
        replace HB2 := hidden (HB2.out.below hbn HB2.out.lt)
        replace hb1 := hb1.trans (hbn.mono hb1.size)
        clear x0 x1 x2 x3 x4 x5 x6 x7 hbn HX
        obtain ⟨x0, x1, x2, x3, x4, x5, x6, x7⟩ := eightR HB1.out
        have HX := hidden (HFw.out _ hb1)
        go_wp2_with fail
        refine HX.out.mono ?_
        rintro r w3 ⟨rfl, hbn⟩
        replace HB1 := hidden (HB1.out.below hbn HB1.out.lt)
        replace HB2 := hidden (HB2.out.below hbn HB2.out.lt)
        replace hb1 := hb1.trans (hbn.mono hb1.size)
        clear x0 x1 x2 x3 x4 x5 x6 x7 hbn HX
        clear HSm HFw
        obtain ⟨x0, x1, x2, x3, x4, x5, x6, x7⟩ := eightR HB1.out
        have HX := hidden (HO1.out _ hb1)
        go_wp2_with fail
        refine HX.out.mono ?_
        rintro r w4 ⟨⟨ul, rfl, HM1⟩, hbn⟩
        replace HB1 := hidden (HB1.out.below hbn HB1.out.lt)
        replace HB2 := hidden (HB2.out.below hbn HB2.out.lt)
        have HR1 := hidden (ints_rd HM1.out)
        clear HM1
        replace hb1 := hb1.trans (hbn.mono hb1.size)
        clear x0 x1 x2 x3 x4 x5 x6 x7 hbn HX
        clear HO1
        obtain ⟨x0, x1, x2, x3, x4, x5, x6, x7⟩ := eightR HB1.out
        have HX := hidden (HO2.out _ hb1)
        go_wp2_with fail
        refine HX.out.mono ?_
        rintro r w5 ⟨⟨um, rfl, HM2⟩, hbn⟩
        replace HB1 := hidden (HB1.out.below hbn HB1.out.lt)
        replace HB2 := hidden (HB2.out.below hbn HB2.out.lt)
        replace HR1 := hidden (Rd.old HR1.out hbn)
        have HR2 := hidden ((rd_of_cast HM2.out).mono (T' := Old w5) (fun k h => h.2))
        clear HM2
        replace hb1 := hb1.trans (hbn.mono hb1.size)
        clear x0 x1 x2 x3 x4 x5 x6 x7 hbn HX
        clear HO2
        obtain ⟨x0, x1, x2, x3, x4, x5, x6, x7⟩ := eightR HB1.out
        have HX := hidden (HT1.out _ hb1)
        go_wp2_with fail
        refine HX.out.mono ?_
        rintro r w6 ⟨⟨ua, rfl, HM3⟩, hbn⟩
        replace HB1 := hidden (HB1.out.below hbn HB1.out.lt)
        replace HB2 := hidden (HB2.out.below hbn HB2.out.lt)
        replace HR1 := hidden (Rd.old HR1.out hbn)
        replace HR2 := hidden (Rd.old HR2.out hbn)
        have HR3 := hidden (StrsM.rd HM3.out)
        clear HM3
        replace hb1 := hb1.trans (hbn.mono hb1.size)
        clear x0 x1 x2 x3 x4 x5 x6 x7 hbn HX
        clear HT1
        obtain ⟨x0, x1, x2, x3, x4, x5, x6, x7⟩ := eightR HB1.out
        have HX := hidden (HT2.out _ hb1)
        go_wp2_with fail
        refine HX.out.mono ?_
        rintro r w7 ⟨⟨ub, rfl, HM4⟩, hbn⟩
        replace HB1 := hidden (HB1.out.below hbn HB1.out.lt)
        replace HB2 := hidden (HB2.out.below hbn HB2.out.lt)
        replace HR1 := hidden (Rd.old HR1.out hbn)
        replace HR2 := hidden (Rd.old HR2.out hbn)
        replace HR3 := hidden (Rd.old HR3.out hbn)
        have HR4 := hidden (StrsM.rd HM4.out)
        clear HM4
        replace hb1 := hb1.trans (hbn.mono hb1.size)
        clear x0 x1 x2 x3 x4 x5 x6 x7 hbn HX
        clear HT2
        have hbs9 := hb1.size
        have HS1 := hidden (fun (w' : World) (hb : Below w7.heap.size w7 w') => T.same_ints ul um row row w' (by omega) (Rd.old HR1.out hb) (Rd.old HR2.out hb))
        rw [decide_eq_true (rfl : row = row)] at HS1
        have HS2 := hidden (fun (w' : World) (hb : Below w7.heap.size w7 w') => same_strs ua ub txs txs w' (Rd.old HR3.out hb) (Rd.old HR4.out hb))
        rw [show eqB txs txs = true from by unfold eqB; simp] at HS2
        clear HR1 HR2 HR3 HR4
        obtain ⟨x0, x1, x2, x3, x4, x5, x6, x7⟩ := eightR HB1.out
        have y0 := HB2.out.cell 0; have y1 := HB2.out.cell 1; have y2 := HB2.out.cell 2; have y3 := HB2.out.cell 3; have y4 := HB2.out.cell 4
        have e0 := Ext.cell x0
        have e1 := Ext.cell x1
        have e2 := Ext.cell x2
        have e3 := Ext.cell x3
        have e4 := Ext.cell x4
        have e5 := Ext.cell x5
        have e6 := Ext.cell x6
        have e7 := Ext.cell x7
        have e8 := Ext.cell y0
        have e9 := Ext.cell y1
        have e10 := Ext.cell y2
        have e11 := Ext.cell y3
        have e12 := Ext.cell y4
        go_wp2_with fail
        refine wp_region_ext (by kernel_rfl) (by kernel_rfl) ?_
        repeat (go_big_quiet_step (first | (go_at_call 11; exact Ext.call (HC1.out _ (hb1.trans ((Ext.below _).mono hbs9)))) | (go_at_call 12; exact Ext.call (HC2.out _ (hb1.trans ((Ext.below _).mono hbs9)))) | (go_at_call 13; exact Ext.call (HS1.out _ (Ext.below _))) | (go_at_call 14; exact Ext.call (HS2.out _ (Ext.below _))) | (go_at_call 15; exact Ext.call (HN1.out _ (hb1.trans ((Ext.below _).mono hbs9)))) | (go_at_call 16; exact Ext.call (HN2.out _ (hb1.trans ((Ext.below _).mono hbs9)))) | (go_at_call 6; exact Ext.call (HKn.out _))))
        refine wpQuiet_nil ?_
        intro wl hbl
        go_wp2
        go_ret
        exact ⟨rfl, hb1.trans (hbl.mono hbs9)⟩
end Go.Proofs.YtdbbjlphlbndkaaGreat.T
