/-
  law19: GprintLines.
-/
import Derived.Test.YtfmdmeokbbpmlaaDoorGprO
namespace Go.Proofs.YtfmdmeokbbpmlaaDoor
open Go.RowKit Go.Shelf

theorem gfour {w : World} {q : Nat} {t : TypeId} {a b c d : Value} (H : Holds w q t #[a, b, c, d]) : w.cell? ⟨q, 0, none⟩ = some a ∧ w.cell? ⟨q, 1, none⟩ = some b ∧ w.cell? ⟨q, 2, none⟩ = some c ∧ w.cell? ⟨q, 3, none⟩ = some d := ⟨H.cell 0, H.cell 1, H.cell 2, H.cell 3⟩
set_option maxRecDepth 20000 in
set_option maxHeartbeats 16000000 in
theorem law_gprintLines (a b c lv pv : Value) (g : Gram) (t : Token) (x : Item) (p : Prod) (w : World) (HG : GramIs w (Old w) a b c g) (hz : Named g) (HL : Rd w (Old w) 5 lv t.rex.length (t.rex.flatMap rxCells)) (hwd : ∀ x ∈ t.rex, Wordy x) (hnz : t.name.size ≤ maxLen)
    (HR : Rd w (Old w) 4 pv p.right.length (p.right.flatMap itCells)) (HW : WordsW w) (HT : TabW w) :
    Calls Tryd.prog 6 #[.agg (gramCells a b c g), .agg #[.string t.name, lv, .int .i64 t.cls], .agg (itV x), .agg #[.int .i64 p.left, pv]] w fun r w' => r = .returned (.bool true) ∧ Below w.heap.size w w' := by
  have F1 := hidden (fun (w' : World) (hb : Below w.heap.size w w') => law_Few a b c g w' (HG.old hb) hz)
  have HK := hidden (fun (w' : World) (hb : Below w.heap.size w w') => knows19 w' (HW.old hb))
  have T1 := hidden (fun (w' : World) (hb : Below w.heap.size w w') => gprint_ShowToken t lv w' (HL.old hb) hwd (HT.old hb) (HW.old hb) hnz)
  have T2 := hidden (fun (w' : World) (hb : Below w.heap.size w w') => ref_ShowToken19 t lv w' (HL.old hb) hwd hnz)
  have I1 := hidden (fun (hs : fewB g = true) (w' : World) (hb : Below w.heap.size w w') => gprint_ShowItem a b c g x w' (HG.old hb) (HW.old hb) (by have := (few_small hs).1; omega) (by have := (few_small hs).2.1; omega) (by have := (few_small hs).2.2; omega) hz)
  have I2 := hidden (fun (hs : fewB g = true) (w' : World) (hb : Below w.heap.size w w') => ref_ShowItem19 a b c g x w' (HG.old hb) (by have := (few_small hs).1; omega) (by have := (few_small hs).2.1; omega) (by have := (few_small hs).2.2; omega) hz)
  have P1 := hidden (fun (hs : fewB g = true) (hp : ¬ (40 : Int) < (p.right.length : Int)) (w' : World) (hb : Below w.heap.size w w') => gprint_ShowProd a b c g p pv w' (HG.old hb) (HW.old hb) (by have := (few_small hs).1; omega) (by have := (few_small hs).2.1; omega) (by have := (few_small hs).2.2; omega) hz (HR.old hb) (by omega))
  have P2 := hidden (fun (hs : fewB g = true) (hp : ¬ (40 : Int) < (p.right.length : Int)) (w' : World) (hb : Below w.heap.size w w') => ref_ShowProd19 a b c pv g p w' (HG.old hb) (by have := (few_small hs).1; omega) (by have := (few_small hs).2.1; omega) (by have := (few_small hs).2.2; omega) hz (HR.old hb) (by omega))
  obtain ⟨⟨A1, k1, rfl, v1, m1⟩, ⟨A2, k2, rfl, v2, m2⟩, ⟨A3, k3, rfl, v3, m3⟩⟩ := HG.vals
  obtain ⟨A4, k4, rfl, v4, m4⟩ := HL.val
  obtain ⟨A5, k5, rfl, v5, m5⟩ := HR.val
  unfold maxLen gramCells itV at *
  have hb1 : Below w.heap.size w ((((w.alloc (.cells #[.slice A1 g.toks.length k1, .slice A2 g.rules.length k2, .slice A3 g.prods.length k3, .int .i64 g.start, .int .i64 g.states, .int .i64 g.text, .int .i64 g.nodes, .int .i64 g.pairs] 41)).alloc (.cells #[.string t.name, .slice A4 t.rex.length k4, .int .i64 t.cls] 44)).alloc (.cells #[.bool x.rule, .int .i64 x.n, .int .i64 x.gap, .int .i64 x.in_] 47)).alloc (.cells #[.int .i64 p.left, .slice A5 p.right.length k5] 50)) := (by repeat (first | (with_reducible exact Below.refl _ _) | (with_reducible assumption) | (with_reducible refine Below.drew ?_) | (with_reducible refine below_drewN ?_ _) | ((with_reducible refine below_alloc ?_ ?_); (focus (first | omega | (simp; done) | (simp; omega)))) | ((with_reducible refine below_set ?_ ?_); (focus (first | omega | (simp; done) | (simp; omega))))))
  have J1 : Hid (Holds ((((w.alloc (.cells #[.slice A1 g.toks.length k1, .slice A2 g.rules.length k2, .slice A3 g.prods.length k3, .int .i64 g.start, .int .i64 g.states, .int .i64 g.text, .int .i64 g.nodes, .int .i64 g.pairs] 41)).alloc (.cells #[.string t.name, .slice A4 t.rex.length k4, .int .i64 t.cls] 44)).alloc (.cells #[.bool x.rule, .int .i64 x.n, .int .i64 x.gap, .int .i64 x.in_] 47)).alloc (.cells #[.int .i64 p.left, .slice A5 p.right.length k5] 50)) w.heap.size 41 #[.slice A1 g.toks.length k1, .slice A2 g.rules.length k2, .slice A3 g.prods.length k3, .int .i64 g.start, .int .i64 g.states, .int .i64 g.text, .int .i64 g.nodes, .int .i64 g.pairs]) := hidden (by repeat (first | (with_reducible assumption) | ((with_reducible refine holds_new ?_); (focus (first | rfl | (simp; done)))) | (with_reducible refine Holds.alloc ?_ _) | (with_reducible refine Holds.drew ?_)))
  have J2 : Hid (Holds ((((w.alloc (.cells #[.slice A1 g.toks.length k1, .slice A2 g.rules.length k2, .slice A3 g.prods.length k3, .int .i64 g.start, .int .i64 g.states, .int .i64 g.text, .int .i64 g.nodes, .int .i64 g.pairs] 41)).alloc (.cells #[.string t.name, .slice A4 t.rex.length k4, .int .i64 t.cls] 44)).alloc (.cells #[.bool x.rule, .int .i64 x.n, .int .i64 x.gap, .int .i64 x.in_] 47)).alloc (.cells #[.int .i64 p.left, .slice A5 p.right.length k5] 50)) (w.heap.size + 1) 44 #[.string t.name, .slice A4 t.rex.length k4, .int .i64 t.cls]) := hidden (by repeat (first | (with_reducible assumption) | ((with_reducible refine holds_new ?_); (focus (first | rfl | (simp; done)))) | (with_reducible refine Holds.alloc ?_ _) | (with_reducible refine Holds.drew ?_)))
  have J3 : Hid (Holds ((((w.alloc (.cells #[.slice A1 g.toks.length k1, .slice A2 g.rules.length k2, .slice A3 g.prods.length k3, .int .i64 g.start, .int .i64 g.states, .int .i64 g.text, .int .i64 g.nodes, .int .i64 g.pairs] 41)).alloc (.cells #[.string t.name, .slice A4 t.rex.length k4, .int .i64 t.cls] 44)).alloc (.cells #[.bool x.rule, .int .i64 x.n, .int .i64 x.gap, .int .i64 x.in_] 47)).alloc (.cells #[.int .i64 p.left, .slice A5 p.right.length k5] 50)) (w.heap.size + 1 + 1) 47 #[.bool x.rule, .int .i64 x.n, .int .i64 x.gap, .int .i64 x.in_]) := hidden (by repeat (first | (with_reducible assumption) | ((with_reducible refine holds_new ?_); (focus (first | rfl | (simp; done)))) | (with_reducible refine Holds.alloc ?_ _) | (with_reducible refine Holds.drew ?_)))
  have J4 : Hid (Holds ((((w.alloc (.cells #[.slice A1 g.toks.length k1, .slice A2 g.rules.length k2, .slice A3 g.prods.length k3, .int .i64 g.start, .int .i64 g.states, .int .i64 g.text, .int .i64 g.nodes, .int .i64 g.pairs] 41)).alloc (.cells #[.string t.name, .slice A4 t.rex.length k4, .int .i64 t.cls] 44)).alloc (.cells #[.bool x.rule, .int .i64 x.n, .int .i64 x.gap, .int .i64 x.in_] 47)).alloc (.cells #[.int .i64 p.left, .slice A5 p.right.length k5] 50)) (w.heap.size + 1 + 1 + 1) 50 #[.int .i64 p.left, .slice A5 p.right.length k5]) := hidden (by repeat (first | (with_reducible assumption) | ((with_reducible refine holds_new ?_); (focus (first | rfl | (simp; done)))) | (with_reducible refine Holds.alloc ?_ _) | (with_reducible refine Holds.drew ?_)))
  clear HG hz HL hwd hnz HR HW HT
  generalize tokT t = s1 at *
  generalize showItem g x = s2 at *
  generalize showProd g p = s3 at *
  generalize fewB g = fg at *
  have hst : fg = false ∨ (fg = true ∧ (600 : Int) < (t.rex.length : Int)) ∨ (fg = true ∧ ¬ (600 : Int) < (t.rex.length : Int) ∧ (100 : Int) < (t.name.size : Int)) ∨ (fg = true ∧ ¬ (600 : Int) < (t.rex.length : Int) ∧ ¬ (100 : Int) < (t.name.size : Int) ∧ (40 : Int) < (p.right.length : Int)) ∨ (fg = true ∧ ¬ (600 : Int) < (t.rex.length : Int) ∧ ¬ (100 : Int) < (t.name.size : Int) ∧ ¬ (40 : Int) < (p.right.length : Int)) := by
    cases fg
    · exact .inl rfl
    · by_cases h1 : (600 : Int) < (t.rex.length : Int)
      · exact .inr (.inl ⟨rfl, h1⟩)
      by_cases h2 : (100 : Int) < (t.name.size : Int)
      · exact .inr (.inr (.inl ⟨rfl, h1, h2⟩))
      by_cases h3 : (40 : Int) < (p.right.length : Int)
      · exact .inr (.inr (.inr (.inl ⟨rfl, h1, h2, h3⟩)))
      · exact .inr (.inr (.inr (.inr ⟨rfl, h1, h2, h3⟩)))
  go_enter Tryd.func6, Tryd.ntmps6
  go_upto_region 1 with fail
  generalize ((((w.alloc (.cells #[.slice A1 g.toks.length k1, .slice A2 g.rules.length k2, .slice A3 g.prods.length k3, .int .i64 g.start, .int .i64 g.states, .int .i64 g.text, .int .i64 g.nodes, .int .i64 g.pairs] 41)).alloc (.cells #[.string t.name, .slice A4 t.rex.length k4, .int .i64 t.cls] 44)).alloc (.cells #[.bool x.rule, .int .i64 x.n, .int .i64 x.gap, .int .i64 x.in_] 47)).alloc (.cells #[.int .i64 p.left, .slice A5 p.right.length k5] 50)) = w1 at *
  obtain ⟨g0, g1, g2, g3, g4, g5, g6, g7⟩ := gcells J1.out
  go_wp2_with fail
  refine (F1.out w1 hb1).mono ?_
  rintro r w2 ⟨rfl, hb2⟩
  replace J1 := hidden (J1.out.below hb2 J1.out.lt)
  replace J2 := hidden (J2.out.below hb2 J2.out.lt)
  replace J3 := hidden (J3.out.below hb2 J3.out.lt)
  replace J4 := hidden (J4.out.below hb2 J4.out.lt)
  have hb3 := hb1.trans (hb2.mono hb1.size)
  clear g0 g1 g2 g3 g4 g5 g6 g7 F1 hb1 hb2
  obtain ⟨g0, g1, g2, g3, g4, g5, g6, g7⟩ := gcells J1.out
  obtain ⟨e0, e1, e2⟩ := three J2.out
  obtain ⟨f0, f1, f2, f3⟩ := gfour J3.out
  have h0 := J4.out.c20
  have h1 := J4.out.c21
  rcases hst with rfl | ⟨rfl, q1⟩ | ⟨rfl, q1, q2⟩ | ⟨rfl, q1, q2, q3⟩ | ⟨rfl, q1, q2, q3⟩
  iterate 4
    · clear T1 T2 I1 I2 P1 P2
      go_wp2_with fail
      refine (HK.out w2 hb3).mono ?_
      rintro r w3 ⟨rfl, hb4⟩
      go_wp2
      go_ret
      exact ⟨rfl, hb3.trans (hb4.mono hb3.size)⟩
  · replace I1 := hidden (I1.out rfl)
    replace I2 := hidden (I2.out rfl)
    replace P1 := hidden (P1.out rfl q3)
    replace P2 := hidden (P2.out rfl q3)
    have hs1 := strs_eql s1 s1
    have hs2 := strs_eql s2 s2
    have hs3 := strs_eql s3 s3
    rw [eqB_self] at hs1 hs2 hs3
    go_upto_region 3 with fail
    clear q1 q2 q3
    have HbA := hidden (fun y : Ext w2 => hb3.trans (y.below.mono hb3.size))
    have d_g0 := fun y : Ext w2 => Ext.cell g0 y
    have d_g1 := fun y : Ext w2 => Ext.cell g1 y
    have d_g2 := fun y : Ext w2 => Ext.cell g2 y
    have d_g3 := fun y : Ext w2 => Ext.cell g3 y
    have d_g4 := fun y : Ext w2 => Ext.cell g4 y
    have d_g5 := fun y : Ext w2 => Ext.cell g5 y
    have d_g6 := fun y : Ext w2 => Ext.cell g6 y
    have d_g7 := fun y : Ext w2 => Ext.cell g7 y
    have d_e0 := fun y : Ext w2 => Ext.cell e0 y
    have d_e1 := fun y : Ext w2 => Ext.cell e1 y
    have d_e2 := fun y : Ext w2 => Ext.cell e2 y
    have d_f0 := fun y : Ext w2 => Ext.cell f0 y
    have d_f1 := fun y : Ext w2 => Ext.cell f1 y
    have d_f2 := fun y : Ext w2 => Ext.cell f2 y
    have d_f3 := fun y : Ext w2 => Ext.cell f3 y
    have d_h0 := fun y : Ext w2 => Ext.cell h0 y
    have d_h1 := fun y : Ext w2 => Ext.cell h1 y
    clear g0 g1 g2 g3 g4 g5 g6 g7 e0 e1 e2 f0 f1 f2 f3 h0 h1
    refine wp_region_ext (by kernel_rfl) (by kernel_rfl) ?_
    repeat (go_big_quiet_step (first | (go_at_call 19; exact Ext.call (T1.out _ (HbA.out _))) | (go_at_call 20; exact Ext.call (T2.out _ (HbA.out _))) | (go_at_call 21; exact Ext.call (I1.out _ (HbA.out _))) | (go_at_call 22; exact Ext.call (I2.out _ (HbA.out _))) | (go_at_call 23; exact Ext.call (P1.out _ (HbA.out _))) | (go_at_call 24; exact Ext.call (P2.out _ (HbA.out _))) | (go_at_call 18; exact Ext.call (HK.out _ (HbA.out _)))))
    refine wpQuiet_nil ?_
    intro w5 hb5
    clear d_g0 d_g1 d_g2 d_g3 d_g4 d_g5 d_g6 d_g7 d_e0 d_e1 d_e2 d_f0 d_f1 d_f2 d_f3 d_h0 d_h1 HbA T1 T2 I1 I2 P1 P2 HK J1 J2 J3 J4
    go_wp2
    go_ret
    exact ⟨rfl, hb3.trans (hb5.mono hb3.size)⟩
end Go.Proofs.YtfmdmeokbbpmlaaDoor
