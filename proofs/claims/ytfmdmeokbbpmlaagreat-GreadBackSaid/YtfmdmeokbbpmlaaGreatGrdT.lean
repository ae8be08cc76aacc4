/-
  law20: GreadBack.
-/
import Derived.Test.YtfmdmeokbbpmlaaGreatGrdS
namespace Go.Proofs.YtfmdmeokbbpmlaaGreat
open Go.RowKit Go.Shelf

theorem tok_part_le {t : Token} (h : tokOk t = true) : (showR t.rex).size ≤ (tokT t).size := by
  unfold tokT
  rw [if_pos h, ByteArray.size_append]
  exact Nat.le_add_left _ _
set_option maxRecDepth 20000 in
set_option maxHeartbeats 16000000 in
theorem law_greadBack (a b c : Value) (g : Gram) (w : World) (HG : GramIs w (Old w) a b c g) (zg : Named g) (wg : ∀ t ∈ g.toks, ∀ x ∈ t.rex, Wordy x) :
    Calls Tryz.prog 4 #[.agg (gramCells a b c g)] w fun r w' => r = .returned (.bool true) ∧ Below w.heap.size w w' := by
  have F1 := hidden (fun (w' : World) (hb : Below w.heap.size w w') => law_Few a b c g w' (HG.old hb) zg)
  have HK := hidden (fun (w' : World) => knows20 w')
  have S1 := hidden (fun (hs : fewB g = true) (w' : World) (hb : Below w.heap.size w w') => ref_Show19 a b c g w' (HG.old hb) (by have := (few_small hs).1; omega) (by have := (few_small hs).2.1; omega) (by have := (few_small hs).2.2; omega) zg wg)
  have C1 := hidden (fun (hs : fewB g = true) (w' : World) (hb : Below w.heap.size w w') => ref_Check a b c g w' (HG.old hb) (by have := (few_small hs).1; omega) (by have := (few_small hs).2.1; omega) (by have := (few_small hs).2.2; omega) zg)
  have TK := hidden (fun (t : Token) (ht : t ∈ g.toks) (lv : Value) (w' : World) (HL : Rd w' (Old w') 5 lv t.rex.length (t.rex.flatMap rxCells)) => ref_ShowToken19 t lv w' HL (wg t ht) (zg _ (List.mem_append_left _ (List.mem_map_of_mem ht))))
  have HGs := hidden (fun (w' : World) (hb : Below w.heap.size w w') => HG.old hb)
  have hq1 : Hid (∀ w, (Op.equalIn 10000 35 (.agg #[.int .i64 (checkOf g).kind, .int .i64 (checkOf g).at_, .int .i64 (checkOf g).more]) (.agg #[.int .i64 0, .int .i64 0, .int .i64 0])).run Tryz.prog w = .ok (rightB g) w) := hidden (fun w => by
    have := def_eq_run w (checkOf g) D0
    rw [right_eq] at this
    exact this)
  have HBk := hidden (fun (hb : rightB g = true) (hs : ∀ t ∈ g.toks, (tokT t).size ≤ 4000) => gram_back hb wg (fun t ht => by have h1 := hs t ht; have h2 := tok_part_le (right_tok (right_is hb) ht); omega) (lines_of hb))
  obtain ⟨⟨A1, k1, rfl, v1, m1⟩, ⟨A2, k2, rfl, v2, m2⟩, ⟨A3, k3, rfl, v3, m3⟩⟩ := HG.vals
  unfold maxLen gramCells defC at *
  have hb1 : Hid (Below w.heap.size w (w.alloc (.cells #[.slice A1 g.toks.length k1, .slice A2 g.rules.length k2, .slice A3 g.prods.length k3, .int .i64 g.start, .int .i64 g.states, .int .i64 g.text, .int .i64 g.nodes, .int .i64 g.pairs] 27))) := hidden (by repeat (first | (with_reducible exact Below.refl _ _) | (with_reducible assumption) | (with_reducible refine Below.drew ?_) | (with_reducible refine below_drewN ?_ _) | ((with_reducible refine below_alloc ?_ ?_); (focus (first | omega | (simp; done) | (simp; omega)))) | ((with_reducible refine below_set ?_ ?_); (focus (first | omega | (simp; done) | (simp; omega))))))
  have HJ : Hid (Holds (w.alloc (.cells #[.slice A1 g.toks.length k1, .slice A2 g.rules.length k2, .slice A3 g.prods.length k3, .int .i64 g.start, .int .i64 g.states, .int .i64 g.text, .int .i64 g.nodes, .int .i64 g.pairs] 27)) w.heap.size 27 #[.slice A1 g.toks.length k1, .slice A2 g.rules.length k2, .slice A3 g.prods.length k3, .int .i64 g.start, .int .i64 g.states, .int .i64 g.text, .int .i64 g.nodes, .int .i64 g.pairs]) := hidden (by repeat (first | (with_reducible assumption) | ((with_reducible refine holds_new ?_); (focus (first | rfl | (simp; done)))) | (with_reducible refine Holds.alloc ?_ _) | (with_reducible refine Holds.drew ?_)))
  clear HG zg wg
  obtain ⟨s1, hs1⟩ : ∃ s, Hid (gramT g = s) := ⟨_, hidden rfl⟩
  rw [hs1.out] at S1 HBk
  go_enter Tryz.func4, Tryz.ntmps4
  go_upto_region 1 with fail
  generalize (w.alloc (.cells #[.slice A1 g.toks.length k1, .slice A2 g.rules.length k2, .slice A3 g.prods.length k3, .int .i64 g.start, .int .i64 g.states, .int .i64 g.text, .int .i64 g.nodes, .int .i64 g.pairs] 27)) = w1 at *
  obtain ⟨g0_, g1_, g2_, g3_, g4_, g5_, g6_, g7_⟩ := gcells HJ.out
  go_wp2_with fail
  refine (F1.out w1 hb1.out).mono ?_
  rintro r w2 ⟨rfl, hb2⟩
  replace HJ := hidden (HJ.out.below hb2 HJ.out.lt)
  have HB := hidden (hb1.out.trans (hb2.mono hb1.out.size))
  clear g0_ g1_ g2_ g3_ g4_ g5_ g6_ g7_ F1 hb1 hb2
  cases hfg : fewB g with
  | false =>
    clear S1 C1 TK HGs HBk hq1
    have hbz := HB.out
    go_wp2_with fail
    refine (HK.out _).mono ?_
    rintro r wz ⟨rfl, hbk⟩
    go_wp2
    go_ret
    exact ⟨rfl, hbz.trans (hbk.mono hbz.size)⟩
  | true =>
    replace S1 := hidden (S1.out hfg)
    replace C1 := hidden (C1.out hfg)
    clear hfg
    obtain ⟨g0_, g1_, g2_, g3_, g4_, g5_, g6_, g7_⟩ := gcells HJ.out
    go_wp2_with fail
    refine (C1.out w2 HB.out).mono ?_
    rintro r w3 ⟨rfl, hb3⟩
    replace HJ := hidden (HJ.out.below hb3 HJ.out.lt)
    replace HB := hidden (HB.out.trans (hb3.mono HB.out.size))
    clear g0_ g1_ g2_ g3_ g4_ g5_ g6_ g7_ C1 hb3
    have hq := hq1.out
    cases hr : rightB g with
    | false =>
      rw [hr] at hq
      clear S1 TK HGs HBk hq1 hr
      have hbz := HB.out
      go_wp2_with fail
      refine (HK.out _).mono ?_
      rintro r wz ⟨rfl, hbk⟩
      go_wp2
      go_ret
      exact ⟨rfl, hbz.trans (hbk.mono hbz.size)⟩
    | true =>
      rw [hr] at hq
      replace HBk := hidden (HBk.out hr)
      have hrx := hidden hr
      clear hr hq1
      obtain ⟨g0_, g1_, g2_, g3_, g4_, g5_, g6_, g7_⟩ := gcells HJ.out
      go_wp2_with fail
      refine (S1.out w3 HB.out).mono ?_
      rintro r w4 ⟨rfl, hb4⟩
      replace HJ := hidden (HJ.out.below hb4 HJ.out.lt)
      replace HB := hidden (HB.out.trans (hb4.mono HB.out.size))
      clear g0_ g1_ g2_ g3_ g4_ g5_ g6_ g7_ S1 hb4 hq
      have R1 := hidden (gr_Read s1 w4)
      obtain ⟨Z, hZ⟩ : ∃ Z, Hid (readG s1 = Z) := ⟨_, hidden rfl⟩
      rw [hZ.out] at R1 HBk
      go_wp2_with fail
      refine R1.out.mono ?_
      intro r w5 hh
      obtain ⟨a', b', c', rfl, hG, hb5⟩ := hh.out
      obtain ⟨h, n, e⟩ := Z
      dsimp only at hG ⊢
      obtain ⟨B1, j1, rfl, -, -⟩ := hG.1.value
      obtain ⟨B2, j2, rfl, -, -⟩ := hG.2.1.val
      obtain ⟨B3, j3, rfl, -, -⟩ := hG.2.2.value
      clear hh R1
      unfold gramCells
      have hb6 := hb5.alloc hb5.size (.cells #[.slice B1 h.toks.length j1, .slice B2 h.rules.length j2, .slice B3 h.prods.length j3, .int .i64 h.start, .int .i64 h.states, .int .i64 h.text, .int .i64 h.nodes, .int .i64 h.pairs] 27)
      replace HJ := hidden (HJ.out.below hb6 HJ.out.lt)
      have hb7 : Below w5.heap.size w5 (w5.alloc (.cells #[.slice B1 h.toks.length j1, .slice B2 h.rules.length j2, .slice B3 h.prods.length j3, .int .i64 h.start, .int .i64 h.states, .int .i64 h.text, .int .i64 h.nodes, .int .i64 h.pairs] 27)) := (Below.refl _ _).alloc (Nat.le_refl _) _
      have HHs := hidden (fun (w' : World) (hb : Below (w5.alloc (.cells #[.slice B1 h.toks.length j1, .slice B2 h.rules.length j2, .slice B3 h.prods.length j3, .int .i64 h.start, .int .i64 h.states, .int .i64 h.text, .int .i64 h.nodes, .int .i64 h.pairs] 27)).heap.size (w5.alloc (.cells #[.slice B1 h.toks.length j1, .slice B2 h.rules.length j2, .slice B3 h.prods.length j3, .int .i64 h.start, .int .i64 h.states, .int .i64 h.text, .int .i64 h.nodes, .int .i64 h.pairs] 27)) w') => (hG.old hb7).old hb)
      have HQ := hidden (Holds.new w5 27 #[.slice B1 h.toks.length j1, .slice B2 h.rules.length j2, .slice B3 h.prods.length j3, .int .i64 h.start, .int .i64 h.states, .int .i64 h.text, .int .i64 h.nodes, .int .i64 h.pairs])
      replace HB := hidden (HB.out.trans (hb6.mono HB.out.size))
      clear hG hb5 hb6 hb7
      go_upto_region 5 with fail
      generalize (w5.alloc (.cells #[.slice B1 h.toks.length j1, .slice B2 h.rules.length j2, .slice B3 h.prods.length j3, .int .i64 h.start, .int .i64 h.states, .int .i64 h.text, .int .i64 h.nodes, .int .i64 h.pairs] 27)) = w6 at *
      generalize w5.heap.size = q2 at *
      by_cases hl : 65536 < s1.size
      · have q0 : (65536 : Int) < (s1.size : Int) := by omega
        have hz0 : (h, n, e) = (g0, 0, 4) := by rw [← hZ.out]; unfold readG; rw [if_pos hl]
        have hn0 : n = 0 := congrArg (fun z : Gram × Nat × Int => z.2.1) hz0
        have he0 : e = 4 := congrArg (fun z : Gram × Nat × Int => z.2.2) hz0
        subst hn0
        subst he0
        have hbz := HB.out
        clear TK HGs HBk HJ HQ HHs hZ hz0 hl
        go_wp2
        go_ret
        exact ⟨rfl, hbz⟩
      · have q0 : ¬ (65536 : Int) < (s1.size : Int) := by omega
        have HBk2 : Hid ((∀ t ∈ g.toks, (tokT t).size ≤ 4000) → h = g ∧ n = 0 ∧ e = 0) := hidden (fun hs => by
          have := HBk.out hs
          rw [if_neg hl] at this
          cases this
          exact ⟨rfl, rfl, rfl⟩)
        have HT0 : Hid (∀ t ∈ g.toks.take 0, (tokT t).size ≤ 4000) := hidden (fun t ht => by simp at ht)
        have hb60 := hidden (Below.refl w6.heap.size w6)
        clear HBk hZ hl
        go_upto_region 8 with fail
        go_loopg [7] g.toks.length (fun gh kk wr => ∃ k : Nat, k ≤ g.toks.length ∧ gh = g.toks.length - k ∧ kk = .int .i64 k ∧ Hid (∀ t ∈ g.toks.take k, (tokT t).size ≤ 4000) ∧ Hid (Below w6.heap.size w6 wr))
        case atStart => exact ⟨0, Nat.zero_le _, rfl, rfl, HT0, hb60⟩
        case round =>
          clear HT0 hb60
          obtain ⟨k, hk, rfl, rfl, HT, HW⟩ := hrel
          replace HB := hidden (HB.out.trans (HW.out.mono HB.out.size))
          have HJr := hidden (HJ.out.below HW.out HJ.out.lt)
          have HQr := hidden (HQ.out.below HW.out HQ.out.lt)
          obtain ⟨g0_, g1_, g2_, g3_, g4_, g5_, g6_, g7_⟩ := gcells HJr.out
          by_cases hlt : k < g.toks.length
          · have q5 : (k : Int) < (g.toks.length : Int) := by omega
            have hx := List.getElem?_eq_getElem hlt
            have htk : g.toks.take (k + 1) = g.toks.take k ++ [g.toks[k]] := by rw [List.take_add_one, hx]; rfl
            have hmem : Hid (g.toks[k] ∈ g.toks) := hidden (List.getElem_mem hlt)
            obtain ⟨b4, off4, lv, rfl, hT4, hat, HLt⟩ := (HGs.out wr HB.out).1.at_ hx
            generalize g.toks[k] = x at *
            obtain ⟨A5, k5, rfl, h51, h52⟩ := HLt.val
            have x0 : wr.cell? ⟨b4, off4 + k * 3, none⟩ = some (.string x.name) := hat 0 _ rfl
            have x1 : wr.cell? ⟨b4, off4 + k * 3 + 1, none⟩ = some (.slice A5 x.rex.length k5) := hat 1 _ rfl
            have x2 : wr.cell? ⟨b4, off4 + k * 3 + 2, none⟩ = some (.int .i64 x.cls) := hat 2 _ rfl
            have HX := hidden (TK.out x hmem.out _ _ HLt)
            have HTn := hidden htk
            clear htk hx hat hT4 HLt h51 h52
            generalize htx : tokT x = tx at *
            have HTx := hidden htx
            clear htx
            go_wp2_with fail
            refine HX.out.mono ?_
            rintro r w7 ⟨rfl, hb7⟩
            have hb8 := HB.out.trans (hb7.mono HB.out.size)
            have HW8 := hidden (HW.out.trans (hb7.mono HW.out.size))
            clear g0_ g1_ g2_ g3_ g4_ g5_ g6_ g7_ x0 x1 x2 HX HJr HQr hb7
            by_cases hbig : 4000 < tx.size
            · have q7 : (4000 : Int) < (tx.size : Int) := by omega
              clear HT HW HTn TK HGs HBk2 HJ HQ HHs
              go_wp2_with fail
              refine (HK.out _).mono ?_
              rintro r wz ⟨rfl, hbk⟩
              go_wp2
              go_ret
              exact ⟨rfl, hb8.trans (hbk.mono hb8.size)⟩
            · have q7 : ¬ (4000 : Int) < (tx.size : Int) := by omega
              have HT2 : Hid (∀ t ∈ g.toks.take (k + 1), (tokT t).size ≤ 4000) := hidden (fun t ht => by
                rw [HTn.out] at ht
                rcases List.mem_append.1 ht with ht | ht
                · exact HT.out t ht
                · rw [List.mem_singleton.1 ht, HTx.out]; omega)
              clear HT HTn HW
              go_wp2
              go_roundg (g.toks.length - (k + 1))
              case measure => omega
              case rel => exact ⟨k + 1, by omega, rfl, by go_num, HT2, HW8⟩
          · have hkn : g.toks.length = k := by omega
            have q5 : ¬ (k : Int) < (g.toks.length : Int) := by omega
            have hall := HT.out
            rw [← hkn, List.take_length] at hall
            obtain ⟨hh, hn0, he0⟩ := HBk2.out hall
            subst hn0
            subst he0
            obtain ⟨h0_, h1_, h2_, h3_, h4_, h5_, h6_, h7_⟩ := gcells HQr.out
            have SMx := hidden (ref_Same18 _ _ _ _ _ _ g h wr (HGs.out wr HB.out) (HHs.out wr HW.out))
            have heq : eqB g h = true := by rw [hh]; exact eqB_self g
            rw [heq] at SMx
            have hbz := HB.out
            unfold gramCells at SMx
            clear HT TK HGs HBk2 HJ HQ HHs HJr HQr HW hall hh hkn heq
            go_wp2_with fail
            refine SMx.out.mono ?_
            rintro r w7 ⟨rfl, hb7⟩
            have hb8 := hbz.trans (hb7.mono hbz.size)
            clear g0_ g1_ g2_ g3_ g4_ g5_ g6_ g7_ h0_ h1_ h2_ h3_ h4_ h5_ h6_ h7_ SMx
            go_wp2_with fail
            refine (HK.out _).mono ?_
            rintro r wz ⟨rfl, hbk⟩
            go_wp2
            go_ret
            exact ⟨rfl, hb8.trans (hbk.mono hb8.size)⟩
end Go.Proofs.YtfmdmeokbbpmlaaGreat
