/-
  law19: GprintApart.
-/
import Derived.Test.YtfmdmeokbbpmlaaDoorGprV
namespace Go.Proofs.YtfmdmeokbbpmlaaDoor
open Go.RowKit Go.Shelf

set_option maxRecDepth 20000 in
set_option maxHeartbeats 16000000 in
theorem law_gprintApart (a b c a' b' c' : Value) (g h : Gram) (w : World) (HG : GramIs w (Old w) a b c g) (HH : GramIs w (Old w) a' b' c' h) (zg : Named g) (zh : Named h) (wg : ∀ t ∈ g.toks, ∀ x ∈ t.rex, Wordy x) (wh : ∀ t ∈ h.toks, ∀ x ∈ t.rex, Wordy x) (HW : WordsW w) (HT : TabW w) :
    Calls Tryd.prog 8 #[.agg (gramCells a b c g), .agg (gramCells a' b' c' h)] w fun r w' => r = .returned (.bool true) ∧ Below w.heap.size w w' := by
  have Fg := hidden (fun (w' : World) (hb : Below w.heap.size w w') => law_Few a b c g w' (HG.old hb) zg)
  have Fh := hidden (fun (w' : World) (hb : Below w.heap.size w w') => law_Few a' b' c' h w' (HH.old hb) zh)
  have HK := hidden (fun (w' : World) (hb : Below w.heap.size w w') => knows19 w' (HW.old hb))
  have Sg := hidden (fun (hs : fewB g = true) (w' : World) (hb : Below w.heap.size w w') => gprint_Show a b c g w' (HG.old hb) (HW.old hb) (HT.old hb) (by have := (few_small hs).1; omega) (by have := (few_small hs).2.1; omega) (by have := (few_small hs).2.2; omega) zg wg)
  have Sh := hidden (fun (hs : fewB h = true) (w' : World) (hb : Below w.heap.size w w') => gprint_Show a' b' c' h w' (HH.old hb) (HW.old hb) (HT.old hb) (by have := (few_small hs).1; omega) (by have := (few_small hs).2.1; omega) (by have := (few_small hs).2.2; omega) zh wh)
  have Cg := hidden (fun (hs : fewB g = true) (w' : World) (hb : Below w.heap.size w w') => ref_Check a b c g w' (HG.old hb) (by have := (few_small hs).1; omega) (by have := (few_small hs).2.1; omega) (by have := (few_small hs).2.2; omega) zg)
  have Ch := hidden (fun (hs : fewB h = true) (w' : World) (hb : Below w.heap.size w w') => ref_Check a' b' c' h w' (HH.old hb) (by have := (few_small hs).1; omega) (by have := (few_small hs).2.1; omega) (by have := (few_small hs).2.2; omega) zh)
  have TK := hidden (fun (t : Token) (ht : t ∈ g.toks) (lv : Value) (w' : World) (hb : Below w.heap.size w w') (HL : Rd w' (Old w') 5 lv t.rex.length (t.rex.flatMap rxCells)) => gprint_ShowToken t lv w' HL (wg t ht) (HT.old hb) (HW.old hb) (zg _ (List.mem_append_left _ (List.mem_map_of_mem ht))))
  have SM := hidden (fun (w' : World) (hb : Below w.heap.size w w') => ref_Same18 a b c a' b' c' g h w' (HG.old hb) (HH.old hb))
  have HGs := hidden (fun (w' : World) (hb : Below w.heap.size w w') => (HG.old hb).1)
  have HAp := hidden (fun (r1 : rightB g = true) (r2 : rightB h = true) => gram_apart r1 r2 wg wh)
  have hqg1 : Hid (∀ w, (Op.equalIn 10000 58 (.agg #[.int .i64 (checkOf g).kind, .int .i64 (checkOf g).at_, .int .i64 (checkOf g).more]) (.agg #[.int .i64 0, .int .i64 0, .int .i64 0])).run Tryd.prog w = .ok (rightB g) w) := hidden (fun w => by
    have := def_eq_run w (checkOf g) D0
    rw [right_eq] at this
    exact this)
  have hqh1 : Hid (∀ w, (Op.equalIn 10000 58 (.agg #[.int .i64 (checkOf h).kind, .int .i64 (checkOf h).at_, .int .i64 (checkOf h).more]) (.agg #[.int .i64 0, .int .i64 0, .int .i64 0])).run Tryd.prog w = .ok (rightB h) w) := hidden (fun w => by
    have := def_eq_run w (checkOf h) D0
    rw [right_eq] at this
    exact this)
  obtain ⟨⟨A1, k1, rfl, v1, m1⟩, ⟨A2, k2, rfl, v2, m2⟩, ⟨A3, k3, rfl, v3, m3⟩⟩ := HG.vals
  obtain ⟨⟨B1, j1, rfl, v4, m4⟩, ⟨B2, j2, rfl, v5, m5⟩, ⟨B3, j3, rfl, v6, m6⟩⟩ := HH.vals
  unfold maxLen gramCells defC at *
  have HA : Hid (ApS w #[.slice A1 g.toks.length k1, .slice A2 g.rules.length k2, .slice A3 g.prods.length k3, .int .i64 g.start, .int .i64 g.states, .int .i64 g.text, .int .i64 g.nodes, .int .i64 g.pairs] #[.slice B1 h.toks.length j1, .slice B2 h.rules.length j2, .slice B3 h.prods.length j3, .int .i64 h.start, .int .i64 h.states, .int .i64 h.text, .int .i64 h.nodes, .int .i64 h.pairs] ((w.alloc (.cells #[.slice A1 g.toks.length k1, .slice A2 g.rules.length k2, .slice A3 g.prods.length k3, .int .i64 g.start, .int .i64 g.states, .int .i64 g.text, .int .i64 g.nodes, .int .i64 g.pairs] 41)).alloc (.cells #[.slice B1 h.toks.length j1, .slice B2 h.rules.length j2, .slice B3 h.prods.length j3, .int .i64 h.start, .int .i64 h.states, .int .i64 h.text, .int .i64 h.nodes, .int .i64 h.pairs] 41))) := hidden ⟨(by repeat (first | (with_reducible exact Below.refl _ _) | (with_reducible assumption) | (with_reducible refine Below.drew ?_) | (with_reducible refine below_drewN ?_ _) | ((with_reducible refine below_alloc ?_ ?_); (focus (first | omega | (simp; done) | (simp; omega)))) | ((with_reducible refine below_set ?_ ?_); (focus (first | omega | (simp; done) | (simp; omega)))))), (by repeat (first | (with_reducible assumption) | ((with_reducible refine holds_new ?_); (focus (first | rfl | (simp; done)))) | (with_reducible refine Holds.alloc ?_ _) | (with_reducible refine Holds.drew ?_))), (by repeat (first | (with_reducible assumption) | ((with_reducible refine holds_new ?_); (focus (first | rfl | (simp; done)))) | (with_reducible refine Holds.alloc ?_ _) | (with_reducible refine Holds.drew ?_)))⟩
  clear HG HH zg zh wg wh HW HT
  obtain ⟨s1, hs1⟩ : ∃ s, Hid (gramT g = s) := ⟨_, hidden rfl⟩
  obtain ⟨s2, hs2⟩ : ∃ s, Hid (gramT h = s) := ⟨_, hidden rfl⟩
  rw [hs1.out] at Sg
  rw [hs2.out] at Sh
  have hE : ByteArray.empty.toList.isEmpty = true := by rw [list_isEmpty]; rfl
  go_enter Tryd.func8, Tryd.ntmps8
  go_upto_region 1 with fail
  generalize ((w.alloc (.cells #[.slice A1 g.toks.length k1, .slice A2 g.rules.length k2, .slice A3 g.prods.length k3, .int .i64 g.start, .int .i64 g.states, .int .i64 g.text, .int .i64 g.nodes, .int .i64 g.pairs] 41)).alloc (.cells #[.slice B1 h.toks.length j1, .slice B2 h.rules.length j2, .slice B3 h.prods.length j3, .int .i64 h.start, .int .i64 h.states, .int .i64 h.text, .int .i64 h.nodes, .int .i64 h.pairs] 41)) = w1 at *
  obtain ⟨g0, g1, g2, g3, g4, g5, g6, g7⟩ := gcells HA.out.g
  go_wp2_with fail
  refine (Fg.out w1 HA.out.hb).mono ?_
  rintro r w2 ⟨rfl, hb2⟩
  replace HA := hidden (HA.out.below hb2)
  clear g0 g1 g2 g3 g4 g5 g6 g7 hb2 Fg
  cases hfg : fewB g with
  | false =>
    clear Sg Sh Cg Ch TK SM HGs HAp hqg1 hqh1 Fh
    have hbz := HA.out.hb
    go_wp2_with fail
    refine (HK.out _ hbz).mono ?_
    rintro r wz ⟨rfl, hbk⟩
    go_wp2
    go_ret
    exact ⟨rfl, hbz.trans (hbk.mono hbz.size)⟩
  | true =>
    replace Sg := hidden (Sg.out hfg)
    replace Cg := hidden (Cg.out hfg)
    obtain ⟨h0, h1, h2, h3, h4, h5, h6, h7⟩ := gcells HA.out.h
    go_wp2_with fail
    refine (Fh.out _ HA.out.hb).mono ?_
    rintro r w3 ⟨rfl, hb3⟩
    replace HA := hidden (HA.out.below hb3)
    clear h0 h1 h2 h3 h4 h5 h6 h7 hb3 Fh hfg
    cases hfh : fewB h with
    | false =>
      clear Sg Sh Cg Ch TK SM HGs HAp hqg1 hqh1
      have hbz := HA.out.hb
      go_wp2_with fail
      refine (HK.out _ hbz).mono ?_
      rintro r wz ⟨rfl, hbk⟩
      go_wp2
      go_ret
      exact ⟨rfl, hbz.trans (hbk.mono hbz.size)⟩
    | true =>
      replace Sh := hidden (Sh.out hfh)
      replace Ch := hidden (Ch.out hfh)
      clear hfh
      obtain ⟨g0, g1, g2, g3, g4, g5, g6, g7⟩ := gcells HA.out.g
      obtain ⟨h0, h1, h2, h3, h4, h5, h6, h7⟩ := gcells HA.out.h
      go_upto_region 3 with fail
      have HbA := hidden (fun y : Ext w3 => HA.out.hb.trans (y.below.mono HA.out.hb.size))
      have d_g0 := fun y : Ext w3 => Ext.cell g0 y
      have d_g1 := fun y : Ext w3 => Ext.cell g1 y
      have d_g2 := fun y : Ext w3 => Ext.cell g2 y
      have d_g3 := fun y : Ext w3 => Ext.cell g3 y
      have d_g4 := fun y : Ext w3 => Ext.cell g4 y
      have d_g5 := fun y : Ext w3 => Ext.cell g5 y
      have d_g6 := fun y : Ext w3 => Ext.cell g6 y
      have d_g7 := fun y : Ext w3 => Ext.cell g7 y
      have d_h0 := fun y : Ext w3 => Ext.cell h0 y
      have d_h1 := fun y : Ext w3 => Ext.cell h1 y
      have d_h2 := fun y : Ext w3 => Ext.cell h2 y
      have d_h3 := fun y : Ext w3 => Ext.cell h3 y
      have d_h4 := fun y : Ext w3 => Ext.cell h4 y
      have d_h5 := fun y : Ext w3 => Ext.cell h5 y
      have d_h6 := fun y : Ext w3 => Ext.cell h6 y
      have d_h7 := fun y : Ext w3 => Ext.cell h7 y
      clear g0 g1 g2 g3 g4 g5 g6 g7 h0 h1 h2 h3 h4 h5 h6 h7
      refine wp_region_ext (by kernel_rfl) (by kernel_rfl) ?_
      go_big_quiet_step (fail)
      go_big_quiet_step ((go_at_call 25; exact Ext.call (Sg.out _ (HbA.out _))))
      go_big_quiet_step (fail)
      go_big_quiet_step ((go_at_call 25; exact Ext.call (Sh.out _ (HbA.out _))))
      repeat (go_big_quiet_step (fail))
      refine wpQuiet_nil ?_
      intro w5 hb5
      replace HA := hidden (HA.out.below hb5)
      clear d_g0 d_g1 d_g2 d_g3 d_g4 d_g5 d_g6 d_g7 d_h0 d_h1 d_h2 d_h3 d_h4 d_h5 d_h6 d_h7 HbA Sg Sh hb5
      obtain ⟨g0, g1, g2, g3, g4, g5, g6, g7⟩ := gcells HA.out.g
      go_wp2_with fail
      refine (Cg.out _ HA.out.hb).mono ?_
      rintro r w6 ⟨rfl, hb6⟩
      replace HA := hidden (HA.out.below hb6)
      clear g0 g1 g2 g3 g4 g5 g6 g7 hb6 Cg
      have hq := hqg1.out
      cases hrg : rightB g with
      | false =>
        rw [hrg] at hq
        have e1 : s1 = ByteArray.empty := by rw [← hs1.out]; exact gramT_bad hrg
        subst e1
        clear hs1 hs2 Ch TK SM HGs HAp hqh1 hrg hqg1
        have hbz := HA.out.hb
        go_wp2_with fail
        refine (HK.out _ hbz).mono ?_
        rintro r wz ⟨rfl, hbk⟩
        go_wp2
        go_ret
        exact ⟨rfl, hbz.trans (hbk.mono hbz.size)⟩
      | true =>
        rw [hrg] at hq
        obtain ⟨h0, h1, h2, h3, h4, h5, h6, h7⟩ := gcells HA.out.h
        go_wp2_with fail
        refine (Ch.out _ HA.out.hb).mono ?_
        rintro r w7 ⟨rfl, hb7⟩
        replace HA := hidden (HA.out.below hb7)
        clear h0 h1 h2 h3 h4 h5 h6 h7 hb7 Ch hq
        have hq := hqh1.out
        obtain ⟨m, hm⟩ : ∃ m : Nat, Hid (s1.size = m + 1 ∧ ∀ hm : m < s1.size, s1[m] = 10) := by
          obtain ⟨m, h1, h2⟩ := gramT_end hrg
          rw [hs1.out] at h1
          refine ⟨m, hidden ⟨h1, ?_⟩⟩
          have := hs1.out
          subst this
          exact h2
        have n1 : s1.toList.isEmpty = false := by rw [list_isEmpty]; exact decide_eq_false (by have := hm.out.1; omega)
        cases hrh : rightB h with
        | false =>
          rw [hrh] at hq
          have e1 : s2 = ByteArray.empty := by rw [← hs2.out]; exact gramT_bad hrh
          subst e1
          clear hs1 hs2 TK SM HGs HAp hqh1 hrg hqg1 hrh
          have hbz := HA.out.hb
          go_wp2_with fail
          refine (HK.out _ hbz).mono ?_
          rintro r wz ⟨rfl, hbk⟩
          go_wp2
          go_ret
          exact ⟨rfl, hbz.trans (hbk.mono hbz.size)⟩
        | true =>
          rw [hrh] at hq
          have HAp2 : Hid (eqB s1 s2 = eqB g h) := hidden (by
            rw [Bool.eq_iff_iff, eqB_iff, eqB_iff, ← hs1.out, ← hs2.out]
            exact HAp.out hrg hrh)
          have hsz : s1.size ≤ 10000000000 := by rw [← hs1.out]; exact gramT_size hrg
          have HLn : Hid (linesOf s1 = linesG g) := hidden (by rw [← hs1.out]; exact lines_of hrg)
          have HLs := hidden (ref_lines s1 w7 (by omega : s1.size ≤ 100000000000))
          rw [HLn.out] at HLs
          have hn : (linesG g).length = 6 + g.toks.length + g.prods.length := lines_len g
          have HTk : Hid (∀ (i : Nat) (hi : i < g.toks.length), (linesG g)[4 + i]? = some (tokT g.toks[i])) := hidden (fun i hi => lines_tok hi)
          have hsm := right_sizes hrg
          clear hqg1 hqh1 hs1 hs2 HAp hrh HLn hrg
          go_wp2_with fail
          refine HLs.out.mono ?_
          rintro r w8 ⟨⟨lv, rfl, hM⟩, hb8⟩
          replace HA := hidden (HA.out.below hb8)
          have HR : Hid (Strs w8 (Old w8) lv (linesG g)) := hidden hM.out.rd
          clear HLs hM hq hb8 n1 hE
          obtain ⟨A6, c6, rfl, v7, m7⟩ := HR.out.val
          have HR0 := hidden (fun (w' : World) (hb : Below w8.heap.size w8 w') => Rd.old HR.out hb)
          have hb9 := Below.refl w8.heap.size w8
          generalize linesG g = LG at *
          generalize hnn : LG.length = n at *
          have q1 : (n : Int) = 6 + (g.toks.length : Int) + (g.prods.length : Int) := by omega
          have q2 : (((s1[m]'(by have := hm.out.1; omega)).toNat : Int) == 10) = true := by rw [hm.out.2]; rfl
          have q3 : s1.size = m + 1 := hm.out.1
          have q4 : IntKind.i64.wrap (m : Int) = (m : Int) := IntWalk.i64_in _ (by omega)
          obtain ⟨g0, g1, g2, g3, g4, g5, g6, g7⟩ := gcells HA.out.g

          go_upto_region 10 with fail
          clear g0 g1 g2 g3 g4 g5 g6 g7 q1 q4
          go_loopg [8] g.toks.length (fun gh kk wr => ∃ k : Nat, k ≤ g.toks.length ∧ gh = g.toks.length - k ∧ kk = .int .i64 k ∧ Hid (ApS w #[.slice A1 g.toks.length k1, .slice A2 g.rules.length k2, .slice A3 g.prods.length k3, .int .i64 g.start, .int .i64 g.states, .int .i64 g.text, .int .i64 g.nodes, .int .i64 g.pairs] #[.slice B1 h.toks.length j1, .slice B2 h.rules.length j2, .slice B3 h.prods.length j3, .int .i64 h.start, .int .i64 h.states, .int .i64 h.text, .int .i64 h.nodes, .int .i64 h.pairs] wr) ∧ Hid (Below w8.heap.size w8 wr))
          case atStart => exact ⟨0, Nat.zero_le _, rfl, rfl, HA, hidden hb9⟩
          case round =>
            clear HA hb9
            obtain ⟨k, hk, rfl, rfl, HA, HB⟩ := hrel
            by_cases hlt : k < g.toks.length
            · have q5 : (k : Int) < (g.toks.length : Int) := by omega
              have hx := List.getElem?_eq_getElem hlt
              have hmem : Hid (g.toks[k] ∈ g.toks) := hidden (List.getElem_mem hlt)
              have hl9 := HTk.out k hlt
              have hjn : 4 + k < n := by rw [← hnn]; exact (List.getElem?_eq_some_iff.1 hl9).1
              have hst : Strs wr (Old wr) (.slice A6 LG.length c6) LG := by unfold Strs; rw [hnn]; exact HR0.out wr HB.out
              obtain ⟨b9, off9, rfl, hT9, hc9⟩ := strs_at hst hl9
              clear hst
              obtain ⟨b4, off4, lv, rfl, hT4, hat, HLt⟩ := (HGs.out wr HA.out.hb).at_ hx
              obtain ⟨g0, g1, g2, g3, g4, g5, g6, g7⟩ := gcells HA.out.g
              generalize g.toks[k] = x at *
              obtain ⟨A5, k5, rfl, h51, h52⟩ := HLt.val
              have x0 : wr.cell? ⟨b4, off4 + k * 3, none⟩ = some (.string x.name) := hat 0 _ rfl
              have x1 : wr.cell? ⟨b4, off4 + k * 3 + 1, none⟩ = some (.slice A5 x.rex.length k5) := hat 1 _ rfl
              have x2 : wr.cell? ⟨b4, off4 + k * 3 + 2, none⟩ = some (.int .i64 x.cls) := hat 2 _ rfl
              have HX := hidden (fun (y : Ext wr) => TK.out x hmem.out (.slice A5 x.rex.length k5) _ (HA.out.hb.trans (y.below.mono HA.out.hb.size)) (HLt.old y.below))
              generalize tokT x = tx at *
              have ht := strs_eql tx tx
              rw [eqB_self] at ht
              obtain ⟨j, hj⟩ : ∃ j : Nat, 4 + k = j := ⟨_, rfl⟩
              have hw4 : IntKind.i64.wrap (4 + (k : Int)) = (j : Int) := by rw [IntWalk.i64_in _ (by omega)]; omega
              rw [hj] at hc9 hjn
              have q6 : (j : Int) < 6 + (g.toks.length : Int) + (g.prods.length : Int) := by omega
              clear hj hjn hl9 hx hat hT4 hT9 HLt h51 h52 hmem
              go_upto_region 12 with fail
              have d0 := fun y : Ext wr => Ext.cell g0 y
              have d1 := fun y : Ext wr => Ext.cell x0 y
              have d2 := fun y : Ext wr => Ext.cell x1 y
              have d3 := fun y : Ext wr => Ext.cell x2 y
              have d4 := fun y : Ext wr => Ext.cell hc9 y
              clear g0 g1 g2 g3 g4 g5 g6 g7 x0 x1 x2 hc9
              refine wp_region_ext (by kernel_rfl) (by kernel_rfl) ?_
              repeat (go_big_quiet_step ((go_at_call 19; exact Ext.call (HX.out _))))
              refine wpQuiet_nil ?_
              intro w9 hb5
              replace HA := hidden (HA.out.below hb5)
              replace HB := hidden (HB.out.trans (hb5.mono HB.out.size))
              clear d0 d1 d2 d3 d4 HX hb5 hw4 q6
              go_wp2
              go_roundg (g.toks.length - (k + 1))
              case measure => omega
              case rel => exact ⟨k + 1, by omega, rfl, by go_num, HA, HB⟩
            · obtain rfl : k = g.toks.length := by omega
              have q5 : ¬ (g.toks.length : Int) < (g.toks.length : Int) := by omega
              have he := strs_eql s1 s2
              rw [HAp2.out] at he
              have SMx := hidden (SM.out wr HA.out.hb)
              have hbz := HA.out.hb
              generalize eqB g h = e at *
              obtain ⟨g0, g1, g2, g3, g4, g5, g6, g7⟩ := gcells HA.out.g
              obtain ⟨h0, h1, h2, h3, h4, h5, h6, h7⟩ := gcells HA.out.h
              clear HTk HR0 HGs TK SM HAp2 HB HR
              go_wp2_with fail
              refine SMx.out.mono ?_
              rintro r wy ⟨rfl, hby⟩
              have hbk := hbz.trans (hby.mono hbz.size)
              clear g0 g1 g2 g3 g4 g5 g6 g7 h0 h1 h2 h3 h4 h5 h6 h7
              have hee : (e == e) = true := by cases e <;> rfl
              go_wp2_with fail
              refine (HK.out _ hbk).mono ?_
              rintro r wz ⟨rfl, hbq⟩
              go_wp2
              go_ret
              exact ⟨rfl, hbk.trans (hbq.mono hbk.size)⟩
end Go.Proofs.YtfmdmeokbbpmlaaDoor
