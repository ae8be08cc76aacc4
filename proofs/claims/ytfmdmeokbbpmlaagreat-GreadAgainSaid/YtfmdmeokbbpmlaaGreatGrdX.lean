/-
  law20: GreadAgain.
-/
import Derived.Test.YtfmdmeokbbpmlaaGreatGrdW
import Derived.Test.YtfmdmeokbbpmlaaGreatGrdS
namespace Go.Proofs.YtfmdmeokbbpmlaaGreat
open Go.RowKit Go.Shelf

theorem jb_take (ws : List ByteArray) : ∀ j, (jb (ws.take j)).length ≤ (jb ws).length := by
  induction ws with
  | nil => intro j; rw [List.take_nil]; exact Nat.le_refl _
  | cons w ws ih =>
    intro j
    cases j with
    | zero => exact Nat.zero_le _
    | succ j =>
      rw [List.take_succ_cons, jb, jb]
      have := ih j
      simp only [List.length_cons, List.length_append]
      omega
theorem wide_take (ws : List ByteArray) (j : Nat) : (wideB (ws.take j)).size ≤ (jb ws).length := by
  rw [← data_len, wideB_list]
  exact jb_take ws j
set_option maxRecDepth 20000 in
set_option maxHeartbeats 32000000 in
theorem law_greadAgain (s : ByteArray) (w : World) :
    Calls Tryz.prog 5 #[.string s] w fun r w' => r = .returned (.bool true) ∧ Below w.heap.size w w' := by
  have HK := hidden (fun (w' : World) => knows20 w')
  have hb0 := Below.refl w.heap.size w
  by_cases hs : 3000 < s.size
  · have q0 : (3000 : Int) < (s.size : Int) := by omega
    go_enter Tryz.func5, Tryz.ntmps5
    go_wp2_with fail
    refine (HK.out w).mono ?_
    rintro r w1 ⟨rfl, hb1⟩
    go_wp2
    go_ret
    exact ⟨rfl, hb1⟩
  · have q0 : ¬ (3000 : Int) < (s.size : Int) := by omega
    obtain ⟨⟨g, n, e⟩, hZ⟩ : ∃ Z, Hid (readG s = Z) := ⟨_, hidden rfl⟩
    have HIs := hidden (read_is (by omega) hZ.out)
    have HMr : Hid (readG (moreT s) = (g, 3 * n, e)) := hidden (by rw [more_read (by omega), hZ.out])
    have hmz := more_size s
    have hn3 : n ≤ 3001 := HIs.out.1
    have R1 := hidden (gr_Read s w)
    rw [hZ.out] at R1
    clear hZ
    go_enter Tryz.func5, Tryz.ntmps5
    go_wp2_with fail
    refine R1.out.mono ?_
    intro r w1 hh
    obtain ⟨a, b, c, rfl, hG, hb1⟩ := hh.out
    dsimp only at hG ⊢
    obtain ⟨A1, k1, rfl, -, -⟩ := hG.1.value
    obtain ⟨A2, k2, rfl, -, -⟩ := hG.2.1.val
    obtain ⟨A3, k3, rfl, -, -⟩ := hG.2.2.value
    unfold gramCells
    clear hh R1
    have hb2 := (Below.refl w1.heap.size w1).alloc (Nat.le_refl _) (.cells #[.slice A1 g.toks.length k1, .slice A2 g.rules.length k2, .slice A3 g.prods.length k3, .int .i64 g.start, .int .i64 g.states, .int .i64 g.text, .int .i64 g.nodes, .int .i64 g.pairs] 27)
    have HGs := hidden (fun (w' : World) (hb : Below (w1.alloc (.cells #[.slice A1 g.toks.length k1, .slice A2 g.rules.length k2, .slice A3 g.prods.length k3, .int .i64 g.start, .int .i64 g.states, .int .i64 g.text, .int .i64 g.nodes, .int .i64 g.pairs] 27)).heap.size (w1.alloc (.cells #[.slice A1 g.toks.length k1, .slice A2 g.rules.length k2, .slice A3 g.prods.length k3, .int .i64 g.start, .int .i64 g.states, .int .i64 g.text, .int .i64 g.nodes, .int .i64 g.pairs] 27)) w') => (hG.old hb2).old hb)
    have HJ := hidden (Holds.new w1 27 #[.slice A1 g.toks.length k1, .slice A2 g.rules.length k2, .slice A3 g.prods.length k3, .int .i64 g.start, .int .i64 g.states, .int .i64 g.text, .int .i64 g.nodes, .int .i64 g.pairs])
    have HB := hidden (hb1.trans (hb2.mono hb1.size))
    have hb4 : Below (w1.alloc (.cells #[.slice A1 g.toks.length k1, .slice A2 g.rules.length k2, .slice A3 g.prods.length k3, .int .i64 g.start, .int .i64 g.states, .int .i64 g.text, .int .i64 g.nodes, .int .i64 g.pairs] 27)).heap.size (w1.alloc (.cells #[.slice A1 g.toks.length k1, .slice A2 g.rules.length k2, .slice A3 g.prods.length k3, .int .i64 g.start, .int .i64 g.states, .int .i64 g.text, .int .i64 g.nodes, .int .i64 g.pairs] 27)) (w1.alloc (.cells #[.slice A1 g.toks.length k1, .slice A2 g.rules.length k2, .slice A3 g.prods.length k3, .int .i64 g.start, .int .i64 g.states, .int .i64 g.text, .int .i64 g.nodes, .int .i64 g.pairs] 27)) := Below.refl _ _
    clear hG hb1 hb2
    go_upto_region 4 with fail
    generalize (w1.alloc (.cells #[.slice A1 g.toks.length k1, .slice A2 g.rules.length k2, .slice A3 g.prods.length k3, .int .i64 g.start, .int .i64 g.states, .int .i64 g.text, .int .i64 g.nodes, .int .i64 g.pairs] 27)) = w2 at *
    generalize w1.heap.size = q1 at *
    have HL := hidden (ref_lines s w2 (by omega))
    go_wp2_with fail
    refine HL.out.mono ?_
    rintro r w3 ⟨⟨lv, rfl, hLv⟩, hb3⟩
    have HW := hidden hb3
    have HS : Hid (Strs w3 (Old w3) lv (linesOf s)) := hidden hLv.out.rd
    have hlen := lines_le s
    have htot := tot_lines s
    have hls : Hid (∀ l ∈ linesOf s, l.size ≤ 3000) := hidden (fun l hm => by have := tot_mem hm; omega)
    have hfin : Hid (textB ((linesOf s).flatMap threeL) = moreT s) := hidden rfl
    clear HL hLv hb3 hb4
    obtain ⟨A6, c6, rfl, v6, m6⟩ := HS.out.val
    have HSs := hidden (fun (w' : World) (hb : Below w3.heap.size w3 w') => Rd.old HS.out hb)
    generalize linesOf s = L at *
    obtain ⟨m, hm⟩ : ∃ m, Hid (L.length = m) := ⟨_, hidden rfl⟩
    rw [hm.out] at HSs hlen
    have hT0 : Hid ((⟨#[]⟩ : ByteArray) = textB ((L.take 0).flatMap threeL)) := hidden (by rw [List.take_zero]; rfl)
    have hb30 := hidden (Below.refl w3.heap.size w3)
    have hmore : Hid (∀ k, (textB ((L.take k).flatMap threeL)).size ≤ 60000) := hidden (fun k => by
      rw [← data_len, textB_list, tl_len]
      have h1 := more_tot (L.take k)
      have h2 := tot_take_le L k
      omega)
    clear HS
    go_upto_region 7 with fail
    rw [hm.out]
    go_loopg [7, 8] m (fun gh tt kk wr => ∃ (k : Nat) (t : ByteArray), k ≤ m ∧ gh = m - k ∧ kk = .int .i64 k ∧ tt = .string t ∧ Hid (t = textB ((L.take k).flatMap threeL)) ∧ Hid (Below w3.heap.size w3 wr))
    case atStart => exact ⟨0, _, Nat.zero_le _, rfl, rfl, rfl, hT0, hb30⟩
    case round =>
      clear hT0 hb30
      obtain ⟨k, t, hk, rfl, rfl, rfl, HT, HWr⟩ := hrel
      by_cases hlt : k < m
      · have q5 : (k : Int) < (m : Int) := by omega
        have hlt2 : k < L.length := by rw [hm.out]; exact hlt
        have hx := List.getElem?_eq_getElem hlt2
        have htk : L.take (k + 1) = L.take k ++ [L[k]] := by rw [List.take_add_one, hx]; rfl
        have hzl := hls.out _ (List.getElem_mem hlt2)
        have hst : Strs wr (Old wr) (.slice A6 L.length c6) L := by unfold Strs; rw [hm.out]; exact HSs.out wr HWr.out
        obtain ⟨lb, lo, e9, hT9, hc9⟩ := strs_at hst hx
        subst e9
        have hb9 : lb < wr.heap.size := hT9
        have htz : t.size ≤ 60000 := by rw [HT.out]; exact hmore.out k
        clear hst hT9
        generalize L[k] = l at *
        have HTn : Hid (L.take (k + 1) = L.take k ++ [l]) := hidden htk
        clear htk hx
        have HWd := hidden (ref_words l wr (by omega))
        by_cases hnote : isNote l = true
        · have hl0 : 0 < l.size := by
            rcases Nat.lt_or_ge 0 l.size with h | h
            · exact h
            · rw [note_empty (by omega)] at hnote; cases hnote
          have hl35 : l[0]'hl0 = 35 := by rw [note_of hl0] at hnote; exact of_decide_eq_true hnote
          have q6 : (0 : Int) < (l.size : Int) := by omega
          have q8 : (((l[0]'hl0).toNat : Int) == 35) = true := by rw [hl35]; rfl
          have HT2 : Hid (t ++ (⟨#[35, 10, 32, 32, 10]⟩ : ByteArray) ++ l ++ (⟨#[10]⟩ : ByteArray) = textB ((L.take (k + 1)).flatMap threeL)) := hidden (by
            rw [HT.out, more_note _ _ hnote, HTn.out, List.flatMap_append]
            simp)
          have z1 : (t ++ (⟨#[35, 10, 32, 32, 10]⟩ : ByteArray)).size ≤ 60005 := by rw [ByteArray.size_append]; have : (⟨#[35, 10, 32, 32, 10]⟩ : ByteArray).size = 5 := rfl; omega
          have z2 : (t ++ (⟨#[35, 10, 32, 32, 10]⟩ : ByteArray) ++ l).size ≤ 70005 := by rw [ByteArray.size_append]; omega
          clear HT HTn HWd hnote hl35
          go_wp2
          go_roundg (m - (k + 1))
          case measure => omega
          case rel => exact ⟨k + 1, _, by omega, rfl, by go_num, rfl, HT2, HWr⟩
        · have hnf : isNote l = false := by simpa using hnote
          clear hnote
          have HTf : Hid (∀ t0 : ByteArray, t0 = t → t0 ++ (⟨#[35, 32, 114, 101, 109, 97, 114, 107, 10, 32, 32, 10]⟩ : ByteArray) ++ wideB (wordsOf l) ++ (⟨#[32, 32, 10]⟩ : ByteArray) = textB ((L.take (k + 1)).flatMap threeL)) := hidden (fun t0 h0 => by
            rw [h0, HT.out, more_line _ _ hnf, HTn.out, List.flatMap_append]
            simp)
          have hroom := words_room l
          have hwz : Hid (∀ u ∈ wordsOf l, u.size ≤ 3000) := hidden (fun u hu => by have := word_ok hu; omega)
          clear HT HTn
          by_cases hl0 : 0 < l.size
          · have hl35 : l[0]'hl0 ≠ 35 := by
              intro h
              rw [note_of hl0, h] at hnf
              cases hnf
            have q6 : (0 : Int) < (l.size : Int) := by omega
            have q8 : (((l[0]'hl0).toNat : Int) == 35) = false := by
              rw [beq_eq_false_iff_ne]
              intro e9
              exact hl35 (UInt8.toNat_inj.1 (by rw [show (35 : UInt8).toNat = 35 from rfl]; omega))
            clear hl35 hnf
            go_wp2_with fail
            refine HWd.out.mono ?_
            rintro r w4 ⟨⟨wv, rfl, hWv⟩, hb4⟩
            have HWw := hidden (HWr.out.trans (hb4.mono HWr.out.size))
            have HSw : Hid (Strs w4 (Old w4) wv (wordsOf l)) := hidden hWv.out.rd
            clear HWd hWv hb4 HWr hc9 hb9
            obtain ⟨Aw, cw, rfl, vw, mw⟩ := HSw.out.val
            have HSv := hidden (fun (w' : World) (hb : Below w4.heap.size w4 w') => Rd.old HSw.out hb)
            have hwl := words_len l
            generalize wordsOf l = ws at *
            obtain ⟨nw, hnw⟩ : ∃ nw, Hid (ws.length = nw) := ⟨_, hidden rfl⟩
            rw [hnw.out] at HSv hwl
            have hA0 : Hid (t ++ (⟨#[35, 32, 114, 101, 109, 97, 114, 107, 10, 32, 32, 10]⟩ : ByteArray) = t ++ (⟨#[35, 32, 114, 101, 109, 97, 114, 107, 10, 32, 32, 10]⟩ : ByteArray) ++ wideB (ws.take 0)) := hidden (by
              rw [List.take_zero]
              apply ba_ext
              rw [ba_list (t ++ (⟨#[35, 32, 114, 101, 109, 97, 114, 107, 10, 32, 32, 10]⟩ : ByteArray)) (wideB [])]
              show _ = _ ++ []
              rw [List.append_nil])
            have hb40 := hidden (Below.refl w4.heap.size w4)
            have hz0 : (t ++ (⟨#[35, 32, 114, 101, 109, 97, 114, 107, 10, 32, 32, 10]⟩ : ByteArray)).size ≤ 60012 := by rw [ByteArray.size_append]; have : (⟨#[35, 32, 114, 101, 109, 97, 114, 107, 10, 32, 32, 10]⟩ : ByteArray).size = 12 := rfl; omega
            clear HSw
            go_upto_region 14 with fail
            rw [hnw.out]
            go_loopg [7, 10] nw (fun gh tt kk wq => ∃ (j : Nat) (ac : ByteArray), j ≤ nw ∧ gh = nw - j ∧ kk = .int .i64 j ∧ tt = .string ac ∧ Hid (ac = t ++ (⟨#[35, 32, 114, 101, 109, 97, 114, 107, 10, 32, 32, 10]⟩ : ByteArray) ++ wideB (ws.take j)) ∧ Hid (Below w4.heap.size w4 wq))
            case atStart => exact ⟨0, _, Nat.zero_le _, rfl, rfl, rfl, hA0, hb40⟩
            case round =>
              clear hA0 hb40
              obtain ⟨j, ac, hj, rfl, rfl, rfl, HAc, HWq⟩ := hrel
              have hacz : ac.size ≤ 80000 := by
                rw [HAc.out, ByteArray.size_append]
                have := wide_take ws j
                omega
              by_cases hjt : j < nw
              · have p5 : (j : Int) < (nw : Int) := by omega
                have hjt2 : j < ws.length := by rw [hnw.out]; exact hjt
                have hx := List.getElem?_eq_getElem hjt2
                have htk : ws.take (j + 1) = ws.take j ++ [ws[j]] := by rw [List.take_add_one, hx]; rfl
                have hzu := hwz.out _ (List.getElem_mem hjt2)
                have hst : Strs wr (Old wr) (.slice Aw ws.length cw) ws := by unfold Strs; rw [hnw.out]; exact HSv.out wr HWq.out
                obtain ⟨ub, uo, e9, hT9, hc9⟩ := strs_at hst hx
                subst e9
                have hb9 : ub < wr.heap.size := hT9
                clear hst hT9
                generalize ws[j] = u at *
                have HAc2 : Hid (ac ++ (⟨#[32, 32, 32]⟩ : ByteArray) ++ u = t ++ (⟨#[35, 32, 114, 101, 109, 97, 114, 107, 10, 32, 32, 10]⟩ : ByteArray) ++ wideB (ws.take (j + 1))) := hidden (by
                  rw [HAc.out, htk, wide_snoc]
                  rw [ba_assoc, ba_assoc, ba_assoc (wideB (ws.take j))]
                  rfl)
                have z1 : (ac ++ (⟨#[32, 32, 32]⟩ : ByteArray)).size ≤ 80003 := by rw [ByteArray.size_append]; have : (⟨#[32, 32, 32]⟩ : ByteArray).size = 3 := rfl; omega
                clear HAc htk hx
                go_wp2
                go_roundg (nw - (j + 1))
                case measure => omega
                case rel => exact ⟨j + 1, _, by omega, rfl, by go_num, rfl, HAc2, HWq⟩
              · have p5 : ¬ (j : Int) < (nw : Int) := by omega
                have hjn : j = ws.length := by rw [hnw.out]; omega
                have HT2 : Hid (ac ++ (⟨#[32, 32, 10]⟩ : ByteArray) = textB ((L.take (k + 1)).flatMap threeL)) := hidden (by
                  rw [HAc.out, hjn, List.take_length]
                  exact HTf.out t rfl)
                have HWz := hidden (HWw.out.trans (HWq.out.mono HWw.out.size))
                clear HAc HTf HWq HWw hjn
                go_wp2
                go_roundg (m - (k + 1))
                case measure => omega
                case rel => exact ⟨k + 1, _, by omega, rfl, by go_num, rfl, HT2, HWz⟩
          · have q6 : ¬ (0 : Int) < (l.size : Int) := by omega
            clear hnf
            go_wp2_with fail
            refine HWd.out.mono ?_
            rintro r w4 ⟨⟨wv, rfl, hWv⟩, hb4⟩
            have HWw := hidden (HWr.out.trans (hb4.mono HWr.out.size))
            have HSw : Hid (Strs w4 (Old w4) wv (wordsOf l)) := hidden hWv.out.rd
            clear HWd hWv hb4 HWr hc9 hb9
            obtain ⟨Aw, cw, rfl, vw, mw⟩ := HSw.out.val
            have HSv := hidden (fun (w' : World) (hb : Below w4.heap.size w4 w') => Rd.old HSw.out hb)
            have hwl := words_len l
            generalize wordsOf l = ws at *
            obtain ⟨nw, hnw⟩ : ∃ nw, Hid (ws.length = nw) := ⟨_, hidden rfl⟩
            rw [hnw.out] at HSv hwl
            have hA0 : Hid (t ++ (⟨#[35, 32, 114, 101, 109, 97, 114, 107, 10, 32, 32, 10]⟩ : ByteArray) = t ++ (⟨#[35, 32, 114, 101, 109, 97, 114, 107, 10, 32, 32, 10]⟩ : ByteArray) ++ wideB (ws.take 0)) := hidden (by
              rw [List.take_zero]
              apply ba_ext
              rw [ba_list (t ++ (⟨#[35, 32, 114, 101, 109, 97, 114, 107, 10, 32, 32, 10]⟩ : ByteArray)) (wideB [])]
              show _ = _ ++ []
              rw [List.append_nil])
            have hb40 := hidden (Below.refl w4.heap.size w4)
            have hz0 : (t ++ (⟨#[35, 32, 114, 101, 109, 97, 114, 107, 10, 32, 32, 10]⟩ : ByteArray)).size ≤ 60012 := by rw [ByteArray.size_append]; have : (⟨#[35, 32, 114, 101, 109, 97, 114, 107, 10, 32, 32, 10]⟩ : ByteArray).size = 12 := rfl; omega
            clear HSw
            go_upto_region 14 with fail
            rw [hnw.out]
            go_loopg [7, 10] nw (fun gh tt kk wq => ∃ (j : Nat) (ac : ByteArray), j ≤ nw ∧ gh = nw - j ∧ kk = .int .i64 j ∧ tt = .string ac ∧ Hid (ac = t ++ (⟨#[35, 32, 114, 101, 109, 97, 114, 107, 10, 32, 32, 10]⟩ : ByteArray) ++ wideB (ws.take j)) ∧ Hid (Below w4.heap.size w4 wq))
            case atStart => exact ⟨0, _, Nat.zero_le _, rfl, rfl, rfl, hA0, hb40⟩
            case round =>
              clear hA0 hb40
              obtain ⟨j, ac, hj, rfl, rfl, rfl, HAc, HWq⟩ := hrel
              have hacz : ac.size ≤ 80000 := by
                rw [HAc.out, ByteArray.size_append]
                have := wide_take ws j
                omega
              by_cases hjt : j < nw
              · exfalso
                omega
              · have p5 : ¬ (j : Int) < (nw : Int) := by omega
                have hjn : j = ws.length := by rw [hnw.out]; omega
                have HT2 : Hid (ac ++ (⟨#[32, 32, 10]⟩ : ByteArray) = textB ((L.take (k + 1)).flatMap threeL)) := hidden (by
                  rw [HAc.out, hjn, List.take_length]
                  exact HTf.out t rfl)
                have HWz := hidden (HWw.out.trans (HWq.out.mono HWw.out.size))
                clear HAc HTf HWq HWw hjn
                go_wp2
                go_roundg (m - (k + 1))
                case measure => omega
                case rel => exact ⟨k + 1, _, by omega, rfl, by go_num, rfl, HT2, HWz⟩
      · have hkm : k = m := by omega
        have q5 : ¬ (k : Int) < (m : Int) := by omega
        have hte : t = moreT s := by rw [HT.out, hkm, ← hm.out, List.take_length]; exact hfin.out
        have HBr := hidden (HB.out.trans ((HW.out.trans (HWr.out.mono HW.out.size)).mono HB.out.size))
        have HW2 := hidden (HW.out.trans (HWr.out.mono HW.out.size))
        have HJr := hidden (HJ.out.below HW2.out HJ.out.lt)
        have R2 := hidden (gr_Read t wr)
        rw [hte, HMr.out, ← hte] at R2
        clear HT HWr HW HB HJ hfin HSs hmore hls HMr hte hm
        go_wp2_with fail
        refine R2.out.mono ?_
        intro r w4 hh
        obtain ⟨a, b, c, rfl, hH, hb4⟩ := hh.out
        dsimp only at hH ⊢
        obtain ⟨B1, j1, rfl, -, -⟩ := hH.1.value
        obtain ⟨B2, j2, rfl, -, -⟩ := hH.2.1.val
        obtain ⟨B3, j3, rfl, -, -⟩ := hH.2.2.value
        unfold gramCells
        clear hh R2
        have hb5 := (Below.refl w4.heap.size w4).alloc (Nat.le_refl _) (.cells #[.slice B1 g.toks.length j1, .slice B2 g.rules.length j2, .slice B3 g.prods.length j3, .int .i64 g.start, .int .i64 g.states, .int .i64 g.text, .int .i64 g.nodes, .int .i64 g.pairs] 27)
        have hb6 := hb4.trans (hb5.mono hb4.size)
        replace HJr := hidden (HJr.out.below hb6 HJr.out.lt)
        replace HBr := hidden (HBr.out.trans (hb6.mono HBr.out.size))
        replace HW2 := hidden (HW2.out.trans (hb6.mono HW2.out.size))
        have HHs := hidden (fun (w' : World) (hb : Below (w4.alloc (.cells #[.slice B1 g.toks.length j1, .slice B2 g.rules.length j2, .slice B3 g.prods.length j3, .int .i64 g.start, .int .i64 g.states, .int .i64 g.text, .int .i64 g.nodes, .int .i64 g.pairs] 27)).heap.size (w4.alloc (.cells #[.slice B1 g.toks.length j1, .slice B2 g.rules.length j2, .slice B3 g.prods.length j3, .int .i64 g.start, .int .i64 g.states, .int .i64 g.text, .int .i64 g.nodes, .int .i64 g.pairs] 27)) w') => (hH.old hb5).old hb)
        have HQ := hidden (Holds.new w4 27 #[.slice B1 g.toks.length j1, .slice B2 g.rules.length j2, .slice B3 g.prods.length j3, .int .i64 g.start, .int .i64 g.states, .int .i64 g.text, .int .i64 g.nodes, .int .i64 g.pairs])
        have hw3 : IntKind.i64.wrap (3 * (n : Int)) = 3 * (n : Int) := IntWalk.i64_in _ (by omega)
        have hb60 : Hid (Below (w4.alloc (.cells #[.slice B1 g.toks.length j1, .slice B2 g.rules.length j2, .slice B3 g.prods.length j3, .int .i64 g.start, .int .i64 g.states, .int .i64 g.text, .int .i64 g.nodes, .int .i64 g.pairs] 27)).heap.size (w4.alloc (.cells #[.slice B1 g.toks.length j1, .slice B2 g.rules.length j2, .slice B3 g.prods.length j3, .int .i64 g.start, .int .i64 g.states, .int .i64 g.text, .int .i64 g.nodes, .int .i64 g.pairs] 27)) (w4.alloc (.cells #[.slice B1 g.toks.length j1, .slice B2 g.rules.length j2, .slice B3 g.prods.length j3, .int .i64 g.start, .int .i64 g.states, .int .i64 g.text, .int .i64 g.nodes, .int .i64 g.pairs] 27))) := hidden (Below.refl _ _)
        clear hH hb4 hb5 hb6
        go_upto_region 19 with fail
        generalize (w4.alloc (.cells #[.slice B1 g.toks.length j1, .slice B2 g.rules.length j2, .slice B3 g.prods.length j3, .int .i64 g.start, .int .i64 g.states, .int .i64 g.text, .int .i64 g.nodes, .int .i64 g.pairs] 27)) = w5 at *
        generalize w4.heap.size = q2 at *
        obtain ⟨g0_, g1_, g2_, g3_, g4_, g5_, g6_, g7_⟩ := gcells HJr.out
        obtain ⟨h0_, h1_, h2_, h3_, h4_, h5_, h6_, h7_⟩ := gcells HQ.out
        have SM1 := hidden (ref_Same18 _ _ _ _ _ _ g g w5 (HGs.out w5 HW2.out) (HHs.out w5 hb60.out))
        rw [eqB_self] at SM1
        unfold gramCells at SM1
        go_wp2_with fail
        refine SM1.out.mono ?_
        rintro r w6 ⟨rfl, hb6⟩
        replace HJr := hidden (HJr.out.below hb6 HJr.out.lt)
        replace HBr := hidden (HBr.out.trans (hb6.mono HBr.out.size))
        replace HW2 := hidden (HW2.out.trans (hb6.mono HW2.out.size))
        clear g0_ g1_ g2_ g3_ g4_ g5_ g6_ g7_ h0_ h1_ h2_ h3_ h4_ h5_ h6_ h7_ SM1 hb6 HQ HHs hb60
        obtain ⟨g0_, g1_, g2_, g3_, g4_, g5_, g6_, g7_⟩ := gcells HJr.out
        by_cases he : e = 0
        · subst he
          obtain ⟨hr, wg, zg⟩ := HIs.out.2.2 rfl
          have hsz := (right_sizes hr).1
          have S1 := hidden (fun (w' : World) (hb : Below w2.heap.size w2 w') => ref_Show19 _ _ _ g w' (HGs.out w' hb) (by omega) (by omega) (by omega) zg wg)
          have C1 := hidden (fun (w' : World) (hb : Below w2.heap.size w2 w') => ref_Check _ _ _ g w' (HGs.out w' hb) (by omega) (by omega) (by omega) zg)
          have hq1 : Hid (∀ w, (Op.equalIn 10000 35 (.agg #[.int .i64 (checkOf g).kind, .int .i64 (checkOf g).at_, .int .i64 (checkOf g).more]) (.agg #[.int .i64 0, .int .i64 0, .int .i64 0])).run Tryz.prog w = .ok true w) := hidden (fun w => by
            have := def_eq_run w (checkOf g) D0
            rw [right_eq, hr] at this
            exact this)
          have HSb := hidden (fun h4 : ¬ 4000 < (gramT g).size => show_back hr wg h4)
          obtain ⟨s1, hs1⟩ : ∃ s1, Hid (gramT g = s1) := ⟨_, hidden rfl⟩
          rw [hs1.out] at S1 HSb
          obtain ⟨⟨y, n3, e3⟩, hZ3⟩ : ∃ Z, Hid (readG s1 = Z) := ⟨_, hidden rfl⟩
          rw [hZ3.out] at HSb
          have R3 := hidden (fun w' => gr_Read s1 w')
          rw [hZ3.out] at R3
          unfold gramCells at S1 C1
          unfold defC at C1
          clear hs1 hZ3 wg zg hsz hr HIs
          go_wp2_with fail
          refine (S1.out w6 HW2.out).mono ?_
          rintro r w7 ⟨rfl, hb7⟩
          replace HJr := hidden (HJr.out.below hb7 HJr.out.lt)
          replace HBr := hidden (HBr.out.trans (hb7.mono HBr.out.size))
          replace HW2 := hidden (HW2.out.trans (hb7.mono HW2.out.size))
          clear g0_ g1_ g2_ g3_ g4_ g5_ g6_ g7_ hb7
          go_wp2_with fail
          refine (R3.out w7).mono ?_
          intro r w8 hh
          obtain ⟨a, b, c, rfl, hX, hb8⟩ := hh.out
          dsimp only at hX ⊢
          obtain ⟨E1, i1, rfl, -, -⟩ := hX.1.value
          obtain ⟨E2, i2, rfl, -, -⟩ := hX.2.1.val
          obtain ⟨E3, i3, rfl, -, -⟩ := hX.2.2.value
          unfold gramCells
          clear hh R3
          have hb5 := (Below.refl w8.heap.size w8).alloc (Nat.le_refl _) (.cells #[.slice E1 y.toks.length i1, .slice E2 y.rules.length i2, .slice E3 y.prods.length i3, .int .i64 y.start, .int .i64 y.states, .int .i64 y.text, .int .i64 y.nodes, .int .i64 y.pairs] 27)
          have hb6 := hb8.trans (hb5.mono hb8.size)
          replace HJr := hidden (HJr.out.below hb6 HJr.out.lt)
          replace HBr := hidden (HBr.out.trans (hb6.mono HBr.out.size))
          replace HW2 := hidden (HW2.out.trans (hb6.mono HW2.out.size))
          have HXs := hidden (fun (w' : World) (hb : Below (w8.alloc (.cells #[.slice E1 y.toks.length i1, .slice E2 y.rules.length i2, .slice E3 y.prods.length i3, .int .i64 y.start, .int .i64 y.states, .int .i64 y.text, .int .i64 y.nodes, .int .i64 y.pairs] 27)).heap.size (w8.alloc (.cells #[.slice E1 y.toks.length i1, .slice E2 y.rules.length i2, .slice E3 y.prods.length i3, .int .i64 y.start, .int .i64 y.states, .int .i64 y.text, .int .i64 y.nodes, .int .i64 y.pairs] 27)) w') => (hX.old hb5).old hb)
          have HQ := hidden (Holds.new w8 27 #[.slice E1 y.toks.length i1, .slice E2 y.rules.length i2, .slice E3 y.prods.length i3, .int .i64 y.start, .int .i64 y.states, .int .i64 y.text, .int .i64 y.nodes, .int .i64 y.pairs])
          clear hX hb5 hb6 hb8
          go_upto_region 24 with fail
          generalize (w8.alloc (.cells #[.slice E1 y.toks.length i1, .slice E2 y.rules.length i2, .slice E3 y.prods.length i3, .int .i64 y.start, .int .i64 y.states, .int .i64 y.text, .int .i64 y.nodes, .int .i64 y.pairs] 27)) = w9 at *
          generalize w8.heap.size = q3 at *
          obtain ⟨g0_, g1_, g2_, g3_, g4_, g5_, g6_, g7_⟩ := gcells HJr.out
          have hq := hq1.out
          go_wp2_with fail
          refine (C1.out w9 HW2.out).mono ?_
          rintro r w10 ⟨rfl, hb10⟩
          replace HJr := hidden (HJr.out.below hb10 HJr.out.lt)
          replace HBr := hidden (HBr.out.trans (hb10.mono HBr.out.size))
          replace HW2 := hidden (HW2.out.trans (hb10.mono HW2.out.size))
          have HQ10 := hidden (HQ.out.below hb10 HQ.out.lt)
          clear g0_ g1_ g2_ g3_ g4_ g5_ g6_ g7_ C1
          obtain ⟨g0_, g1_, g2_, g3_, g4_, g5_, g6_, g7_⟩ := gcells HJr.out
          go_wp2_with fail
          refine (S1.out w10 HW2.out).mono ?_
          rintro r w11 ⟨rfl, hb11⟩
          replace HJr := hidden (HJr.out.below hb11 HJr.out.lt)
          replace HBr := hidden (HBr.out.trans (hb11.mono HBr.out.size))
          replace HW2 := hidden (HW2.out.trans (hb11.mono HW2.out.size))
          have HQ11 := hidden (HQ10.out.below hb11 HQ10.out.lt)
          have hbx := hidden (hb10.trans (hb11.mono hb10.size))
          clear g0_ g1_ g2_ g3_ g4_ g5_ g6_ g7_ S1 hq hq1 hb10 hb11 HQ HQ10
          by_cases h4 : 4000 < s1.size
          · have p4 : (4000 : Int) < (s1.size : Int) := by omega
            have hbz := HBr.out
            clear HSb HXs HGs HW2 HJr HQ11 hbx h4
            go_wp2_with fail
            refine (HK.out _).mono ?_
            rintro r wz ⟨rfl, hbk⟩
            go_wp2
            go_ret
            exact ⟨rfl, hbz.trans (hbk.mono hbz.size)⟩
          · have p4 : ¬ (4000 : Int) < (s1.size : Int) := by omega
            have hyg : y = g := congrArg (fun z : Gram × Nat × Int => z.1) (HSb.out h4)
            have heq : eqB g y = true := by rw [hyg]; exact eqB_self g
            have SM4 := hidden (ref_Same18 _ _ _ _ _ _ g y w11 (HGs.out w11 HW2.out) (HXs.out w11 hbx.out))
            rw [heq] at SM4
            unfold gramCells at SM4
            have hbz := HBr.out
            obtain ⟨g0_, g1_, g2_, g3_, g4_, g5_, g6_, g7_⟩ := gcells HJr.out
            obtain ⟨h0_, h1_, h2_, h3_, h4_, h5_, h6_, h7_⟩ := gcells HQ11.out
            clear HSb HXs HGs HW2 HJr HQ11 hbx h4 hyg heq
            go_wp2_with fail
            refine SM4.out.mono ?_
            rintro r w12 ⟨rfl, hb12⟩
            have hby := hbz.trans (hb12.mono hbz.size)
            clear g0_ g1_ g2_ g3_ g4_ g5_ g6_ g7_ h0_ h1_ h2_ h3_ h4_ h5_ h6_ h7_ SM4
            go_wp2_with fail
            refine (HK.out _).mono ?_
            rintro r wz ⟨rfl, hbk⟩
            go_wp2
            go_ret
            exact ⟨rfl, hby.trans (hbk.mono hby.size)⟩
        · have hg : g = g0 := HIs.out.2.1 he
          have SM2 := hidden (ref_Same18 _ _ _ (.slice none 0 0) (.slice none 0 0) (.slice none 0 0) g g0 w6 (HGs.out w6 HW2.out) (g0_is w6 (Old w6)))
          have heq : eqB g g0 = true := by rw [hg]; exact eqB_self g0
          rw [heq] at SM2
          unfold gramCells at SM2
          have SM3 : Hid (Calls Tryz.prog 9 #[.agg #[.slice A1 g.toks.length k1, .slice A2 g.rules.length k2, .slice A3 g.prods.length k3, .int .i64 g.start, .int .i64 g.states, .int .i64 g.text, .int .i64 g.nodes, .int .i64 g.pairs], .agg #[.slice none 0 0, .slice none 0 0, .slice none 0 0, .int .i64 0, .int .i64 0, .int .i64 0, .int .i64 0, .int .i64 0]] w6 fun r w' => r = .returned (.bool true) ∧ Below w6.heap.size w6 w') := SM2
          have hbz := HBr.out
          clear SM2 heq hg HIs HGs HW2 HJr
          go_wp2_with fail
          refine SM3.out.mono ?_
          rintro r w7 ⟨rfl, hb7⟩
          have hby := hbz.trans (hb7.mono hbz.size)
          clear g0_ g1_ g2_ g3_ g4_ g5_ g6_ g7_ SM3
          go_wp2_with fail
          refine (HK.out _).mono ?_
          rintro r wz ⟨rfl, hbk⟩
          go_wp2
          go_ret
          exact ⟨rfl, hby.trans (hbk.mono hby.size)⟩
end Go.Proofs.YtfmdmeokbbpmlaaGreat
