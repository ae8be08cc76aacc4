/-
  The law YieldWithin.
-/
import Derived.Test.YtihblifkbljgaaaYieldWithinPlain
import Derived.Test.YtihblifkbljgaaaTreeSame2
namespace Go.Proofs.Ytihblifkbljgaaa
open Go.RowKit Go.Shelf

set_option maxRecDepth 20000 in
set_option maxHeartbeats 8000000 in
theorem law_within (v : Value) (t : List Node) (w : World) (h4 : bulkT t ≤ 1048576) (hN : Nds w (Old w) v t) :
    Calls Try.prog 5 #[v] w fun r w' => r = .returned (.bool true) ∧ Below w.heap.size w w' := by
  have h5 := bulk_len t
  have HF := hidden (few v t w hN (by omega))
  have HN := hidden (fun (w' : World) (hb : Below w.heap.size w w') => hN.old hb)
  have HR := hidden (fun (w' : World) (hb : Below w.heap.size w w') => ref_right v t w' (by omega) (hN.old hb))
  have HX : Hid (∀ w', Below w.heap.size w w' → Calls Try.prog 26 #[v] w' fun r w2 => r = .returned (.string (catB (textOf t))) ∧ Below w'.heap.size w' w2) := hidden (fun (w' : World) (hb : Below w.heap.size w w') => yield_text v t w' (by omega) (hN.old hb))
  have HS := hidden (fun (i : Int) (w' : World) (hb : Below w.heap.size w w') => yield_span v t i w' (by omega) (hN.old hb))
  have HA := hidden (fun (i : Int) (w' : World) (hb : Below w.heap.size w w') => yield_find v t i w' (by omega) (hN.old hb))
  have HU := hidden (fun (i : Int) (w' : World) (hb : Below w.heap.size w w') => ref_up v t i w' (by omega) (hN.old hb))
  have HB := hidden (fun (i : Int) (w' : World) (hb : Below w.heap.size w w') => ref_sub v t i w' (by omega) (hN.old hb))
  obtain ⟨A, c, rfl, hc1, hc2⟩ := hN.value
  unfold maxLen at hc2
  clear hN
  cases hf : fewB t && treeB t with
  | false =>
    clear HX HS HA HU HB HN
    cases hf1 : fewB t with
    | false =>
      rw [hf1] at HF
      clear hf hf1 HR
      go_enter Try.func5, Try.ntmps5
      go_wp2_with fail
      refine HF.out.mono ?_
      rintro r w1 ⟨rfl, hb⟩
      go_wp2_with fail
      refine (knows28 w1).mono ?_
      rintro r w2 ⟨rfl, hb2⟩
      replace hb := hb.trans (hb2.mono hb.size)
      go_wp2
      go_ret
      exact ⟨rfl, hb⟩
    | true =>
      rw [hf1, Bool.true_and] at hf
      rw [hf1] at HF
      rw [hf] at HR
      clear hf hf1
      go_enter Try.func5, Try.ntmps5
      go_wp2_with fail
      refine HF.out.mono ?_
      rintro r w1 ⟨rfl, hb⟩
      go_wp2_with fail
      refine (HR.out w1 hb).mono ?_
      rintro r w2 ⟨rfl, hb2⟩
      replace hb := hb.trans (hb2.mono hb.size)
      go_wp2_with fail
      refine (knows28 w2).mono ?_
      rintro r w3 ⟨rfl, hb3⟩
      replace hb := hb.trans (hb3.mono hb.size)
      go_wp2
      go_ret
      exact ⟨rfl, hb⟩
  | true =>
    rw [Bool.and_eq_true] at hf
    obtain ⟨hf, ht⟩ := hf
    have HT := hidden (treeB_iff.1 ht)
    have hts : ((textOf t).length : Int) ≤ 1048576 := by
      have := text_len t
      have := fromY_le t (k := (leavesOf t).length) (Nat.le_refl _)
      omega
    have HTs := hidden (catB_size (textOf t))
    have HFo := hidden (fun at_ (h : at_ < 0 ∨ ((textOf t).length : Int) ≤ at_) => find_out (t := t) h)
    have HSb := hidden (fun i (h : i < t.length) => span_bounds HT.out h)
    rw [hf] at HF
    rw [ht] at HR
    clear hf ht
    go_enter Try.func5, Try.ntmps5
    go_wp2_with fail
    refine HF.out.mono ?_
    rintro r w1 ⟨rfl, hb⟩
    go_wp2_with fail
    refine (HR.out w1 hb).mono ?_
    rintro r w2 ⟨rfl, hb2⟩
    replace hb := hb.trans (hb2.mono hb.size)
    clear hb2
    go_wp2_with fail
    refine (HX.out w2 hb).mono ?_
    rintro r w3 ⟨rfl, hb3⟩
    replace hb := hb.trans (hb3.mono hb.size)
    clear hb3 HX HR HF
    go_wp2
    go_loopw [4] (fun kk wr => ∃ k : Nat, kk = .int .i64 k ∧ k ≤ t.length ∧ Below w.heap.size w wr) (fun kk _ => t.length - (intOf kk).toNat)
    case atStart => exact ⟨0, rfl, by omega, hb⟩
    case round =>
      clear hb
      obtain ⟨k, rfl, hk, hb⟩ := hrel
      have hbz := hb.size
      by_cases hlt : k < t.length
      · obtain ⟨b1, b2⟩ := HSb.out k hlt
        rw [← HTs.out] at b2
        have hsp : (spanOf t (k : Int)).2.2 = true := by rw [span_in HT.out hlt]
        have HSk := hidden (HS.out (k : Int))
        rw [hsp] at HSk
        have hx := List.getElem?_eq_getElem hlt
        have HCell := hidden (fun W (h : Below w.heap.size w W) => by
          obtain ⟨b, off, c', hv, _, _, _, hat⟩ := (HN.out W h).open_ (by intro e; rw [e] at hlt; simp at hlt)
          obtain ⟨l, x0, _, _, _, x4, _⟩ := hat k _ hx
          exact (⟨b, off, c', hv, x0, x4⟩ : ∃ b off c', Value.slice A t.length c = .slice (some ⟨b, off, none⟩) t.length c' ∧ W.cell? ⟨b, off + k * 5, none⟩ = some (.int .i64 t[k].kind) ∧ W.cell? ⟨b, off + k * 5 + 4, none⟩ = some (.string t[k].text)))
        have hA : ∃ b off, A = some ⟨b, off, none⟩ ∧ ∀ W, Below w.heap.size w W → W.cell? ⟨b, off + k * 5, none⟩ = some (.int .i64 t[k].kind) ∧ W.cell? ⟨b, off + k * 5 + 4, none⟩ = some (.string t[k].text) := by
          obtain ⟨b, off, c', hv, _, _⟩ := HCell.out wr hb
          simp only [Value.slice.injEq] at hv
          obtain ⟨rfl, _, rfl⟩ := hv
          refine ⟨b, off, rfl, fun W hW => ?_⟩
          obtain ⟨b', off', c'', hv, y0, y4⟩ := HCell.out W hW
          simp only [Value.slice.injEq, Option.some.injEq, Addr.mk.injEq] at hv
          obtain ⟨⟨rfl, rfl, _⟩, _, _⟩ := hv
          exact ⟨y0, y4⟩
        obtain ⟨b, off, rfl, hcc⟩ := hA
        have HC := hidden hcc
        have hleaf := leafAt_of hx
        have HLf : Hid (textedK t[k].kind → (catB (textOf t)).extract (spanOf t (k : Int)).1 (spanOf t (k : Int)).2.1 = t[k].text ∧ ∀ j : Nat, (spanOf t (k : Int)).1 ≤ j → j < (spanOf t (k : Int)).2.1 → findOf t (j : Int) = (k : Int)) := hidden (fun h => by
          obtain ⟨q, q1, q2, q3⟩ := leaf_word HT.out hlt (by rw [hleaf]; exact h)
          rw [q3]
          refine ⟨?_, fun j j1 j2 => ?_⟩
          · rw [leaf_bytes q1, q2, hleaf]
          · rw [find_in q1 j1 j2, q2])
        have HKw : Hid (∀ p : Nat, p < k → k < p + sz t p → (leavesOf (subOf t (k : Int))).length ≠ 0 → (spanOf t (p : Int)).1 ≤ (spanOf t (k : Int)).1 ∧ (spanOf t (k : Int)).2.1 ≤ (spanOf t (p : Int)).2.1 ∧ (spanOf t (p : Int)).2.2 = true) := hidden (fun p p1 p2 h => by
          obtain ⟨q, q1, q2, q3⟩ := sub_word HT.out hlt h
          obtain ⟨r1, r2⟩ := kid_within HT.out hlt p1 p2 q1 q2 q3
          exact ⟨r1, r2, by rw [span_in HT.out (show p < t.length by omega)]⟩)
        have HUp := hidden (up_of HT.out hlt)
        generalize (spanOf t (k : Int)).1 = sa at *
        generalize (spanOf t (k : Int)).2.1 = sb at *
        generalize t[k].kind = kd at *
        generalize t[k].text = tx at *
        have hS9 : (catB (textOf t)).size ≤ 1048576 := by rw [HTs.out]; omega
        clear hx HCell hcc hleaf hsp
        generalize catB (textOf t) = S at *
        go_wp2_with fail
        refine (HSk.out wr hb).mono ?_
        rintro r w4 ⟨rfl, hb4⟩
        replace hb := hb.trans (hb4.mono hbz)
        have hbz4 := hb.size
        have hba := below_alloc (o := .cells #[.int .i64 sa, .int .i64 sb] 37) hbz4 hb
        have m5 := Holds.new w4 37 #[.int .i64 sa, .int .i64 sb]
        obtain ⟨y0, y4⟩ := HC.out _ hba
        have d1 : decide (sb < sa) = false := decide_eq_false (by omega)
        have d2 : decide (S.size < sb) = false := decide_eq_false (by omega)
        have d0 : decide ((sa : Int) < 0) = false := decide_eq_false (by omega)
        clear hb4 HSk
        go_wp2_with fail
        refine (ref_texted kd _).mono ?_
        rintro r w5 ⟨rfl, rfl⟩
        replace hb := hba
        clear hba
        by_cases hkd : textedK kd
        · have d7 : decide (textedK kd) = true := decide_eq_true hkd
          rw [d7]
          obtain ⟨l1, l2⟩ := HLf.out hkd
          have HFi := hidden l2
          have hne : (!((S.extract sa sb).toList == tx.toList)) = false := by rw [l1]; simp
          have z0 := Ext.cell (show (w4.alloc (.cells #[.int .i64 sa, .int .i64 sb] 37)).cell? ⟨w4.heap.size, 0, none⟩ = some (.int .i64 sa) from m5.cell 0)
          have z1 := Ext.cell (show (w4.alloc (.cells #[.int .i64 sa, .int .i64 sb] 37)).cell? ⟨w4.heap.size, 1, none⟩ = some (.int .i64 sb) from m5.cell 1)
          have z4 := Ext.cell y4
          have i1 : (0 : Int) ≤ (sa : Int) := by omega
          have i2 : (sa : Int) ≤ (sb : Int) := by omega
          have i3 : (sb : Int) ≤ (S.size : Int) := by omega
          have M5 := hidden m5
          have HB5 := hidden hb
          clear l1 l2 y0 y4 d7 m5 hb
          go_wp2
          refine wp_region_ext (by kernel_rfl) (by kernel_rfl) ?_
          repeat (go_big_quiet_step (fail))
          refine wpQuiet_nil ?_
          intro w5 hb5
          have m5 := M5.out.below hb5 M5.out.lt
          have hb := HB5.out.trans (hb5.mono HB5.out.size)
          clear hb5 M5 HB5 z0 z1 z4
          have k0 : w5.cell? ⟨w4.heap.size, 0, none⟩ = some (.int .i64 sa) := m5.cell 0
          have k1 : w5.cell? ⟨w4.heap.size, 1, none⟩ = some (.int .i64 sb) := m5.cell 1
          go_wp2
          clear k0 k1 hne
          obtain ⟨wo, rfl⟩ : ∃ wo, wo = wr := ⟨_, rfl⟩
          go_loopw [7] (fun jj wr => ∃ j : Nat, jj = .int .i64 j ∧ sa ≤ j ∧ j ≤ sb ∧ Holds wr w4.heap.size 37 #[.int .i64 sa, .int .i64 sb] ∧ Below w.heap.size w wr) (fun jj _ => sb - (intOf jj).toNat)
          case atStart => exact ⟨sa, rfl, Nat.le_refl _, by omega, m5, hb⟩
          case round =>
            clear m5 hb
            obtain ⟨j, rfl, j1, j2, m5, hb⟩ := hrel
            have k1 : wr.cell? ⟨w4.heap.size, 1, none⟩ = some (.int .i64 sb) := m5.cell 1
            by_cases hj : j < sb
            · have HFj := hidden (HA.out (j : Int) wr hb)
              rw [HFi.out j j1 hj] at HFj
              have d8 : ((k : Int) != (k : Int)) = false := by simp
              go_wp2_with fail
              refine HFj.out.mono ?_
              rintro r w6 ⟨rfl, hb6⟩
              have m6 := m5.below hb6 m5.lt
              replace hb := hb.trans (hb6.mono hb.size)
              clear hb6 m5 k1
              go_wp2
              go_roundw
              case rel => exact ⟨j + 1, by go_num, by omega, by omega, m6, hb⟩
              case measure => simp [intOf]; omega
            · obtain rfl : sb = j := by omega
              go_wp2_with fail
              refine (HU.out (k : Int) _ hb).mono ?_
              rintro r w6 ⟨rfl, hb6⟩
              have m6 := m5.below hb6 m5.lt
              replace hb := hb.trans (hb6.mono hb.size)
              clear hb6 m5
              rcases HUp.out with e | ⟨p, e, p1, p2⟩
              · rw [e]
                go_wp2
                all_goals
                  go_roundw
                  case rel => exact ⟨k + 1, by go_num, by omega, hb⟩
                  case measure => simp [intOf]; omega
              · rw [e]
                have HKp := hidden (HKw.out p p1 p2)
                have d3 : decide ((p : Int) < 0) = false := decide_eq_false (by omega)
                clear e
                go_wp2_with fail
                refine (HB.out (k : Int) _ hb).mono ?_
                rintro r w7 ⟨⟨u7, rfl, HSu⟩, hb7⟩
                have m7 := m6.below hb7 m6.lt
                replace hb := hb.trans (hb7.mono hb.size)
                clear hb7 m6
                obtain ⟨A7, c7, hv7, _, _⟩ := HSu.out.value
                have hsl : (subOf t (k : Int)).length ≤ t.length := by rw [subOf_in HT.out hlt, subL_len HT.out hlt]; have := (tree_node HT.out hlt).2.1; omega
                have HLe := hidden (ref_leaves _ _ w7 (by omega) HSu.out)
                subst hv7
                go_wp2_with fail
                refine HLe.out.mono ?_
                rintro r w8 ⟨⟨u8, rfl, HM⟩, hb8⟩
                obtain ⟨A8, c8, rfl⟩ := HM.out.value
                have m8 := m7.below hb8 m7.lt
                replace hb := hb.trans (hb8.mono hb.size)
                clear hb8 m7 HM HLe HSu hsl
                generalize (leavesOf (subOf t (k : Int))).length = nl at *
                by_cases h0 : nl = 0
                · subst h0
                  go_wp2
                  go_roundw
                  case rel => exact ⟨k + 1, by go_num, by omega, hb⟩
                  case measure => simp [intOf]; omega
                · have d4 : ((nl : Int) == 0) = false := by rw [beq_eq_false_iff_ne]; omega
                  obtain ⟨r1, r2, r3⟩ := HKp.out h0
                  have HSp := hidden (HS.out (p : Int) w8 hb)
                  rw [r3] at HSp
                  clear r3 HKp
                  generalize (spanOf t (p : Int)).1 = pa at *
                  generalize (spanOf t (p : Int)).2.1 = pb at *
                  have d5 : decide (sa < pa) = false := decide_eq_false (by omega)
                  have d6 : decide (pb < sb) = false := decide_eq_false (by omega)
                  go_wp2_with fail
                  refine HSp.out.mono ?_
                  rintro r w9 ⟨rfl, hb9⟩
                  have m9 := m8.below hb9 m8.lt
                  have k0 : w9.cell? ⟨w4.heap.size, 0, none⟩ = some (.int .i64 sa) := m9.cell 0
                  have k1 : w9.cell? ⟨w4.heap.size, 1, none⟩ = some (.int .i64 sb) := m9.cell 1
                  have hl9 := m9.lt
                  replace hb := hb.trans (hb9.mono hb.size)
                  have hbz9 := hb.size
                  clear hb9 m8 HSp
                  replace hb := below_alloc (o := .cells #[.int .i64 pa, .int .i64 pb] 37) hbz9 hb
                  go_wp2
                  go_roundw
                  case rel => exact ⟨k + 1, by go_num, by omega, hb⟩
                  case measure => simp [intOf]; omega
        · have d7 : decide (textedK kd) = false := decide_eq_false hkd
          rw [d7]
          clear y0 y4 d7
          go_wp2_with fail
          refine (HU.out (k : Int) _ hb).mono ?_
          rintro r w6 ⟨rfl, hb6⟩
          have m6 := m5.below hb6 m5.lt
          replace hb := hb.trans (hb6.mono hb.size)
          clear hb6 m5
          rcases HUp.out with e | ⟨p, e, p1, p2⟩
          · rw [e]
            go_wp2
            all_goals
              go_roundw
              case rel => exact ⟨k + 1, by go_num, by omega, hb⟩
              case measure => simp [intOf]; omega
          · rw [e]
            have HKp := hidden (HKw.out p p1 p2)
            have d3 : decide ((p : Int) < 0) = false := decide_eq_false (by omega)
            clear e
            go_wp2_with fail
            refine (HB.out (k : Int) _ hb).mono ?_
            rintro r w7 ⟨⟨u7, rfl, HSu⟩, hb7⟩
            have m7 := m6.below hb7 m6.lt
            replace hb := hb.trans (hb7.mono hb.size)
            clear hb7 m6
            obtain ⟨A7, c7, hv7, _, _⟩ := HSu.out.value
            have hsl : (subOf t (k : Int)).length ≤ t.length := by rw [subOf_in HT.out hlt, subL_len HT.out hlt]; have := (tree_node HT.out hlt).2.1; omega
            have HLe := hidden (ref_leaves _ _ w7 (by omega) HSu.out)
            subst hv7
            go_wp2_with fail
            refine HLe.out.mono ?_
            rintro r w8 ⟨⟨u8, rfl, HM⟩, hb8⟩
            obtain ⟨A8, c8, rfl⟩ := HM.out.value
            have m8 := m7.below hb8 m7.lt
            replace hb := hb.trans (hb8.mono hb.size)
            clear hb8 m7 HM HLe HSu hsl
            generalize (leavesOf (subOf t (k : Int))).length = nl at *
            by_cases h0 : nl = 0
            · subst h0
              go_wp2
              go_roundw
              case rel => exact ⟨k + 1, by go_num, by omega, hb⟩
              case measure => simp [intOf]; omega
            · have d4 : ((nl : Int) == 0) = false := by rw [beq_eq_false_iff_ne]; omega
              obtain ⟨r1, r2, r3⟩ := HKp.out h0
              have HSp := hidden (HS.out (p : Int) w8 hb)
              rw [r3] at HSp
              clear r3 HKp
              generalize (spanOf t (p : Int)).1 = pa at *
              generalize (spanOf t (p : Int)).2.1 = pb at *
              have d5 : decide (sa < pa) = false := decide_eq_false (by omega)
              have d6 : decide (pb < sb) = false := decide_eq_false (by omega)
              go_wp2_with fail
              refine HSp.out.mono ?_
              rintro r w9 ⟨rfl, hb9⟩
              have m9 := m8.below hb9 m8.lt
              have k0 : w9.cell? ⟨w4.heap.size, 0, none⟩ = some (.int .i64 sa) := m9.cell 0
              have k1 : w9.cell? ⟨w4.heap.size, 1, none⟩ = some (.int .i64 sb) := m9.cell 1
              have hl9 := m9.lt
              replace hb := hb.trans (hb9.mono hb.size)
              have hbz9 := hb.size
              clear hb9 m8 HSp
              replace hb := below_alloc (o := .cells #[.int .i64 pa, .int .i64 pb] 37) hbz9 hb
              go_wp2
              go_roundw
              case rel => exact ⟨k + 1, by go_num, by omega, hb⟩
              case measure => simp [intOf]; omega
      · obtain rfl : k = t.length := by omega
        have HA1 := hidden (HA.out ((catB (textOf t)).size : Int))
        have HA2 := hidden (HA.out (-1))
        rw [HFo.out _ (.inr (by rw [HTs.out]; omega))] at HA1
        rw [HFo.out (-1) (.inl (by omega))] at HA2
        generalize catB (textOf t) = S at *
        go_wp2_with fail
        refine (HA1.out wr hb).mono ?_
        rintro r w6 ⟨rfl, hb6⟩
        replace hb := hb.trans (hb6.mono hb.size)
        clear hb6
        go_wp2_with fail
        refine (HA2.out w6 hb).mono ?_
        rintro r w7 ⟨rfl, hb7⟩
        replace hb := hb.trans (hb7.mono hb.size)
        clear hb7
        go_wp2_with fail
        refine (knows28 w7).mono ?_
        rintro r w8 ⟨rfl, hb8⟩
        replace hb := hb.trans (hb8.mono hb.size)
        go_wp2
        go_ret
        exact ⟨rfl, hb⟩
end Go.Proofs.Ytihblifkbljgaaa
