/-
  law27.ArenaMakes.
-/
import Derived.Test.YtihblifkbljgaaaArenaRowAt
import Derived.Test.YtihblifkbljgaaaArenaOwned
import Derived.Test.YtihblifkbljgaaaTreeRefPut
import Derived.Test.YtihblifkbljgaaaTreeSub2
import Derived.Test.YtihblifkbljgaaaTreeSame2
import Derived.Test.YtihblifkbljgaaaFewAny
namespace Go.Proofs.Ytihblifkbljgaaa
open Go.RowKit Go.Shelf

set_option maxRecDepth 20000 in
set_option maxHeartbeats 8000000 in
theorem law_makes (v u l : Value) (t s : List Node) (x : Node) (i : Int) (w : World) (hFt : Fit t) (hFs : Fit s) (hFx : x.lead.length * 24 ≤ 140737488355328) (hTt : Txt 140737488355328 t) (hTs : Txt 140737488355328 s) (hTx : ∀ p ∈ x.lead, p.text.size ≤ 140737488355328)
    (hN : Nds w (Old w) v t) (hM : Nds w (Old w) u s) (hL : Pcs w (Old w) l x.lead) :
    Calls Try.prog 6 #[v, .int .i64 i, u, .agg #[.int .i64 x.kind, .int .i64 x.n, .int .i64 x.size, l, .string x.text]] w fun r w' => r = .returned (.bool true) ∧ Below w.heap.size w w' := by
  obtain ⟨W0, hW0⟩ : ∃ W0, w.alloc (.cells #[.int .i64 x.kind, .int .i64 x.n, .int .i64 x.size, l, .string x.text] 29) = W0 := ⟨_, rfl⟩
  have hal : Below w.heap.size w W0 := by rw [← hW0]; exact (Below.refl _ _).alloc (Nat.le_refl _) _
  have hn : Holds W0 w.heap.size 29 #[.int .i64 x.kind, .int .i64 x.n, .int .i64 x.size, l, .string x.text] := by rw [← hW0]; exact Holds.new _ _ _
  have hN0 := hN.old hal
  have hM0 := hM.old hal
  have hL0 := pcs_old hL hal
  have HN := hidden (fun (w' : World) (hw : Below W0.heap.size W0 w') => hN0.old hw)
  have HM := hidden (fun (w' : World) (hw : Below W0.heap.size W0 w') => hM0.old hw)
  have HL := hidden (fun (w' : World) (hw : Below W0.heap.size W0 w') => pcs_old hL0 hw)
  have HZ : Hid (∀ w', Below W0.heap.size W0 w' → w'.cell? ⟨w.heap.size, 0, none⟩ = some (.int .i64 x.kind) ∧ w'.cell? ⟨w.heap.size, 1, none⟩ = some (.int .i64 x.n) ∧ w'.cell? ⟨w.heap.size, 2, none⟩ = some (.int .i64 x.size) ∧ w'.cell? ⟨w.heap.size, 3, none⟩ = some l ∧ w'.cell? ⟨w.heap.size, 4, none⟩ = some (.string x.text)) := hidden (fun w' hw => by
    have h := hn.below hw hn.lt
    exact ⟨h.cell 0, h.cell 1, h.cell 2, h.cell 3, h.cell 4⟩)
  have HF := hidden (fun (w' : World) (hw : Below W0.heap.size W0 w') => few_any v t w' (HN.out w' hw))
  have HG := hidden (fun (w' : World) (hw : Below W0.heap.size W0 w') => few_any u s w' (HM.out w' hw))
  have HH := hidden (fun (w' : World) (hw : Below W0.heap.size W0 w') => few_any _ [x] _ (one_row (HL.out w' hw)))
  have hb := Below.refl W0.heap.size W0
  have hwl : w.heap.size ≤ W0.heap.size := hal.size
  have HFt := hidden hFt; have HFs := hidden hFs; have HTt := hidden hTt; have HTs := hidden hTs; have HTx := hidden hTx; have HAL := hidden hal
  obtain ⟨A, c, rfl, hc1, hc2⟩ := hN.value
  obtain ⟨A2, c2, rfl, hd1, hd2⟩ := hM.value
  obtain ⟨A3, c3, rfl, he1, he2⟩ := hL.value
  unfold maxLen at hc2 hd2 he2
  clear hN hM hL hN0 hM0 hL0 hFt hFs hTt hTs hTx hn hal
  cases hf : fewB t with
  | false =>
    rw [hf] at HF
    clear hf
    go_enter Try.func6, Try.ntmps6
    go_wp2_with fail
    refine (HF.out _ hb).mono ?_
    rintro r wg ⟨rfl, hbg⟩
    replace hb := hb.trans (hbg.mono hb.size)
    go_wp2_with fail
    refine (knows27 _).mono ?_
    rintro r wg ⟨rfl, hbg⟩
    replace hb := hb.trans (hbg.mono hb.size)
    clear hbg
    go_wp2
    go_ret
    exact ⟨rfl, HAL.out.trans (hb.mono hwl)⟩
  | true =>
    rw [hf] at HF
    have hlen : t.length ≤ 120 := by unfold fewB at hf; simp at hf; exact hf.1
    cases hg : fewB s with
    | false =>
      rw [hg] at HG
      clear hf hg
      go_enter Try.func6, Try.ntmps6
      go_wp2_with fail
      refine (HF.out _ hb).mono ?_
      rintro r wg ⟨rfl, hbg⟩
      replace hb := hb.trans (hbg.mono hb.size)
      go_wp2_with fail
      refine (HG.out _ hb).mono ?_
      rintro r wg ⟨rfl, hbg⟩
      replace hb := hb.trans (hbg.mono hb.size)
      clear hbg
      go_wp2_with fail
      refine (knows27 _).mono ?_
      rintro r wg ⟨rfl, hbg⟩
      replace hb := hb.trans (hbg.mono hb.size)
      clear hbg
      go_wp2
      go_ret
      exact ⟨rfl, HAL.out.trans (hb.mono hwl)⟩
    | true =>
      rw [hg] at HG
      have hlen2 : s.length ≤ 120 := by unfold fewB at hg; simp at hg; exact hg.1
      clear hf hg
      generalize fewB [x] = fx at *
      go_enter Try.func6, Try.ntmps6
      go_wp2_with fail
      refine (HF.out _ hb).mono ?_
      rintro r wg ⟨rfl, hbg⟩
      replace hb := hb.trans (hbg.mono hb.size)
      go_wp2_with fail
      refine (HG.out _ hb).mono ?_
      rintro r wg ⟨rfl, hbg⟩
      replace hb := hb.trans (hbg.mono hb.size)
      obtain ⟨z0, z1, z2, z3, z4⟩ := HZ.out _ hb
      clear hbg
      go_wp2_with fail
      refine (HH.out _ hb).mono ?_
      rintro r wg2 ⟨rfl, hbg⟩
      replace hb := (hb.alloc hb.size _).trans (hbg.mono (hb.alloc hb.size _).size)
      clear z0 z1 z2 z3 z4 hbg HF HG HH hW0
      cases fx with
      | false =>
        go_wp2_with fail
        refine (knows27 _).mono ?_
        rintro r wg ⟨rfl, hbg⟩
        replace hb := hb.trans (hbg.mono hb.size)
        clear hbg
        go_wp2
        go_ret
        exact ⟨rfl, HAL.out.trans (hb.mono hwl)⟩
      | true =>
        have H1 := hidden (fun (w' : World) (hw : Below W0.heap.size W0 w') => arena_put _ _ t s i w' (by omega) (by omega) HFt.out HFs.out (HN.out w' hw) (HM.out w' hw))
        have H2 := hidden (fun (w' : World) (hw : Below W0.heap.size W0 w') => ref_put _ _ t s i w' (by omega) (by omega) (HN.out w' hw) (HM.out w' hw))
        have HP := hidden (txt_put (i := i) HTt.out HTs.out)
        have hPl := putOf_len t s i
        have hq : (putB t i s == putB t i s) = true := by simp
        generalize putOf t i s = P at *
        generalize putB t i s = pb at *
        generalize hPn : P.length = nA at *
        have hloA := hb.size
        go_wp2_with fail
        refine (H1.out _ hb).mono ?_
        rintro r wA ⟨⟨va, rfl, MA⟩, hbg⟩
        replace hb := hb.trans (hbg.mono hb.size)
        have KA : Hid (∀ w', Below wA.heap.size wA w' → RowAt w' wg2.heap.size wA.heap.size va nA 140737488355328 ∧ Nds w' (Old w') va P) := hidden (fun w' hw => ⟨by rw [← hPn]; exact (MA.out.row HP.out).keep (Nat.le_refl _) (fun q _ hq => hw.block q hq), MA.out.nds.old hw⟩)
        have hbA := Below.refl wA.heap.size wA
        clear MA hbg H1
        go_wp2_with fail
        refine (H2.out _ hb).mono ?_
        rintro r wB ⟨⟨vb, rfl, NB⟩, hbg⟩
        replace hb := hb.trans (hbg.mono hb.size)
        replace hbA := hbA.trans (hbg.mono hbA.size)
        have KB : Hid (∀ w', Below wB.heap.size wB w' → Nds w' (Old w') vb P) := hidden (fun w' hw => NB.out.old hw)
        have hbB := Below.refl wB.heap.size wB
        clear NB hbg H2
        obtain ⟨z0, z1, z2, z3, z4⟩ := HZ.out _ hb
        have HQ := hidden (txt_one (x := x) HTx.out HTt.out HTs.out)
        have hQl : (oneOf x [t, s]).length = t.length + s.length + 1 := by unfold oneOf; simp
        have hPt : Hid (∀ w' : World, Below W0.heap.size W0 w' → Below w'.heap.size w' (w'.alloc (.cells #[.slice A t.length c, .slice A2 s.length c2] 22))) := hidden (fun w' _ => (Below.refl _ _).alloc (Nat.le_refl _) _)
        have H3 := hidden (fun (w' : World) (hw : Below W0.heap.size W0 w') => arena_one x _ _ [t, s] _ (by simp) (by simp; omega) (by intro y hy; simp at hy; rcases hy with rfl | rfl; exact HFt.out; exact HFs.out) hFx (two_parts (HN.out w' hw) (HM.out w' hw)) (pcs_old (HL.out w' hw) (hPt.out w' hw)))
        have H4 := hidden (fun (w' : World) (hw : Below W0.heap.size W0 w') => ref_one x _ _ [t, s] _ (by simp) (by simp; omega) (two_parts (HN.out w' hw) (HM.out w' hw)) (pcs_old (HL.out w' hw) (hPt.out w' hw)))
        generalize oneOf x [t, s] = Q at *
        generalize hQn : Q.length = nX at *
        have hnX : nX ≤ 241 := by omega
        clear hQl
        have hloX := hb.size
        have hAX := hbA.size
        go_wp2_with fail
        have hal := hPt.out _ hb
        refine (H3.out _ hb).mono ?_
        rintro r wX ⟨⟨vx, rfl, MX⟩, hbg⟩
        have hb9 := hal.trans (hbg.mono hal.size)
        replace hb := hb.trans (hb9.mono hb.size)
        replace hbA := hbA.trans (hb9.mono hbA.size)
        replace hbB := hbB.trans (hb9.mono hbB.size)
        have KX : Hid (∀ w', Below wX.heap.size wX w' → RowAt w' wB.heap.size wX.heap.size vx nX 140737488355328 ∧ Nds w' (Old w') vx Q) := hidden (fun w' hw => ⟨by rw [← hQn]; exact ((MX.out.base hal.size).row HQ.out).keep (Nat.le_refl _) (fun q _ hq => hw.block q hq), MX.out.nds.old hw⟩)
        have hbX := Below.refl wX.heap.size wX
        clear MX hbg H3 hb9 hal z0 z1 z2 z3 z4
        have HS1 := hidden (ref_same va vb P P wX (KA.out _ hbA).2 (KB.out _ hbB))
        rw [eqB_self] at HS1
        have hq2 : (pb != pb) = false := by simp
        go_wp2_with fail
        refine HS1.out.mono ?_
        rintro r wg ⟨rfl, hbg⟩
        replace hb := hb.trans (hbg.mono hb.size)
        replace hbA := hbA.trans (hbg.mono hbA.size)
        replace hbX := hbX.trans (hbg.mono hbX.size)
        clear hbg HS1 KB hbB
        obtain ⟨z0, z1, z2, z3, z4⟩ := HZ.out _ hb
        go_wp2_with fail
        have hal := hPt.out _ hb
        refine (H4.out _ hb).mono ?_
        rintro r wY ⟨⟨vy, rfl, MY⟩, hbg⟩
        have hb9 := hal.trans (hbg.mono hal.size)
        have hT9 : ∀ k, Old _ k → k < wY.heap.size := fun k hk => Nat.lt_of_lt_of_le hk hbg.size
        replace hb := hb.trans (hb9.mono hb.size)
        replace hbA := hbA.trans (hb9.mono hbA.size)
        replace hbX := hbX.trans (hb9.mono hbX.size)
        have HS2 := hidden (ref_same vx vy Q Q wY (KX.out _ hbX).2 (MY.out.nds hT9))
        rw [eqB_self] at HS2
        clear MY hbg hal hb9 H4 hT9 z0 z1 z2 z3 z4
        go_wp2_with fail
        refine HS2.out.mono ?_
        rintro r wZ ⟨rfl, hbg⟩
        replace hb := hb.trans (hbg.mono hb.size)
        replace hbA := hbA.trans (hbg.mono hbA.size)
        replace hbX := hbX.trans (hbg.mono hbX.size)
        clear hbg HS2 HQ HP hPt HZ HL
        have H5 := hidden (fun (w' : World) (hw : Below W0.heap.size W0 w') => arena_sub _ t i w' (by omega) HFt.out (HN.out w' hw))
        have H6 := hidden (fun (w' : World) (hw : Below W0.heap.size W0 w') => owned27 _ t w' (by omega) HFt.out (HN.out w' hw))
        have H7 := hidden (fun (w' : World) (hw : Below W0.heap.size W0 w') => owned27 _ s w' (by omega) HFs.out (HM.out w' hw))
        have HR := hidden (txt_sub (i := i) HTt.out)
        have hSl := subOf_len t i
        generalize subOf t i = R at *
        generalize hRn : R.length = nR at *
        have hloY := hb.size
        have hXY := hbX.size
        have hAZ := hbA.size
        go_wp2_with fail
        refine (H5.out _ hb).mono ?_
        rintro r wS ⟨⟨vs, rfl, MS⟩, hbg⟩
        replace hb := hb.trans (hbg.mono hb.size)
        replace hbA := hbA.trans (hbg.mono hbA.size)
        replace hbX := hbX.trans (hbg.mono hbX.size)
        have KS : Hid (∀ w', Below wS.heap.size wS w' → RowAt w' wZ.heap.size wS.heap.size vs nR 140737488355328) := hidden (fun w' hw => by rw [← hRn]; exact (MS.out.row HR.out).keep (Nat.le_refl _) (fun q _ hq => hw.block q hq))
        have hbS := Below.refl wS.heap.size wS
        clear MS hbg H5
        have hXS := hbX.size
        have hAS := hbA.size
        go_wp2_with fail
        refine (H6.out _ hb).mono ?_
        rintro r wO ⟨⟨vo, rfl, MO⟩, hbg⟩
        replace hb := hb.trans (hbg.mono hb.size)
        replace hbA := hbA.trans (hbg.mono hbA.size)
        replace hbX := hbX.trans (hbg.mono hbX.size)
        replace hbS := hbS.trans (hbg.mono hbS.size)
        have KO : Hid (∀ w', Below wO.heap.size wO w' → Nds w' (fun k => wS.heap.size ≤ k ∧ k < w'.heap.size) vo t) := hidden (fun w' hw => (MO.out.from.below hw (fun _ h => h.2)).mono (fun k hk => ⟨hk.1, Nat.lt_of_lt_of_le hk.2 hw.size⟩))
        have hbO := Below.refl wO.heap.size wO
        have hSO := hbg.size
        clear MO hbg H6
        go_wp2_with fail
        refine (H7.out _ hb).mono ?_
        rintro r wP ⟨⟨vp, rfl, MP⟩, hbg⟩
        replace hb := hb.trans (hbg.mono hb.size)
        replace hbA := hbA.trans (hbg.mono hbA.size)
        replace hbX := hbX.trans (hbg.mono hbX.size)
        replace hbS := hbS.trans (hbg.mono hbS.size)
        replace hbO := hbO.trans (hbg.mono hbO.size)
        have NP : Hid (Nds wP (fun k => wS.heap.size ≤ k ∧ k < wP.heap.size) vp s) := hidden (MP.out.from.mono (fun k hk => ⟨by omega, hk.2⟩))
        have NO := hidden (KO.out _ hbO)
        have RA := hidden (KA.out _ hbA).1
        have RX := hidden (KX.out _ hbX).1
        have RS := hidden (KS.out _ hbS)
        have hAs := hbA.size
        clear MP hbg H7 KO KA KX KS hbA hbX hbS hbO
        obtain ⟨A5, c5, rfl, k5, l5⟩ := RA.out.val
        obtain ⟨A6, c6, rfl, k6, l6⟩ := RX.out.val
        obtain ⟨A7, c7, rfl, k7, l7⟩ := RS.out.val
        unfold maxLen at l5 l6 l7
        go_wp2
        go_loopw [17] (fun ii wr => ∃ k : Nat, k ≤ nA ∧ ii = .int .i64 k ∧ Hid (RowAt wr wg2.heap.size wA.heap.size (.slice A5 (nA) c5) (nA) (140737488355328 + k)) ∧ Within wg2.heap.size wA.heap.size wP wr) (fun ii _ => nA - (intOf ii).toNat)
        case atStart => exact ⟨0, by omega, rfl, RA, Within.refl _ _ _⟩
        case round =>
          clear RA
          obtain ⟨k, hk, rfl, HR, hw⟩ := hrel
          by_cases hlt : k < nA
          · obtain ⟨b, rfl, b1, b2, ⟨_, y2⟩, yf, -⟩ := HR.out.at_ hlt
            have hrow := HR.out.size k (.int .i64 (-1))
            obtain ⟨b', e, -, -, -, -, l', y3, hla⟩ := hrow.at_ hlt
            simp only [Option.some.injEq, Addr.mk.injEq] at e
            obtain ⟨rfl, _⟩ := e
            have HSp := hidden (spoil l' _ _ b (140737488355328 + k) _ (by omega) hla)
            obtain ⟨A8, m8, c8, rfl, _, _, _⟩ := hla
            replace hrow := hidden hrow
            clear HR
            go_wp2_with fail
            refine HSp.out.mono ?_
            rintro r w3 ⟨rfl, hsp⟩
            have hrow2 := hidden (hrow.out.spoilt hsp)
            have hw2 := hidden ((hw.set (i := k * 5 + 2) b1 b2 (.int .i64 (-1))).spoilt hsp)
            clear HSp hrow y3 hsp y2 yf
            go_wp2
            go_roundw
            case rel => exact ⟨k + 1, by omega, by go_num, hrow2, hw2.out⟩
            case measure => simp [intOf]; omega
          · obtain rfl : k = nA := by omega
            generalize wr = wL1 at *
            have hW1 := hidden hw
            have RX2 := hidden (RX.out.keep (w' := wL1) (Nat.le_refl _) (fun q q1 _ => hw.block q (Nat.le_trans hAX q1)))
            clear RX hw HR
            go_wp2
            go_loopw [18] (fun ii wr => ∃ k : Nat, k ≤ nX ∧ ii = .int .i64 k ∧ Hid (RowAt wr wB.heap.size wX.heap.size (.slice A6 nX c6) nX (140737488355328 + k)) ∧ Within wB.heap.size wX.heap.size wL1 wr) (fun ii _ => nX - (intOf ii).toNat)
            case atStart => exact ⟨0, by omega, rfl, RX2, Within.refl _ _ _⟩
            case round =>
              clear RX2
              obtain ⟨k, hk, rfl, HR, hw⟩ := hrel
              by_cases hlt : k < nX
              · obtain ⟨b, rfl, b1, b2, -⟩ := HR.out.at_ hlt
                have hrow := HR.out
                obtain ⟨b', e, -, -, -, -, l', y3, hla⟩ := hrow.at_ hlt
                simp only [Option.some.injEq, Addr.mk.injEq] at e
                obtain ⟨rfl, _⟩ := e
                have HSp := hidden (spoil l' _ _ b (140737488355328 + k) _ (by omega) hla)
                obtain ⟨A8, m8, c8, rfl, _, _, _⟩ := hla
                replace hrow := hidden hrow
                clear HR
                go_wp2_with fail
                refine HSp.out.mono ?_
                rintro r w3 ⟨rfl, hsp⟩
                have hrow2 := hidden (hrow.out.spoilt hsp)
                have hw2 := hidden (hw.spoilt hsp)
                clear HSp hrow y3 hsp
                go_wp2
                go_roundw
                case rel => exact ⟨k + 1, by omega, by go_num, hrow2, hw2.out⟩
                case measure => simp [intOf]; omega
              · obtain rfl : k = nX := by omega
                generalize wr = wL2 at *
                have hW2 := hidden hw
                have RS2 := hidden (RS.out.keep (w' := wL2) (Nat.le_refl _) (fun q q1 _ => (hw.block q (Nat.le_trans hXY q1)).trans (hW1.out.block q (Nat.le_trans hAZ q1))))
                clear RS hw HR
                go_wp2
                go_loopw [19] (fun ii wr => ∃ k : Nat, k ≤ nR ∧ ii = .int .i64 k ∧ Hid (RowAt wr wZ.heap.size wS.heap.size (.slice A7 (nR) c7) (nR) (140737488355328 + k)) ∧ Within wZ.heap.size wS.heap.size wL2 wr) (fun ii _ => nR - (intOf ii).toNat)
                case atStart => exact ⟨0, by omega, rfl, RS2, Within.refl _ _ _⟩
                case round =>
                  clear RS2
                  obtain ⟨k, hk, rfl, HR, hw⟩ := hrel
                  by_cases hlt : k < nR
                  · obtain ⟨b, rfl, b1, b2, ⟨_, y2⟩, yf, -⟩ := HR.out.at_ hlt
                    have hrow := HR.out.size k (.int .i64 (-1))
                    obtain ⟨b', e, -, -, -, -, l', y3, hla⟩ := hrow.at_ hlt
                    simp only [Option.some.injEq, Addr.mk.injEq] at e
                    obtain ⟨rfl, _⟩ := e
                    have HSp := hidden (spoil l' _ _ b (140737488355328 + k) _ (by omega) hla)
                    obtain ⟨A8, m8, c8, rfl, _, _, _⟩ := hla
                    replace hrow := hidden hrow
                    clear HR
                    go_wp2_with fail
                    refine HSp.out.mono ?_
                    rintro r w3 ⟨rfl, hsp⟩
                    have hrow2 := hidden (hrow.out.spoilt hsp)
                    have hw2 := hidden ((hw.set (i := k * 5 + 2) b1 b2 (.int .i64 (-1))).spoilt hsp)
                    clear HSp hrow y3 hsp y2 yf
                    go_wp2
                    go_roundw
                    case rel => exact ⟨k + 1, by omega, by go_num, hrow2, hw2.out⟩
                    case measure => simp [intOf]; omega
                  · obtain rfl : k = nR := by omega
                    generalize wr = wL3 at *
                    have k1 := hW1.out.below.mono hloA
                    have k2 := hW2.out.below.mono hloX
                    have k3 := hw.below.mono hloY
                    have hb7 := hb.trans (k1.trans (k2.trans k3))
                    have hz7 : wL3.heap.size = wP.heap.size := hw.size.trans (hW2.out.size.trans hW1.out.size)
                    have hK : Keeps (fun k => wS.heap.size ≤ k ∧ k < wP.heap.size) wP wL3 := ⟨Nat.le_of_eq hz7.symm, fun k hk _ => (hw.block k hk.1).trans ((hW2.out.block k (Nat.le_trans hXS hk.1)).trans (hW1.out.block k (Nat.le_trans hAS hk.1)))⟩
                    have NO7 : Nds wL3 (Old wL3) vo t := (NO.out.keeps hK).mono (fun k hk => by unfold Old; rw [hz7]; exact hk.2)
                    have NP7 := hidden ((NP.out.keeps hK).mono (T' := Old wL3) (fun k hk => by unfold Old; rw [hz7]; exact hk.2))
                    have HSa := hidden (ref_same _ vo t t wL3 (HN.out _ hb7) NO7)
                    rw [eqB_self] at HSa
                    clear hW1 hW2 k1 k2 k3 hb hw HR NO NP NO7 hK hz7
                    have hb := hb7
                    clear hb7
                    go_wp2_with fail
                    refine HSa.out.mono ?_
                    rintro r wQ ⟨rfl, hbg⟩
                    replace hb := hb.trans (hbg.mono hb.size)
                    have HSb := hidden (ref_same _ vp s s wQ (HM.out _ hb) (NP7.out.old hbg))
                    rw [eqB_self] at HSb
                    clear hbg HSa NP7
                    go_wp2_with fail
                    refine HSb.out.mono ?_
                    rintro r wR ⟨rfl, hbg⟩
                    replace hb := hb.trans (hbg.mono hb.size)
                    go_wp2_with fail
                    refine (knows27 _).mono ?_
                    rintro r wT ⟨rfl, hbg2⟩
                    replace hb := hb.trans (hbg2.mono hb.size)
                    go_wp2
                    go_ret
                    exact ⟨rfl, HAL.out.trans (hb.mono hwl)⟩
end Go.Proofs.Ytihblifkbljgaaa
