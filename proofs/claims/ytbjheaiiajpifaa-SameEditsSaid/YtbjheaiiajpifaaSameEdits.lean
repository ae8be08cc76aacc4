/-
  law40.SameEdits, walked.
-/
import Derived.Test.YtbjheaiiajpifaaEdits5
namespace Go.Proofs.Ytbjheaiiajpifaa.T
open Go.RowKit Go.Shelf

theorem edits_paths {a b : List Node} (hl : a.length ≤ 1000) (k : Nat) (hk : k ≤ a.length) : ∀ x ∈ editsTo a b k, x.path.length ≤ 140737488355 := by
  induction k with
  | zero => intro x hx; simp [editsTo] at hx
  | succ k ih =>
    intro x hx
    rw [editsTo_succ, List.mem_append] at hx
    rcases hx with hx | hx
    · exact ih (by omega) x hx
    · have hp := path_len (t := a) k
      unfold editAt at hx
      split at hx
      · simp at hx; subst hx; dsimp only; omega
      · split at hx
        · simp at hx; subst hx; dsimp only; omega
        · cases hx

set_option maxRecDepth 20000 in
set_option maxHeartbeats 16000000 in
theorem law_sameEdits (va vb : Value) (a b : List Node) (w : World) (Fa : Fit a) (Fb : Fit b) (hA : Nds w (Old w) va a) (hB : Nds w (Old w) vb b) :
    Calls Try.prog 6 #[va, vb] w fun r w' => r = .returned (.bool true) ∧ Below w.heap.size w w' := by
  have HFn := hidden (fun (w' : World) (hb : Below w.heap.size w w') => few40 va vb a b w' (hA.old hb) (hB.old hb))
  have HOa : Hid (fewB a = true → NdsOk a) := hidden (fun h => ⟨by unfold fewB at h; simp at h; omega, Fa⟩)
  have HOb : Hid (fewB b = true → NdsOk b) := hidden (fun h => ⟨by unfold fewB at h; simp at h; omega, Fb⟩)
  have HAl := hidden (fun (w' : World) (hb : Below w.heap.size w w') => hA.old hb)
  have HBl := hidden (fun (w' : World) (hb : Below w.heap.size w w') => hB.old hb)
  obtain ⟨A4, k4, rfl, v4, m4⟩ := hA.value
  obtain ⟨A5, k5, rfl, v5, m5⟩ := hB.value
  unfold maxLen at m4 m5
  have hb0 := Below.refl w.heap.size w
  clear hA hB Fa
  by_cases fab : (fewB a && fewB b) = true
  · have fa : fewB a = true := (Bool.and_eq_true _ _ ▸ fab).1
    have fb : fewB b = true := (Bool.and_eq_true _ _ ▸ fab).2
    have ka := HOa.out fa
    have kb := HOb.out fb
    rw [fab] at HFn
    by_cases h_a : a.length ≤ 60
    · by_cases h_b : b.length ≤ 60
      · have HE1 := hidden (fun (w' : World) (hb : Below w.heap.size w w') => same_Edits _ _ a b w' (HAl.out _ hb) (HBl.out _ hb) ka kb Fb (by omega))
        have HE2 := hidden (fun (w' : World) (hb : Below w.heap.size w w') => ref_Edits40 _ _ a b w' (HAl.out _ hb) (HBl.out _ hb) ka kb (by omega))
        have HCn := hidden (fun (w' : World) (hb : Below w.heap.size w w') => same_Count (.pointer none) _ _ zeroG a b w' (.inl ⟨rfl, rfl⟩) zero_copied (HAl.out _ hb) (HBl.out _ hb) ka kb)
        have hpl : ∀ x ∈ editsOf a b, x.path.length ≤ 140737488355 := by
          unfold editsOf
          split
          · exact edits_paths (by omega) _ (Nat.le_refl _)
          · intro x hx; cases hx
        have HPl := hidden hpl
        clear hpl HOa HOb fa fb fab
        by_cases hok : okE a b = true
        · have hal : Alike a b := ⟨(okE_spec hok).1, (okE_spec hok).2.1, (okE_spec hok).2.2.1, (okE_spec hok).2.2.2⟩
          have hes : editsOf a b = editsTo a b a.length := by unfold editsOf; rw [if_pos hok]
          have hct : dCount zeroG.toks a b = ((editsTo a b a.length).length : Nat) := by
            unfold dCount
            unfold okE at hok
            rw [Bool.and_eq_true, decide_eq_true_iff] at hok
            rw [if_pos hok.1, if_neg (show (firstD40 zeroG.toks a b).1 ≠ 4 from hok.2), show min a.length b.length = a.length from by have := hal.len; omega, count_edits]
          rw [hok, hes] at HE1 HE2
          rw [hes] at HPl
          rw [hct] at HCn
          have HNe := hidden (fun k (hk : k ≤ a.length) h => next_edit hal _ k (Nat.le_refl _) hk h)
          have HNo := hidden (fun k (hk : k ≤ a.length) h => no_edit hal _ k (Nat.le_refl _) hk h)
          have HAk := hidden hal
          have hel := editsTo_len a b a.length
          have HZ : Hid ((editsTo a b 0).length = 0) := hidden (by simp [editsTo])
          have hmz : Hid (mix a b 0 = a) := hidden mix_zero
          have HLe := hidden (fun k (hk : k ≤ a.length) => show (editsTo a b k).length ≤ (editsTo a b a.length).length from by obtain ⟨r, hr⟩ := editsTo_pre a b hk; rw [hr, List.length_append]; omega)
          have hlen1 : b.length ≤ a.length := by have := hal.len; omega
          have hlen2 : a.length ≤ b.length := by have := hal.len; omega
          clear hes hct hok hal ka kb Fb
          generalize hEs : editsTo a b a.length = es at *
          clear hEs
          have qn : ((es.length : Int) != (es.length : Int)) = false := by simp
          go_enter Try.func6, Try.ntmps6
          go_wp2_with fail
          refine (HFn.out _ hb0).mono ?_
          rintro r w3 ⟨rfl, hb3⟩
          replace hb0 := below_more hb0 hb3
          clear hb3 HFn
          go_wp2_with fail
          refine (HE1.out _ hb0).mono ?_
          rintro r w5 ⟨⟨lv, rfl, HM5⟩, hb5⟩
          have R5 := hidden HM5.out.eds
          obtain ⟨A6, k6, e6⟩ := HM5.out.value
          subst e6
          replace hb0 := below_more hb0 hb5
          clear hb5 HE1 HM5
          go_wp2_with fail
          refine (HE2.out _ hb0).mono ?_
          rintro r w6 ⟨⟨mv, rfl, HM6⟩, hb6⟩
          have R6 := hidden HM6.out.eds
          obtain ⟨A7, k7, e7⟩ := HM6.out.value
          subst e7
          replace R5 := hidden (R5.out.old hb6)
          replace hb0 := below_more hb0 hb6
          clear hb6 HE2 HM6
          have HSe := hidden (same_edits_self _ _ _ w6 R5.out R6.out HPl.out)
          clear R6
          clear HPl
          go_wp2_with fail
          refine HSe.out.mono ?_
          rintro r w7 ⟨rfl, hb7⟩
          replace R5 := hidden (R5.out.old hb7)
          replace hb0 := below_more hb0 hb7
          clear hb7 HSe
          go_wp2_with fail
          refine (HCn.out _ hb0).mono ?_
          rintro r w8 ⟨rfl, hb8⟩
          replace R5 := hidden (R5.out.old hb8)
          replace hb0 := below_more hb0 hb8
          clear hb8 HCn
          have HT0 := hidden (HAl.out _ hb0)
          rw [← hmz.out] at HT0
          clear hmz
          go_wp2
          go_loopg [9, 10] es.length (fun gh tt kk wr => ∃ e k : Nat, e ≤ es.length ∧ gh = es.length - e ∧ kk = .int .i64 e ∧ k ≤ a.length ∧ Hid ((editsTo a b k).length = e) ∧ Hid (Nds wr (Old wr) tt (mix a b k)) ∧ Hid (Eds wr (Old wr) (.slice A6 es.length k6) es) ∧ Below w.heap.size w wr)
          case atStart => exact ⟨0, 0, by omega, rfl, by go_num, by omega, HZ, HT0, R5, hb0⟩
          case round =>
            clear HT0 R5 hb0 HZ
            obtain ⟨e, k, he, rfl, rfl, hk, HE, HT, HR, hb0⟩ := hrel
            by_cases hlt : e < es.length
            · obtain ⟨i, x, hki, hia, hmx, hed, hx, hnx⟩ := HNe.out k hk (by rw [HE.out]; exact hlt)
              rw [HE.out] at hx hnx
              rw [hmx] at HT
              have hib : i < b.length := by omega
              obtain ⟨hpx, htk, hcase⟩ := edit_at HAk.out hia hib hed
              have hcase := hidden hcase
              obtain ⟨hpb, hpo⟩ := put_mix HAk.out hia hib htk
              have hml := mix_len HAk.out (k := i) (by omega)
              have hmt := mix_tree HAk.out (k := i) (by omega)
              have hmi : (mix a b i)[i]? = some a[i] := by rw [mix_high HAk.out (by omega) (Nat.le_refl _), List.getElem?_eq_getElem hia]
              have hpm : pathN (mix a b i) i = x.path := by rw [hpx]; exact pathN_congr (mix_sz HAk.out (by omega)) i
              have HNx := hidden hnx
              obtain ⟨b1, o1, p1, s1, l1, rfl, x0, x1, x2, x3, hin⟩ := HR.out.at_ hx
              obtain ⟨A8, c8, rfl, _, _⟩ := hin.path.val
              obtain ⟨A9, c9, rfl, _, _⟩ := hin.sub.value
              obtain ⟨A10, c10, rfl, _, _⟩ := hin.lead.value
              have HFd := hidden (ref_Find32 _ _ (mix a b i) i wr (by omega) hmt (by omega) HT.out (by rw [hpm]; exact hin.path))
              have HIn := hidden hin
              obtain ⟨A11, c11, et, _, _⟩ := HT.out.value
              rw [hml] at et
              subst et
              have HPut := hidden (fun (w' : World) (u : Value) (hn : Nds w' (Old w') (.slice A11 a.length c11) (mix a b i)) (hm : Nds w' (Old w') u [b[i]]) => ref_put _ u (mix a b i) [b[i]] (i : Int) w' (by omega) (by simp) hn hm)
              rw [hpb, hpo] at HPut
              have HMl := hidden hml
              have HMi := hidden hmi
              have HMx := hidden (mix_len HAk.out (k := i + 1) (by omega))
              clear hmx hed hx hnx hpx hpb hpo hml hmt hmi hpm hin
              generalize b[i] = y at *
              generalize a[i] = z at *
              clear htk
              go_wp2_with fail
              refine HFd.out.mono ?_
              rintro r w10 ⟨rfl, hb10⟩
              have hz10 := hb10.size
              have X0 := cell_at x0 hb10; have X2 := cell_at x2 hb10; have X3 := cell_at x3 hb10
              replace HT := hidden (HT.out.old hb10)
              replace HR := hidden (HR.out.old hb10)
              have HS9 := hidden (HIn.out.sub.old hb10)
              have HL9 := hidden (Rd.old HIn.out.lead hb10)
              replace hb0 := below_more hb0 hb10
              clear hb10 HFd x0 x1 x2 x3 HIn
              rcases hcase.out with ⟨hop, hsub, _⟩ | ⟨hop, _, hlead, hyz⟩
              · rw [hop] at X0
                rw [hsub] at HS9 X2
                have HP1 := hidden (HPut.out w10 _ HT.out HS9.out)
                clear HPut HT HS9 hop hsub X3 HL9
                go_wp2_with fail
                refine HP1.out.mono ?_
                rintro r w11 ⟨⟨tv, rfl, HT2⟩, hb11⟩
                replace HR := hidden (HR.out.old hb11)
                replace hb0 := below_more hb0 hb11
                clear hb11 HP1 X0 X2
                obtain ⟨A12, c12, et, _, _⟩ := HT2.out.value
                subst et
                go_wp2
                go_roundg (es.length - (e + 1))
                case measure => omega
                case rel => exact ⟨e + 1, i + 1, by omega, rfl, by go_num, by omega, HNx, HT2, HR, hb0⟩
              · rw [hop] at X0
                rw [hlead] at HL9 X3
                obtain ⟨b2, o2, c2', hv, _, _, hT2, hat⟩ := HT.out.open_ (by intro e; rw [e] at HMl; have := HMl.out; simp at this; omega)
                rw [HMl.out] at hv
                simp only [Value.slice.injEq] at hv
                obtain ⟨rfl, _, rfl⟩ := hv
                obtain ⟨l3, y0, y1, y2, y3, y4, hpl3⟩ := hat i z HMi.out
                obtain ⟨A13, c13, rfl, _, _⟩ := hpl3.value
                have hT2 : b2 < w10.heap.size := hT2
                clear hat hpl3 HMi hop
                obtain ⟨ky, ny, sy, ly, ty⟩ := y
                obtain ⟨kz, nz, sz', lz, tz⟩ := z
                simp only [Node.mk.injEq] at hyz
                obtain ⟨rfl, rfl, rfl, _, rfl⟩ := hyz
                dsimp only at y0 y1 y2 y3 y4 X3 HL9
                have hb1lt : b1 < w10.heap.size := World.block_lt_of_cell? _ _ X3
                go_wp2_with fail
                refine (HPut.out _ _ (HT.out.old ?_) (one_nds1 _ ⟨ky, ny, sy, ly, ty⟩ _ _ ?_ (Rd.old HL9.out ?_))).mono ?_
                · exact (by repeat (first | (with_reducible exact Below.refl _ _) | (with_reducible assumption) | (with_reducible refine Below.drew ?_) | (with_reducible refine below_drewN ?_ _) | ((with_reducible refine below_alloc ?_ ?_); (focus (first | omega | (simp; done) | (simp; omega)))) | ((with_reducible refine below_set ?_ ?_); (focus (first | omega | (simp; done) | (simp; omega))))))
                · first | rfl | simp
                · exact (by repeat (first | (with_reducible exact Below.refl _ _) | (with_reducible assumption) | (with_reducible refine Below.drew ?_) | (with_reducible refine below_drewN ?_ _) | ((with_reducible refine below_alloc ?_ ?_); (focus (first | omega | (simp; done) | (simp; omega)))) | ((with_reducible refine below_set ?_ ?_); (focus (first | omega | (simp; done) | (simp; omega))))))
                rintro r w11 ⟨⟨tv, rfl, HT2⟩, hb11⟩
                have hbx : Below w10.heap.size w10 w11 := below_more (by repeat (first | (with_reducible exact Below.refl _ _) | (with_reducible assumption) | (with_reducible refine Below.drew ?_) | (with_reducible refine below_drewN ?_ _) | ((with_reducible refine below_alloc ?_ ?_); (focus (first | omega | (simp; done) | (simp; omega)))) | ((with_reducible refine below_set ?_ ?_); (focus (first | omega | (simp; done) | (simp; omega)))))) hb11
                replace HR := hidden (HR.out.old hbx)
                replace hb0 := below_more hb0 hbx
                clear hb11 hbx HPut X0 X2 X3 y0 y1 y2 y3 y4
                obtain ⟨A12, c12, et, _, _⟩ := HT2.out.value
                subst et
                go_wp2
                go_roundg (es.length - (e + 1))
                case measure => omega
                case rel => exact ⟨e + 1, i + 1, by omega, rfl, by go_num, by omega, HNx, HT2, HR, hb0⟩
            · obtain rfl : e = es.length := by omega
              have hfin := HNo.out k hk HE.out
              rw [hfin] at HT
              have HSm := hidden (ref_same _ _ b b wr HT.out (HBl.out _ hb0))
              rw [eqB_self] at HSm
              obtain ⟨A11, c11, et, _, _⟩ := HT.out.value
              subst et
              clear HT HR HNe HNo hfin
              go_wp2_with fail
              refine HSm.out.mono ?_
              rintro r w10 ⟨rfl, hb10⟩
              replace hb0 := below_more hb0 hb10
              clear hb10 HSm
              go_wp2_with fail
              refine (knows40 _).mono ?_
              rintro r w9 ⟨rfl, hb9⟩
              replace hb0 := below_more hb0 hb9
              clear hb9
              go_wp2
              go_ret
              exact ⟨rfl, hb0⟩
        · have hokf : okE a b = false := by simpa using hok
          have hes : editsOf a b = [] := by unfold editsOf; rw [if_neg hok]
          rw [hokf, hes] at HE1 HE2
          rw [hes] at HPl
          clear hok hokf hes ka kb Fb HCn
          go_enter Try.func6, Try.ntmps6
          go_wp2_with fail
          refine (HFn.out _ hb0).mono ?_
          rintro r w3 ⟨rfl, hb3⟩
          replace hb0 := below_more hb0 hb3
          clear hb3 HFn
          go_wp2_with fail
          refine (HE1.out _ hb0).mono ?_
          rintro r w5 ⟨⟨lv, rfl, HM5⟩, hb5⟩
          have R5 := hidden HM5.out.eds
          obtain ⟨A6, k6, e6⟩ := HM5.out.value
          subst e6
          replace hb0 := below_more hb0 hb5
          clear hb5 HE1 HM5
          go_wp2_with fail
          refine (HE2.out _ hb0).mono ?_
          rintro r w6 ⟨⟨mv, rfl, HM6⟩, hb6⟩
          have R6 := hidden HM6.out.eds
          obtain ⟨A7, k7, e7⟩ := HM6.out.value
          subst e7
          replace R5 := hidden (R5.out.old hb6)
          replace hb0 := below_more hb0 hb6
          clear hb6 HE2 HM6
          have HSe := hidden (same_edits_self _ _ _ w6 R5.out R6.out HPl.out)
          clear R6
          clear HPl
          go_wp2_with fail
          refine HSe.out.mono ?_
          rintro r w7 ⟨rfl, hb7⟩
          replace hb0 := below_more hb0 hb7
          clear hb7 HSe R5
          go_wp2_with fail
          refine (knows40 _).mono ?_
          rintro r w9 ⟨rfl, hb9⟩
          replace hb0 := below_more hb0 hb9
          clear hb9
          go_wp2
          go_ret
          exact ⟨rfl, hb0⟩
      · go_enter Try.func6, Try.ntmps6
        go_wp2_with fail
        refine (HFn.out _ hb0).mono ?_
        rintro r w3 ⟨rfl, hb3⟩
        replace hb0 := below_more hb0 hb3
        clear hb3 HFn
        go_wp2_with fail
        refine (knows40 _).mono ?_
        rintro r w9 ⟨rfl, hb9⟩
        replace hb0 := below_more hb0 hb9
        clear hb9
        go_wp2
        go_ret
        exact ⟨rfl, hb0⟩
    · go_enter Try.func6, Try.ntmps6
      go_wp2_with fail
      refine (HFn.out _ hb0).mono ?_
      rintro r w3 ⟨rfl, hb3⟩
      replace hb0 := below_more hb0 hb3
      clear hb3 HFn
      go_wp2_with fail
      refine (knows40 _).mono ?_
      rintro r w9 ⟨rfl, hb9⟩
      replace hb0 := below_more hb0 hb9
      clear hb9
      go_wp2
      go_ret
      exact ⟨rfl, hb0⟩
  · have fab' : (fewB a && fewB b) = false := by simpa using fab
    rw [fab'] at HFn
    go_enter Try.func6, Try.ntmps6
    go_wp2_with fail
    refine (HFn.out _ hb0).mono ?_
    rintro r w3 ⟨rfl, hb3⟩
    replace hb0 := below_more hb0 hb3
    clear hb3 HFn
    go_wp2_with fail
    refine (knows40 _).mono ?_
    rintro r w9 ⟨rfl, hb9⟩
    replace hb0 := below_more hb0 hb9
    clear hb9
    go_wp2
    go_ret
    exact ⟨rfl, hb0⟩
end Go.Proofs.Ytbjheaiiajpifaa.T
