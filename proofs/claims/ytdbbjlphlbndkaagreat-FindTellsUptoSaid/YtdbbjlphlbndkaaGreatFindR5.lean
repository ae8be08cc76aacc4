/-
  The document's selectors: facsimileref41.Of.
-/
import Derived.Test.YtdbbjlphlbndkaaGreatFindR5P
import Derived.Test.YtdbbjlphlbndkaaGreatFindR4
import Derived.Test.YtdbbjlphlbndkaaGreatFindR3
import Derived.Test.YtdbbjlphlbndkaaGreatSetsT
import Derived.Test.YtdbbjlphlbndkaaGreatLits
namespace Go.Proofs.YtdbbjlphlbndkaaGreat.T
open Go.RowKit Go.Shelf
attribute [local go_sem] Oper.semAt_some

theorem isN_at {g : Gram} {t : List Node} {nm : ByteArray} {i : Nat} {x : Node} (h : t[i]? = some x) : isN g t nm i = namedD g x nm := by unfold isN; rw [h]

set_option maxRecDepth 20000 in
set_option maxHeartbeats 16000000 in
theorem ref_Of41 (a b c v : Value) (g : Gram) (t : List Node) (s : ByteArray) (w : World) (HG : GramIs w (Old w) a b c g) (hsm : Small g) (hs : s.size ≤ maxLen) (h4 : t.length ≤ 60) (HN : Nds w (Old w) v t) :
    Calls Tryz.prog 8 #[.agg (gramCells a b c g), v, .string s] w fun r w' => (∃ u, r = .returned (.tuple #[u, .int .i64 (ofErr g t s)]) ∧ Hid (Ints w' (fun k => w.heap.size ≤ k ∧ k < w'.heap.size) u (castL (ofRow g t s)))) ∧ Below w.heap.size w w' := by
  have HCk := hidden (fun (w' : World) (hb : Below w.heap.size w w') => ref_Check41 a b c g s w' (HG.old hb) hsm hs)
  have HRt := hidden (fun (w' : World) (hb : Below w.heap.size w w') => ref_right v t w' (by omega) (HN.old hb))
  have HUp := hidden (fun (ht : Tree t) (i : Nat) (hi : i < t.length) (w' : World) (hb : Below w.heap.size w w') =>
    show Calls Tryz.prog 26 #[v, .int .i64 (i : Int)] w' fun r w'' => r = .returned (.int .i64 (upN t i i)) ∧ Below w'.heap.size w' w'' from by
      have := ref_up v t (i : Int) w' (by omega) (HN.old hb)
      rwa [upOf_at ht hi] at this)
  have HNa := hidden (fun (x : Node) (l : Value) (nm : ByteArray) (w' : World) (hb : Below w.heap.size w w') => ref_Named41 a b c l g x nm w' (HG.old hb) hsm)
  have HNd := hidden HN
  obtain ⟨⟨A1, k1, rfl, v1, m1⟩, ⟨A2, k2, rfl, v2, m2⟩, ⟨A3, k3, rfl, v3, m3⟩⟩ := HG.vals
  obtain ⟨A, cc, rfl, hc1, hc2⟩ := HN.value
  unfold maxLen at m1 m2 m3 hs hc2
  have hE : Hid (ofErr g t s = if checkF g s ≠ 0 then checkF g s else if treeB t = false then 1 else 0) := hidden rfl
  have hR : Hid (ofRow g t s = if ofErr g t s ≠ 0 then [] else foundO (nowO g t (stepsL s.data.toList))) := hidden rfl
  have hcr := hidden (fun (h : checkF g s = 0) => checkF_right h)
  generalize ofErr g t s = err at *
  generalize ofRow g t s = row at *
  unfold gramCells at *
  have hb1 : Below w.heap.size w (w.alloc (.cells #[.slice A1 g.toks.length k1, .slice A2 g.rules.length k2, .slice A3 g.prods.length k3, .int .i64 g.start, .int .i64 g.states, .int .i64 g.text, .int .i64 g.nodes, .int .i64 g.pairs] 26)) := (Below.refl _ _).alloc (Nat.le_refl _) _
  have HB1 : Hid (Holds (w.alloc (.cells #[.slice A1 g.toks.length k1, .slice A2 g.rules.length k2, .slice A3 g.prods.length k3, .int .i64 g.start, .int .i64 g.states, .int .i64 g.text, .int .i64 g.nodes, .int .i64 g.pairs] 26)) w.heap.size 26 #[.slice A1 g.toks.length k1, .slice A2 g.rules.length k2, .slice A3 g.prods.length k3, .int .i64 g.start, .int .i64 g.states, .int .i64 g.text, .int .i64 g.nodes, .int .i64 g.pairs]) := hidden (Holds.new w _ _)
  clear HG HN hsm
  go_enter Tryz.func8, Tryz.ntmps8
  go_upto_region 1 with fail
  generalize (w.alloc (.cells #[.slice A1 g.toks.length k1, .slice A2 g.rules.length k2, .slice A3 g.prods.length k3, .int .i64 g.start, .int .i64 g.states, .int .i64 g.text, .int .i64 g.nodes, .int .i64 g.pairs] 26)) = w1 at *
  obtain ⟨x0, x1, x2, x3, x4, x5, x6, x7⟩ := eightR HB1.out
  have HX := hidden (HCk.out _ hb1)
  go_wp2_with fail
  refine HX.out.mono ?_
  rintro r w2 ⟨rfl, hb2⟩
  replace HB1 := hidden (HB1.out.below hb2 HB1.out.lt)
  replace hb1 := hb1.trans (hb2.mono hb1.size)
  clear x0 x1 x2 x3 x4 x5 x6 x7 hb2 HX HCk
  by_cases hck : checkF g s = 0
  case neg =>
    have he : Hid (err = checkF g s ∧ row = []) := hidden (by
      have e : err = checkF g s := by rw [hE.out, if_pos hck]
      exact ⟨e, by rw [hR.out, e, if_pos hck]⟩)
    have hne : (checkF g s != 0) = true := by simpa using hck
    generalize checkF g s = ck at *
    clear hE hR hck
    go_wp2
    refine bodyPost_ret (v := .tuple #[.slice none 0 0, .int .i64 (ck)]) (by simp [results, Tryz.results8, go_sem]) rfl ?_
    exact ⟨⟨_, by rw [he.out.1], hidden (by rw [he.out.2]; exact Rd.nil _ _ _)⟩, hb1⟩
  case pos =>
  obtain ⟨hrt, hsz⟩ := hcr.out hck
  have hne : (checkF g s != 0) = false := by simpa using hck
  have hE2 : Hid (err = if treeB t = false then 1 else 0) := hidden (by rw [hE.out, if_neg (by simpa using hck)])
  generalize checkF g s = ck at *
  subst hck
  clear hE hcr
  have HX := hidden (HRt.out _ hb1)
  go_wp2_with fail
  refine HX.out.mono ?_
  rintro r w3 ⟨rfl, hb2⟩
  replace HB1 := hidden (HB1.out.below hb2 HB1.out.lt)
  replace hb1 := hb1.trans (hb2.mono hb1.size)
  clear hb2 HX HRt
  cases htr : treeB t
  · have he : Hid (err = 1 ∧ row = []) := hidden (by
      have e : err = 1 := by rw [hE2.out, if_pos htr]
      exact ⟨e, by rw [hR.out, e, if_pos (by decide)]⟩)
    clear hE2 hR
    go_wp2
    refine bodyPost_ret (v := .tuple #[.slice none 0 0, .int .i64 1]) (by simp [results, Tryz.results8, go_sem]) rfl ?_
    exact ⟨⟨_, by rw [he.out.1], hidden (by rw [he.out.2]; exact Rd.nil _ _ _)⟩, hb1⟩
  have ht := treeB_iff.1 htr
  have ht0 : 0 < t.length := tree_len ht
  have he : Hid (err = 0) := hidden (by rw [hE2.out, if_neg (by rw [htr]; decide)])
  have hrow : Hid (row = foundO ((stepsL s.data.toList).foldl (passO g t) ((List.replicate t.length false).set 0 true))) := hidden (by rw [hR.out, he.out, if_neg (by decide)]; rfl)
  obtain ⟨b0, o0, c0, hv0, _, _, hT0, hat⟩ := HNd.out.open_ (by intro e; rw [e] at ht0; simp at ht0)
  cases hv0
  have HAt := hidden hat
  have HSz := hidden (fun k (hk : k < t.length) => Nds.size_cell HNd.out ht hk)
  have HUp2 := hidden (HUp.out ht)
  have HTn := hidden (fun k (hk : k < t.length) => (tree_node ht hk))
  have hrtH := hidden hrt
  have hl0 : s.data.toList.length ≤ 256 := by rw [dataL]; omega
  have hsm0 : (⟨s.data.toList.toArray⟩ : ByteArray) = s := rfl
  have hHR0 : Hid (Ints (w3.alloc (.cells #[.int .i64 0] 3)) (fun k => w.heap.size ≤ k ∧ k < (w3.alloc (.cells #[.int .i64 0] 3)).heap.size) (.slice (some ⟨w3.heap.size, 0, none⟩) 1 1) (castL (foundO ((List.replicate t.length false).set 0 true)))) := hidden (by
    rw [start_marks ht0]
    exact rd_lit' (Holds.new w3 3 #[.int .i64 0]) ⟨hb1.size, by simp⟩ rfl rfl (by decide))
  have hm0 : ((List.replicate t.length false).set 0 true).length = t.length := by simp
  have hBA : Below w.heap.size w (w3.alloc (.cells #[.int .i64 0] 3)) := hb1.alloc hb1.size _
  have HBA : Hid (Holds (w3.alloc (.cells #[.int .i64 0] 3)) w.heap.size 26 #[.slice A1 g.toks.length k1, .slice A2 g.rules.length k2, .slice A3 g.prods.length k3, .int .i64 g.start, .int .i64 g.states, .int .i64 g.text, .int .i64 g.nodes, .int .i64 g.pairs]) := hidden (HB1.out.alloc _)
  generalize (List.replicate t.length false).set 0 true = M0 at *
  clear hE2 hR HUp HNd hat htr hrt
  go_wp2
  go_loopw [2, 9] (fun sv nv wr => ∃ (cur : List UInt8) (M : List Bool), sv = .string ⟨cur.toArray⟩ ∧ cur.length ≤ 256 ∧ M.length = t.length ∧ Hid (row = foundO ((stepsL cur).foldl (passO g t) M)) ∧ Hid (Ints wr (fun k => w.heap.size ≤ k ∧ k < wr.heap.size) nv (castL (foundO M))) ∧ Hid (Below w.heap.size w wr) ∧ Hid (Holds wr w.heap.size 26 #[.slice A1 g.toks.length k1, .slice A2 g.rules.length k2, .slice A3 g.prods.length k3, .int .i64 g.start, .int .i64 g.states, .int .i64 g.text, .int .i64 g.nodes, .int .i64 g.pairs])) (fun sv nv wr => szS sv)
  case atStart => exact ⟨s.data.toList, M0, rfl, hl0, hm0, hrow, hHR0, hidden hBA, HBA⟩
  case round =>
    clear hrow hHR0 hBA HBA hb1 HB1 hm0 hl0 hsm0
    obtain ⟨cur, M, rfl, hcl, hM, hrow, HR, HB, HG⟩ := hrel
    have hie := emptyL ⟨cur.toArray⟩
    have hms := mkS cur
    by_cases hce : cur = []
    · have hr0 : Hid (row = foundO M) := hidden (by rw [hrow.out, hce, stepsL_nil]; rfl)
      have hbw := HB.out
      obtain ⟨Av, cv, rfl, _, _⟩ := HR.out.val
      subst hce
      clear hrow hms hie
      go_wp2
      refine bodyPost_ret (v := .tuple #[.slice Av (castL (foundO M)).length cv, .int .i64 0]) (by simp [results, Tryz.results8, go_sem]) rfl ?_
      exact ⟨⟨_, by rw [he.out], hidden (by rw [hr0.out]; exact HR.out)⟩, hbw⟩
    · have hpos : 0 < cur.length := List.length_pos_iff.2 hce
      replace hie : cur.isEmpty = false := by simpa using hce
      have H1 := hidden (ref_step41 ⟨cur.toArray⟩ (by rw [hms]; omega) (by rw [hms]; omega) wr)
      rw [mkL] at H1
      have htl := tailOf_le cur
      have hrz : ((tailOf cur).drop (endOf (tailOf cur))).length < cur.length := by rw [List.length_drop]; omega
      have hz : Hid (row = foundO ((stepsL ((tailOf cur).drop (endOf (tailOf cur)))).foldl (passO g t) (passO g t M (⟨((tailOf cur).take (endOf (tailOf cur))).toArray⟩, goesAll cur)))) := hidden (by rw [hrow.out, stepsL_cons hce]; rfl)
      clear hrow htl
      generalize (tailOf cur).take (endOf (tailOf cur)) = nl at *
      generalize (tailOf cur).drop (endOf (tailOf cur)) = rl at *
      generalize goesAll cur = al at *
      have hmr := mkS rl
      generalize (⟨nl.toArray⟩ : ByteArray) = nm at *
      have hszr : szS (.string ⟨rl.toArray⟩) < szS (.string ⟨cur.toArray⟩) := by show (⟨rl.toArray⟩ : ByteArray).size < (⟨cur.toArray⟩ : ByteArray).size; rw [hmr, hms]; exact hrz
      have hrl : rl.length ≤ 256 := by omega
      have hNx := hidden (next_marks (g := g) ht hM (nm, al))
      have hPl : (passO g t M (nm, al)).length = t.length := passK_len _ _ _ _ _
      have hLz : (foundO M).length ≤ 60 := by have := foundO_len M; omega
      have hLm := hidden (fun y (hy : y ∈ foundO M) => (show y < t.length from by have := found_lt hy; omega))
      have HRI := hidden (rd_of_cast HR.out)
      obtain ⟨Av, cv, rfl, _, _⟩ := HR.out.val
      rw [castE_len] at HRI ⊢
      clear hmr hms hrz hcl hce hpos HR
      go_wp2_with fail
      refine H1.out.mono ?_
      rintro r w4 ⟨rfl, hb4⟩
      have hbz9 := HB.out.size
      replace HG := hidden (HG.out.below hb4 HG.out.lt)
      replace HB := hidden (HB.out.trans (hb4.mono hbz9))
      replace HRI := hidden ((HRI.out.below hb4 (fun k h => h.2)).mono (T' := Old w4) (fun k h => Nat.lt_of_lt_of_le h.2 hb4.size))
      clear H1 hb4 hie hbz9
      generalize foundO M = L at *
      generalize passO g t M (nm, al) = M2 at *
      go_wp2
      go_loopw [13, 14] (fun nx ii wr => ∃ i : Nat, ii = .int .i64 i ∧ i ≤ t.length ∧ Hid (IntsM wr w4.heap.size nx (castL (nextR g t (nm, al) L i))) ∧ Hid (Below w4.heap.size w4 wr)) (fun nx ii wr => t.length - (intOf ii).toNat)
      case atStart => exact ⟨0, by go_num, Nat.zero_le _, hidden (.inr ⟨rfl, rfl, _, rfl⟩), hidden ((Below.refl _ _).alloc (Nat.le_refl _) _)⟩
      case round =>
        obtain ⟨i, rfl, hi, HM, HBi⟩ := hrel
        by_cases hlt : i < t.length
        · have qi : (i : Int) < (t.length : Int) := by omega
          obtain ⟨x, hx⟩ : ∃ x, t[i]? = some x := ⟨_, List.getElem?_eq_getElem hlt⟩
          obtain ⟨l, z0, z1, z2, z3, z4, _⟩ := HAt.out i x hx
          have HZ := hidden (And.intro z0 (And.intro z1 (And.intro z2 (And.intro z3 z4))))
          have hib : Hid (isN g t nm i = namedB g x nm) := hidden (by rw [isN_at hx]; unfold namedB; rw [hrtH.out]; rfl)
          have HNa2 := hidden (HNa.out x l nm)
          have HUp3 := hidden (HUp2.out i hlt)
          unfold ndV at HNa2
          generalize namedB g x nm = nb at *
          generalize hux : upN t i i = ux at *
          clear z0 z1 z2 z3 z4 hx
          go_wp2
          generalize wr = wi at *
          go_loopw [13, 15] (fun nx kk wr => ∃ k : Nat, kk = .int .i64 k ∧ k ≤ L.length ∧ Hid (IntsM wr w4.heap.size nx (castL (nextK g t (nm, al) L i k))) ∧ Hid (Below w4.heap.size w4 wr)) (fun nx kk wr => L.length - (intOf kk).toNat)
          case atStart => exact ⟨0, by go_num, Nat.zero_le _, hidden (by rw [nextK_zero]; exact HM.out), HBi⟩
          case round =>
            clear HM HBi
            obtain ⟨k, rfl, hk, HM, HB5⟩ := hrel
            by_cases hkl : k < L.length
            · have hy := List.getElem?_eq_getElem hkl
              have hyl := hLm.out _ (List.getElem_mem hkl)
              generalize L[k] = y at *
              obtain ⟨_, A5, c5, hv5, _, _, hop⟩ := HRI.out
              obtain ⟨b4, o4, hA4, hT4, hc4⟩ := hop (by unfold ints; rw [List.length_map]; omega)
              subst hA4
              cases hv5
              have y0 := cellF (hc4 k (.int .i64 (y : Int)) (by unfold ints; rw [List.getElem?_map, hy]; rfl)) HB5.out
              have ysz := cellF (cellF (HSz.out y hyl) HB.out) HB5.out
              have hty := HTn.out y hyl
              have hbs := HB.out.size
              have hbw := HB.out.trans (HB5.out.mono hbs)
              have hnl := nextK_len g t (nm, al) L i k hk
              have hnl2 : (castL (nextK g t (nm, al) L i k)).length ≤ 1000000000000 := by
                rw [castE_len]
                have : (i + 1) * L.length ≤ 60 * 60 := Nat.mul_le_mul (by omega) (by omega)
                omega
              have qk : (k : Int) < (L.length : Int) := by omega
              have hYes := hidden (fun h1 h2 => nextK_yes (g := g) (t := t) (x := (nm, al)) (i := i) hy h1 h2)
              have hNo := hidden (fun h => nextK_no (g := g) (t := t) (x := (nm, al)) (i := i) hy h)
              have hBn := hidden (fun h => bneath_no (t := t) (al := al) (a := y) (i := i) h)
              have hBi := hidden (fun h h2 => bneath_in (t := t) (al := al) (a := y) (i := i) h h2)
              rw [hux] at hBi
              have hw5 := HB5.out.size
              dsimp only at hYes hNo
              rw [hib.out] at hYes hNo
              generalize hnk1 : nextK g t (nm, al) L i (k + 1) = nk1 at *
              have HK1 := hidden hnk1
              clear hnk1
              generalize nextK g t (nm, al) L i k = nk at *
              generalize beneathR t al y i = bn at *
              generalize sz t y = zy at *
              obtain ⟨z, hz5⟩ : ∃ z : Nat, z = y + zy := ⟨_, rfl⟩
              have hw9 : IntKind.i64.wrap ((y : Int) + (zy : Int)) = (z : Int) := by simp [IntKind.wrap, IntKind.bits, IntKind.signed]; omega
              rw [← hz5] at hBn hBi
              clear hz5 hop hc4 hy hnl
              by_cases hyi : y < i
              · have q1 : decide ((y : Int) < (i : Int)) = true := decide_eq_true (by omega)
                by_cases hiz : i < z
                · have q2 : decide ((i : Int) < (z : Int)) = true := decide_eq_true (by omega)
                  have hbv := hBi.out hyi hiz
                  have hbs9 := hbw.size
                  obtain ⟨x0, x1, x2, x3, x4, x5, x6, x7⟩ := eightR (HG.out.below HB5.out HG.out.lt)
                  obtain ⟨z0, z1, z2, z3, z4⟩ := HZ.out
                  replace z0 := cellF z0 hbw; replace z1 := cellF z1 hbw; replace z2 := cellF z2 hbw; replace z3 := cellF z3 hbw; replace z4 := cellF z4 hbw
                  have e0 := Ext.cell x0
                  have e1 := Ext.cell x1
                  have e2 := Ext.cell x2
                  have e3 := Ext.cell x3
                  have e4 := Ext.cell x4
                  have e5 := Ext.cell x5
                  have e6 := Ext.cell x6
                  have e7 := Ext.cell x7
                  have e8 := Ext.cell z0
                  have e9 := Ext.cell z1
                  have e10 := Ext.cell z2
                  have e11 := Ext.cell z3
                  have e12 := Ext.cell z4
                  clear hBi hBn
                  cases al
                  · by_cases hu : ux = (y : Int)
                    · have hbv2 : bn = true := by rw [hbv, decide_eq_true hu]; rfl
                      replace hbv := hbv2
                      clear hbv2
                      have qu : (ux == (y : Int)) = true := by rw [hu]; exact beq_self_eq_true _
                      cases nb
                      · have HE := hidden (hNo.out (.inr rfl))
                        clear hYes hNo
                        go_wp2_with fail
                        refine wp_region_ext (by kernel_rfl) (by kernel_rfl) ?_
                        repeat (go_big_quiet_step ((first | (go_at_call 26; exact Ext.call (HUp3.out _ (hbw.trans ((Ext.below _).mono hbs9)))) | (go_at_call 16; exact Ext.call (HNa2.out _ (hbw.trans ((Ext.below _).mono hbs9)))))))
                        refine wpQuiet_nil ?_
                        intro w6 hb6
                        clear e0 e1 e2 e3 e4 e5 e6 e7 e8 e9 e10 e11 e12 x0 x1 x2 x3 x4 x5 x6 x7 z0 z1 z2 z3 z4
                        have HM6 := hidden (show IntsM w6 w4.heap.size _ (castL nk1) from by rw [HE.out]; exact HM.out.below hb6)
                        have HB6 := hidden (HB5.out.trans (hb6.mono hw5))
                        clear HM HE hb6
                        go_wp2
                        go_roundw
                        case rel => exact ⟨k + 1, by go_num, by omega, hidden (by rw [HK1.out]; exact HM6.out), HB6⟩
                        case measure => simp [intOf]; omega
                      · have HE := hidden (hYes.out hbv rfl)
                        clear hYes hNo
                        obtain ⟨A8, c8, e8⟩ := HM.out.value
                        subst e8
                        go_wp2_with fail
                        refine wp_region_ext (by kernel_rfl) (by kernel_rfl) ?_
                        repeat (go_big_quiet_step ((first | (go_at_call 26; exact Ext.call (HUp3.out _ (hbw.trans ((Ext.below _).mono hbs9)))) | (go_at_call 16; exact Ext.call (HNa2.out _ (hbw.trans ((Ext.below _).mono hbs9)))))))
                        refine wpQuiet_nil ?_
                        intro w6 hb6
                        clear e0 e1 e2 e3 e4 e5 e6 e7 e8 e9 e10 e11 e12 x0 x1 x2 x3 x4 x5 x6 x7 z0 z1 z2 z3 z4
                        have HM6 := hidden (HM.out.below hb6)
                        have hbz6 : w4.heap.size ≤ w6.heap.size := Nat.le_trans hw5 hb6.size
                        have HB6 := hidden (HB5.out.trans (hb6.mono hw5))
                        clear HM hb6
                        go_wp2_with (at_builtin; refine wpList_append_i rfl _ _ rfl w4.heap.size _ _ HM6 _ rfl rfl rfl (by first | rfl | simp) hnl2 hbz6 ?_; intro v' w' hA hb7 hK7)
                        have HM7 : Hid (IntsM w' w4.heap.size v' (castL nk1)) := hidden (by rw [HE.out, castL_snoc]; exact hA.out)
                        have HB7 := hidden (HB6.out.trans hb7)
                        clear hA HM6 HB6 hb7 hK7
                        go_wp2
                        go_roundw
                        case rel => exact ⟨k + 1, by go_num, by omega, hidden (by rw [HK1.out]; exact HM7.out), HB7⟩
                        case measure => simp [intOf]; omega
                    · have hbv2 : bn = false := by rw [hbv, decide_eq_false hu]; rfl
                      replace hbv := hbv2
                      clear hbv2
                      have qu : (ux == (y : Int)) = false := beq_eq_false_iff_ne.2 hu
                      have HE := hidden (hNo.out (.inl hbv))
                      clear hYes hNo
                      go_wp2_with fail
                      refine wp_region_ext (by kernel_rfl) (by kernel_rfl) ?_
                      repeat (go_big_quiet_step ((first | (go_at_call 26; exact Ext.call (HUp3.out _ (hbw.trans ((Ext.below _).mono hbs9)))) | (go_at_call 16; exact Ext.call (HNa2.out _ (hbw.trans ((Ext.below _).mono hbs9)))))))
                      refine wpQuiet_nil ?_
                      intro w6 hb6
                      clear e0 e1 e2 e3 e4 e5 e6 e7 e8 e9 e10 e11 e12 x0 x1 x2 x3 x4 x5 x6 x7 z0 z1 z2 z3 z4
                      have HM6 := hidden (show IntsM w6 w4.heap.size _ (castL nk1) from by rw [HE.out]; exact HM.out.below hb6)
                      have HB6 := hidden (HB5.out.trans (hb6.mono hw5))
                      clear HM HE hb6
                      go_wp2
                      go_roundw
                      case rel => exact ⟨k + 1, by go_num, by omega, hidden (by rw [HK1.out]; exact HM6.out), HB6⟩
                      case measure => simp [intOf]; omega
                  · replace hbv : bn = true := by rw [hbv]; rfl
                    cases nb
                    · have HE := hidden (hNo.out (.inr rfl))
                      clear hYes hNo
                      go_wp2_with fail
                      refine wp_region_ext (by kernel_rfl) (by kernel_rfl) ?_
                      repeat (go_big_quiet_step ((first | (go_at_call 26; exact Ext.call (HUp3.out _ (hbw.trans ((Ext.below _).mono hbs9)))) | (go_at_call 16; exact Ext.call (HNa2.out _ (hbw.trans ((Ext.below _).mono hbs9)))))))
                      refine wpQuiet_nil ?_
                      intro w6 hb6
                      clear e0 e1 e2 e3 e4 e5 e6 e7 e8 e9 e10 e11 e12 x0 x1 x2 x3 x4 x5 x6 x7 z0 z1 z2 z3 z4
                      have HM6 := hidden (show IntsM w6 w4.heap.size _ (castL nk1) from by rw [HE.out]; exact HM.out.below hb6)
                      have HB6 := hidden (HB5.out.trans (hb6.mono hw5))
                      clear HM HE hb6
                      go_wp2
                      go_roundw
                      case rel => exact ⟨k + 1, by go_num, by omega, hidden (by rw [HK1.out]; exact HM6.out), HB6⟩
                      case measure => simp [intOf]; omega
                    · have HE := hidden (hYes.out hbv rfl)
                      clear hYes hNo
                      obtain ⟨A8, c8, e8⟩ := HM.out.value
                      subst e8
                      go_wp2_with fail
                      refine wp_region_ext (by kernel_rfl) (by kernel_rfl) ?_
                      repeat (go_big_quiet_step ((first | (go_at_call 26; exact Ext.call (HUp3.out _ (hbw.trans ((Ext.below _).mono hbs9)))) | (go_at_call 16; exact Ext.call (HNa2.out _ (hbw.trans ((Ext.below _).mono hbs9)))))))
                      refine wpQuiet_nil ?_
                      intro w6 hb6
                      clear e0 e1 e2 e3 e4 e5 e6 e7 e8 e9 e10 e11 e12 x0 x1 x2 x3 x4 x5 x6 x7 z0 z1 z2 z3 z4
                      have HM6 := hidden (HM.out.below hb6)
                      have hbz6 : w4.heap.size ≤ w6.heap.size := Nat.le_trans hw5 hb6.size
                      have HB6 := hidden (HB5.out.trans (hb6.mono hw5))
                      clear HM hb6
                      go_wp2_with (at_builtin; refine wpList_append_i rfl _ _ rfl w4.heap.size _ _ HM6 _ rfl rfl rfl (by first | rfl | simp) hnl2 hbz6 ?_; intro v' w' hA hb7 hK7)
                      have HM7 : Hid (IntsM w' w4.heap.size v' (castL nk1)) := hidden (by rw [HE.out, castL_snoc]; exact hA.out)
                      have HB7 := hidden (HB6.out.trans hb7)
                      clear hA HM6 HB6 hb7 hK7
                      go_wp2
                      go_roundw
                      case rel => exact ⟨k + 1, by go_num, by omega, hidden (by rw [HK1.out]; exact HM7.out), HB7⟩
                      case measure => simp [intOf]; omega
                · have q2 : decide ((i : Int) < (z : Int)) = false := decide_eq_false (by omega)
                  have HE := hidden (hNo.out (.inl (hBn.out (.inr hiz))))
                  clear hYes hNo hBn hBi
                  go_wp2_with fail
                  refine wp_region_ext (by kernel_rfl) (by kernel_rfl) ?_
                  repeat (go_big_quiet_step (fail))
                  refine wpQuiet_nil ?_
                  intro w6 hb6
                  have HM6 := hidden (show IntsM w6 w4.heap.size _ (castL nk1) from by rw [HE.out]; exact HM.out.below hb6)
                  have HB6 := hidden (HB5.out.trans (hb6.mono hw5))
                  clear HM HE hb6
                  go_wp2
                  go_roundw
                  case rel => exact ⟨k + 1, by go_num, by omega, hidden (by rw [HK1.out]; exact HM6.out), HB6⟩
                  case measure => simp [intOf]; omega
              · have q1 : decide ((y : Int) < (i : Int)) = false := decide_eq_false (by omega)
                have HE := hidden (hNo.out (.inl (hBn.out (.inl hyi))))
                clear hYes hNo hBn hBi
                go_wp2_with fail
                refine wp_region_ext (by kernel_rfl) (by kernel_rfl) ?_
                repeat (go_big_quiet_step (fail))
                refine wpQuiet_nil ?_
                intro w6 hb6
                have HM6 := hidden (show IntsM w6 w4.heap.size _ (castL nk1) from by rw [HE.out]; exact HM.out.below hb6)
                have HB6 := hidden (HB5.out.trans (hb6.mono hw5))
                clear HM HE hb6
                go_wp2
                go_roundw
                case rel => exact ⟨k + 1, by go_num, by omega, hidden (by rw [HK1.out]; exact HM6.out), HB6⟩
                case measure => simp [intOf]; omega
            · obtain rfl : k = L.length := by omega
              have HM2 := hidden HM.out
              rw [nextK_full] at HM2
              have qk : ¬ ((L.length : Int) < (L.length : Int)) := by omega
              clear HM
              go_wp2
              go_roundw
              case rel => exact ⟨i + 1, by go_num, by omega, HM2, HB5⟩
              case measure => simp [intOf]; omega
        · have qi : ¬ ((i : Int) < (t.length : Int)) := by omega
          obtain rfl : i = t.length := by omega
          have HOf := hidden (ref11_OfT _ _ wr (RowM.rd HM.out) (by
            rw [castE_len]
            have h1 := nextR_len g t (nm, al) L t.length
            have : t.length * L.length ≤ 60 * 60 := Nat.mul_le_mul (by omega) (by omega)
            omega))
          rw [hNx.out] at HOf
          obtain ⟨A8, c8, rfl⟩ := HM.out.value
          have hbs := HB.out.size
          have hbs2 := HBi.out.size
          have HB6 := hidden (HB.out.trans (HBi.out.mono hbs))
          have HG6 := hidden (HG.out.below HBi.out HG.out.lt)
          clear HM HBi HB HG HRI hNx
          go_wp2_with fail
          refine HOf.out.mono ?_
          rintro r w6 ⟨⟨u, rfl, HQ⟩, hb6⟩
          have hbs3 := hb6.size
          have hb66 := HB6.out.trans (hb6.mono HB6.out.size)
          have HG7 := hidden (HG6.out.below hb6 HG6.out.lt)
          have HQ2 : Hid (Ints w6 (fun k => w.heap.size ≤ k ∧ k < w6.heap.size) u (castL (foundO M2))) := hidden (HQ.out.mono (fun k h => ⟨by omega, h.2⟩))
          clear HOf hb6 HG6 HB6 HQ
          go_wp2
          go_roundw
          case rel => exact ⟨rl, M2, rfl, hrl, hPl, hz, HQ2, hidden hb66, HG7⟩
          case measure => exact hszr
end Go.Proofs.YtdbbjlphlbndkaaGreat.T
