/-
  law27.ArenaParts.
-/
import Derived.Test.YtihblifkbljgaaaTreeSame2
import Derived.Test.YtihblifkbljgaaaFewAny
namespace Go.Proofs.Ytihblifkbljgaaa
open Go.RowKit Go.Shelf

theorem Own.nds_from {w : World} {B : Nat} {v : Value} {t : List Node} (h : Own w B v t) : Nds w (fun k => B ≤ k ∧ k < w.heap.size) v t := by
  obtain ⟨ls, h1, h2, h3⟩ := h
  exact ⟨ls, h1, h2.rd (fun g _ a b => ⟨a, b⟩), fun i x l a b => (h3 i x l a b).1.rd (fun g _ a b => ⟨a, b⟩)⟩

/-- v is a row of the call's own of slices that read as the lists of nodes. -/
def PartsTo (w : World) (base : Nat) (v : Value) (ts : List (List Node)) : Prop :=
  ∃ vs : List Value, vs.length = ts.length ∧ Mine w base 22 1 v ts.length vs ∧ (∀ g, v.ownBlock = some g → g < w.heap.size) ∧ ∀ (i : Nat) (t : List Node) (u : Value), ts[i]? = some t → vs[i]? = some u → Nds w (fun k => k < w.heap.size ∧ v.ownBlock ≠ some k) u t
theorem PartsTo.start (w : World) (e : TypeId) (o : Nat) (ho : o = w.heap.size) : PartsTo (w.alloc (.cells #[] e)) w.heap.size (.slice (some ⟨o, 0, none⟩) 0 0) [] :=
  ⟨[], rfl, .inr ⟨rfl, rfl, _, rfl⟩, fun g hg => by simp [Value.ownBlock] at hg; simp; omega, fun i t u h => by simp at h⟩
theorem PartsTo.below {w w' : World} {base : Nat} {v : Value} {ts : List (List Node)} (h : PartsTo w base v ts) (hb : Below w.heap.size w w') : PartsTo w' base v ts := by
  obtain ⟨vs, h1, h2, h4, h3⟩ := h
  exact ⟨vs, h1, h2.below hb, fun g hg => Nat.lt_of_lt_of_le (h4 g hg) hb.size, fun i t u a b => ((h3 i t u a b).below hb (fun _ h => h.1)).mono (fun k hk => ⟨Nat.lt_of_lt_of_le hk.1 hb.size, hk.2⟩)⟩
theorem PartsTo.parts {w : World} {base : Nat} {v : Value} {ts : List (List Node)} (h : PartsTo w base v ts) : Parts w (fun k => k < w.heap.size) v ts := by
  obtain ⟨vs, h1, h2, _, h3⟩ := h
  exact ⟨vs, h1, h2.rd (fun g _ _ h => h), fun i t u a b => (h3 i t u a b).mono (fun k hk => hk.1)⟩
/-- One more slice is put behind them. -/
theorem PartsTo.snoc {w : World} {base : Nat} {v : Value} {ts : List (List Node)} (h : PartsTo w base v ts) : (∀ g, v.ownBlock = some g → g < w.heap.size) ∧ ∃ vs : List Value, ∀ (w1 : World) (u : Value) (t : List Node), Below w.heap.size w w1 →
    Mine w1 base 22 1 v ts.length vs ∧ ∀ v' w', Nds w1 (fun k => w.heap.size ≤ k ∧ k < w1.heap.size) u t → Appended w1 base 22 1 v (ts.length + 1) (vs ++ [u]) v' w' → PartsTo w' base v' (ts ++ [t]) := by
  obtain ⟨vs, h1, h2, h4, h3⟩ := h
  refine ⟨h4, vs, fun w1 u t hb => ⟨h2.below hb, fun v' w' hu hA => ⟨vs ++ [u], by simp [h1], by rw [List.length_append]; exact hA.mine, fun g hg => ?_, fun i t' u' a b => ?_⟩⟩⟩
  · rcases hA.at_ with h | ⟨g', h, _, hge⟩
    · rw [h] at hg; have := h4 g hg; have := hb.size; have := hA.keeps.size; omega
    · rw [h] at hg; cases hg; exact hge
  have key : ∀ (u : Value) (t : List Node), Nds w1 (fun k => k < w1.heap.size ∧ v.ownBlock ≠ some k) u t → Nds w' (fun k => k < w'.heap.size ∧ v'.ownBlock ≠ some k) u t := fun u t h =>
    (h.keeps (hA.keeps.mono (fun k hk => hk.2))).mono (fun k hk => by
      refine ⟨Nat.lt_of_lt_of_le hk.1 hA.keeps.size, fun e => ?_⟩
      rcases hA.at_ with h | ⟨g', h, hge, _⟩
      · rw [h] at e; exact hk.2 e
      · rw [h] at e; cases e; have := hk.1; omega)
  by_cases hi : i < ts.length
  · rw [List.getElem?_append_left hi] at a
    rw [List.getElem?_append_left (by omega)] at b
    exact key u' t' (((h3 i t' u' a b).below hb (fun _ h => h.1)).mono (fun k hk => ⟨Nat.lt_of_lt_of_le hk.1 hb.size, hk.2⟩))
  · rw [List.getElem?_append_right (by omega)] at a
    rw [List.getElem?_append_right (by omega), h1] at b
    have hz : i - ts.length = 0 := by
      have := (List.getElem?_eq_some_iff.1 a).1
      simp at this; omega
    rw [hz] at a b
    simp at a b
    subst a b
    exact key _ _ (hu.mono (fun k hk => ⟨hk.2, fun e => by have := h4 k e; have := hk.1; omega⟩))

set_option maxRecDepth 20000 in
set_option maxHeartbeats 8000000 in
theorem law_parts (v : Value) (t : List Node) (w : World) (hF : Fit t) (hN : Nds w (Old w) v t) :
    Calls Try.prog 3 #[v] w fun r w' => r = .returned (.bool true) ∧ Below w.heap.size w w' := by
  have HF := hidden (few_any v t w hN)
  have HN := hidden (fun (w' : World) (hw : Below w.heap.size w w') => hN.old hw)
  obtain ⟨A, c, rfl, hc1, hc2⟩ := hN.value
  unfold maxLen at hc2
  cases hf : fewB t with
  | false =>
    rw [hf] at HF
    clear HN hf hN
    go_enter Try.func3, Try.ntmps3
    go_wp2_with fail
    refine HF.out.mono ?_
    rintro r w2 ⟨rfl, hb⟩
    go_wp2_with fail
    refine (knows27 w2).mono ?_
    rintro r w3 ⟨rfl, hb3⟩
    go_wp2
    go_ret
    exact ⟨rfl, hb.trans (hb3.mono hb.size)⟩
  | true =>
    rw [hf] at HF
    have hlen : t.length ≤ 120 := by unfold fewB at hf; simp at hf; exact hf.1
    have h4 : t.length ≤ 140737488355 := by omega
    have HR := hidden (fun (w' : World) (hw : Below w.heap.size w w') => ref_right _ t w' (by omega) (HN.out w' hw))
    cases ht : treeB t with
    | false =>
      rw [ht] at HR
      clear HN hf hN ht
      go_enter Try.func3, Try.ntmps3
      go_wp2_with fail
      refine HF.out.mono ?_
      rintro r w2 ⟨rfl, hb⟩
      go_wp2_with fail
      refine (HR.out w2 hb).mono ?_
      rintro r w3 ⟨rfl, hb3⟩
      replace hb := hb.trans (hb3.mono hb.size)
      go_wp2_with fail
      refine (knows27 w3).mono ?_
      rintro r w4 ⟨rfl, hb4⟩
      go_wp2
      go_ret
      exact ⟨rfl, hb.trans (hb4.mono hb.size)⟩
    | true =>
      rw [ht] at HR
      have HT := hidden (treeB_iff.1 ht)
      have HFit := hidden hF
      have hne : t ≠ [] := by
        intro e; subst e
        have := tree_len HT.out
        simp at this
      obtain ⟨b, off, c', hv, _, _, _, _⟩ := hN.open_ hne
      simp only [Value.slice.injEq] at hv
      obtain ⟨rfl, _, rfl⟩ := hv
      have HS := hidden (fun (i : Int) (w' : World) (hw : Below w.heap.size w w') => arena_sub _ t i w' h4 hF (HN.out w' hw))
      have HK := hidden (fun (i : Int) (w' : World) (hw : Below w.heap.size w w') => arena_Kids _ t i w' h4 (HN.out w' hw))
      have HU := hidden (fun (i : Int) (w' : World) (hw : Below w.heap.size w w') => arena_up _ t i w' h4 (HN.out w' hw))
      have HI := nodes_info
      clear hN ht hf hne hF
      go_enter Try.func3, Try.ntmps3
      go_wp2_with fail
      refine HF.out.mono ?_
      rintro r w2 ⟨rfl, hb⟩
      clear HF
      go_wp2_with fail
      refine (HR.out w2 hb).mono ?_
      rintro r w3 ⟨rfl, hb3⟩
      replace hb := hb.trans (hb3.mono hb.size)
      clear HR hb3
      go_wp2
      go_loopw [3] (fun ii wr => ∃ k : Nat, k ≤ t.length ∧ ii = .int .i64 k ∧ Below w.heap.size w wr) (fun ii _ => t.length - (intOf ii).toNat)
      case atStart => exact ⟨0, by omega, rfl, hb⟩
      case round =>
        clear hb
        obtain ⟨k, hk, rfl, hb⟩ := hrel
        by_cases hlt : k < t.length
        · have n1 := (tree_node HT.out hlt).1
          have n2 := (tree_node HT.out hlt).2.1
          have hS := HS.out (k : Int) wr hb
          rw [subOf_in HT.out hlt] at hS
          go_wp2_with fail
          refine hS.mono ?_
          rintro r w4 ⟨⟨u4, rfl, HO⟩, hb4⟩
          replace hb := hb.trans (hb4.mono hb.size)
          clear hS
          have HL := hidden (subL_len HT.out hlt)
          have HST := hidden (treeB_iff.2 (sub_tree HT.out hlt))
          obtain ⟨A4, c4, rfl, f1, f2⟩ := HO.out.nds.value
          unfold maxLen at f2
          have HO4 := hidden (fun (w' : World) (hw : Below w4.heap.size w4 w') => HO.out.nds.old hw)
          have HRt := hidden (fun (w' : World) (hw : Below w4.heap.size w4 w') => arena_right _ _ w' (by rw [HL.out]; omega) (HO4.out w' hw))
          rw [HST.out, HL.out] at HRt
          rw [HL.out] at f1
          have hx2 := fun (w' : World) (hw : Below w.heap.size w w') => (HN.out w' hw).size_cell HT.out hlt
          have HX2 := hidden hx2
          clear hx2 HO
          rw [HL.out]
          go_wp2_with fail
          refine (HRt.out w4 (Below.refl _ _)).mono ?_
          rintro r w5 ⟨rfl, hb5⟩
          clear HRt hb4
          have hb45 := hb5
          replace hb := hb.trans (hb5.mono hb.size)
          have x2 := HX2.out w5 hb
          clear hb5
          go_wp2_with fail
          refine (HK.out (k : Int) w5 hb).mono ?_
          rintro r w6 ⟨⟨u5, rfl, HM5⟩, hb6⟩
          replace hb := hb.trans (hb6.mono hb.size)
          replace hb45 := hb45.trans (hb6.mono hb45.size)
          rw [kidsOf_in HT.out hlt] at HM5
          clear hb6 x2
          obtain ⟨A5, c5, rfl, g1, g2⟩ := (HM5.out.rd (T := Old w6) (fun g _ _ h => h)).val
          unfold maxLen at g2
          have HK5 := hidden (fun (w' : World) (hw : Below w6.heap.size w6 w') => Rd.below (HM5.out.rd (T := Old w6) (fun g _ _ h => h)) hw (fun _ h => h))
          have HKU := hidden (fun (x : Nat) (hx : x ∈ kidsL t k) => kid_up HT.out hlt hx)
          have HOne := hidden (one_parts HT.out hlt)
          have hkl := kidsL_len (t := t) k
          have HPF := hidden (parts_flat HT.out hlt _ (k + 1) (Nat.le_refl _) (by omega) (by omega))
          obtain ⟨ks, hks⟩ : ∃ ks, kidsL t k = ks := ⟨_, rfl⟩
          rw [hks] at HK5 HKU HOne hkl g1
          rw [show kidsFrom t (k + sz t k) (k + 1) = kidsL t k from rfl, hks] at HPF
          rw [hks]
          have HKS := hidden hks
          clear hks HM5
          have HP0 := hidden (PartsTo.start w6 22 w6.heap.size rfl)
          have hb0 : Below w6.heap.size w6 (w6.alloc (.cells #[] 22)) := (Below.refl _ _).alloc (Nat.le_refl _) _
          obtain ⟨wo, hwo⟩ : ∃ wo : World, wo = wr := ⟨_, rfl⟩
          go_wp2
          go_loopw [6, 7] (fun vv jj wi => ∃ j : Nat, j ≤ ks.length ∧ jj = .int .i64 j ∧ Hid (PartsTo wi w6.heap.size vv ((ks.take j).map (subL t))) ∧ Below w6.heap.size w6 wi) (fun _ jj _ => ks.length - (intOf jj).toNat)
          case atStart => exact ⟨0, by omega, rfl, HP0, hb0⟩
          case round =>
            clear HP0 hb0
            obtain ⟨j, hj, rfl, HP, hbi⟩ := hrel
            by_cases hjt : j < ks.length
            · have hx := List.getElem?_eq_getElem hjt
              have hmem := List.getElem_mem hjt
              have HTk : Hid (ks.take (j + 1) = ks.take j ++ [ks[j]]) := hidden (List.take_succ_eq_append_getElem hjt)
              obtain ⟨ku1, ku2, ku3⟩ := HKU.out _ hmem
              have hHU := HU.out (ks[j] : Int)
              have hHS := HS.out (ks[j] : Int)
              rw [subOf_in HT.out (show ks[j] < t.length by omega)] at hHS
              generalize ks[j] = x at *
              have hbw := hb.trans (hbi.mono hb.size)
              have hcell := fun (w' : World) (hw : Below w6.heap.size w6 w') => (HK5.out w' hw).ints_at hx
              obtain ⟨b5, o5, rfl, _, y0⟩ := hcell _ hbi
              have HC5 : Hid (∀ w', Below w6.heap.size w6 w' → w'.cell? ⟨b5, o5 + j, none⟩ = some (.int .i64 x)) := hidden (fun w' hw => by
                obtain ⟨b5', o5', e, _, y⟩ := hcell w' hw
                simp only [Option.some.injEq, Addr.mk.injEq] at e
                obtain ⟨rfl, rfl, _⟩ := e
                exact y)
              have HHU := hidden (hHU wr hbw)
              have HHS := hidden hHS
              have KU1 := hidden ku1
              clear hcell hx hmem hHU hHS ku1
              go_wp2_with fail
              refine HHU.out.mono ?_
              rintro r w7 ⟨rfl, hb7⟩
              rw [KU1.out]
              replace hbw := hbw.trans (hb7.mono hbw.size)
              replace HP := hidden (HP.out.below hb7)
              replace hbi := hbi.trans (hb7.mono hbi.size)
              have y1 := HC5.out w7 hbi
              have qk : ((k : Int) != (k : Int)) = false := by simp
              clear HHU KU1 hb7 y0
              go_wp2_with fail
              refine (HHS.out w7 hbw).mono ?_
              rintro r w8 ⟨⟨u7, rfl, HO7⟩, hb8⟩
              obtain ⟨hown, vs, hnext⟩ := HP.out.snoc
              have hb9 : Below w7.heap.size w7 (w8.alloc (.cells #[u7] 22)) := hb8.alloc hb8.size _
              obtain ⟨hm, hq⟩ := hnext _ u7 (subL t x) hb9
              have HQ : Hid (∀ v' w', Appended (w8.alloc (.cells #[u7] 22)) w6.heap.size 22 1 u6 (((ks.take j).map (subL t)).length + 1) (vs ++ [u7]) v' w' → PartsTo w' w6.heap.size v' ((ks.take j).map (subL t) ++ [subL t x])) :=
                hidden (fun v' w' hA => hq v' w' ((HO7.out.nds_from.alloc _).mono (fun k hk => ⟨hk.1, by have := hk.2; simp; omega⟩)) hA)
              have HM := hidden hm
              have HX : Hid (Rd (w8.alloc (.cells #[u7] 22)) (Old (w8.alloc (.cells #[u7] 22))) 1 (.slice (some ⟨w8.heap.size, 0, none⟩) 1 1) 1 [u7]) := hidden (Rd.fresh (cs := [u7]) (n := 1) (size := 1) rfl (Nat.le_refl _) (by decide) (by simp [Old]) rfl)
              have H1 : Hid (∀ u ∈ [u7], u.oneCell' = true) := hidden (fun u hu => by simp at hu; subst hu; exact HO7.out.nds.oneCell)
              obtain ⟨A7, c7, rfl, _, _⟩ := HO7.out.nds.value
              have htl : ((ks.take j).map (subL t)).length ≤ j := by simp; omega
              replace hbi := hbi.trans (hb9.mono hbi.size)
              have hbiz := hbi.size
              clear hnext hm hq HP y1 HHS
              go_wp2_with (at_builtin; refine wpList_append_all rfl _ _ 32 22 rfl (by kernel_rfl) HI rfl (by decide) w6.heap.size _ _ _ HM _ _ _ HX H1 rfl rfl (by omega) (by decide) hbiz ?_; intro v' w' hA)
              go_roundw
              case rel =>
                refine ⟨j + 1, by omega, by go_num, ?_, hbi.trans hA.out.below⟩
                rw [HTk.out, List.map_append]
                exact hidden (HQ.out _ _ hA.out)
              case measure => simp [intOf]; omega
            · obtain rfl : j = ks.length := by omega
              rw [List.take_length] at HP
              have hbw := hb.trans (hbi.mono hb.size)
              have hNr := HN.out wr hbw
              obtain ⟨b', off', c', hv, _, _, _, hat⟩ := hNr.open_ (by intro e; subst e; simp at hlt)
              simp only [Value.slice.injEq, Option.some.injEq, Addr.mk.injEq] at hv
              obtain ⟨⟨rfl, rfl, _⟩, _, rfl⟩ := hv
              obtain ⟨l, x0, x1, x2, x3, x4, hl⟩ := hat k _ (List.getElem?_eq_getElem hlt)
              have hFk := HFit.out _ (List.getElem_mem hlt)
              have HO := hidden (arena_one t[k] l u6 (ks.map (subL t)) wr (by simp; omega) (by rw [HPF.out]; simp; omega) (fun s hs y hy => by
                rw [List.mem_map] at hs
                obtain ⟨m, _, rfl⟩ := hs
                exact HFit.out y (List.mem_of_mem_drop (List.mem_of_mem_take hy))) hFk HP.out.parts hl)
              rw [HOne.out] at HO
              obtain ⟨A9, c9, rfl, _, _⟩ := hl.value
              obtain ⟨A6, c6, rfl, _, _⟩ : ∃ A c, u6 = .slice A ks.length c ∧ ks.length ≤ c ∧ c ≤ maxLen := by
                obtain ⟨vs, _, h2, _⟩ := HP.out
                rw [List.length_map] at h2
                exact (h2.rd (T := fun _ => True) (fun _ _ _ _ => trivial)).val
              generalize t[k] = x at *
              clear hat hNr hl hFk HP HOne HPF HK5 HKU HI
              go_wp2_with fail
              refine HO.out.mono ?_
              rintro r w9 ⟨⟨u9, rfl, HU9⟩, hb9⟩
              have hb49 := hb45.trans ((hbi.trans (hb9.mono hbi.size)).mono hb45.size)
              have HS9 := hidden (ref_same _ _ _ _ w9 HU9.out.nds (HO4.out w9 hb49))
              rw [eqB_self] at HS9
              replace hbw := hbw.trans (hb9.mono hbw.size)
              obtain ⟨A8, c8, rfl, _, _⟩ := HU9.out.nds.value
              rw [HL.out] at HS9
              rw [HL.out]
              clear HO HU9
              go_wp2_with fail
              refine HS9.out.mono ?_
              rintro r w10 ⟨rfl, hb10⟩
              replace hbw := hbw.trans (hb10.mono hbw.size)
              go_wp2
              go_roundw
              case rel => exact ⟨k + 1, by omega, by go_num, hbw⟩
              case measure => simp [intOf]; omega
        · obtain rfl : k = t.length := by omega
          go_wp2_with fail
          refine (knows27 wr).mono ?_
          rintro r w3 ⟨rfl, hb3⟩
          go_wp2
          go_ret
          exact ⟨rfl, hb.trans (hb3.mono hb.size)⟩
end Go.Proofs.Ytihblifkbljgaaa
