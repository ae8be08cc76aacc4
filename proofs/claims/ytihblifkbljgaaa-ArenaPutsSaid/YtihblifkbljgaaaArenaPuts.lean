/-
  law27.ArenaPuts.
-/
import Derived.Test.YtihblifkbljgaaaTreePut3
import Derived.Test.YtihblifkbljgaaaTreeSame2
import Derived.Test.YtihblifkbljgaaaFewAny
namespace Go.Proofs.Ytihblifkbljgaaa
open Go.RowKit Go.Shelf

theorem put_fit {t s : List Node} {i : Nat} (ht : Fit t) (hs : Fit s) : Fit (putL t i s) := by
  intro x hx
  unfold putL at hx
  rw [List.mem_append, List.mem_append] at hx
  rcases hx with (hx | hx) | hx
  · unfold bumps at hx
    rw [List.mem_mapIdx] at hx
    obtain ⟨k, hk, rfl⟩ := hx
    have := ht _ (List.mem_of_mem_take (List.getElem_mem hk))
    unfold bump
    split <;> exact this
  · exact hs x hx
  · exact ht x (List.mem_of_mem_drop hx)
theorem sub_fit {t : List Node} {i : Nat} (ht : Fit t) : Fit (subL t i) := fun x hx => ht x (List.mem_of_mem_drop (List.mem_of_mem_take hx))
theorem putOf_in {t s : List Node} (ht : Tree t) (hs : Tree s) {i : Nat} (hi : i < t.length) : putB t (i : Int) s = true ∧ putOf t (i : Int) s = putL t i s := by
  have h : putB t (i : Int) s = true := by
    unfold putB
    rw [placeB_iff.2 ⟨by omega, by omega, ht⟩, treeB_iff.2 hs]; rfl
  exact ⟨h, by unfold putOf; rw [if_pos h]; rfl⟩

set_option maxRecDepth 20000 in
set_option maxHeartbeats 8000000 in
theorem law_puts (v u : Value) (t s : List Node) (i : Int) (w : World) (hi : 0 ≤ i ∧ i ≤ 255) (hFt : Fit t) (hFs : Fit s) (hN : Nds w (Old w) v t) (hM : Nds w (Old w) u s) :
    Calls Try.prog 7 #[v, .int .u8 i, u] w fun r w' => r = .returned (.bool true) ∧ Below w.heap.size w w' := by
  have HN := hidden (fun (w' : World) (hw : Below w.heap.size w w') => hN.old hw)
  have HM := hidden (fun (w' : World) (hw : Below w.heap.size w w') => hM.old hw)
  have HF := hidden (fun (w' : World) (hw : Below w.heap.size w w') => few_any v t w' (HN.out w' hw))
  have HG := hidden (fun (w' : World) (hw : Below w.heap.size w w') => few_any u s w' (HM.out w' hw))
  have hb := Below.refl w.heap.size w
  obtain ⟨A, c, rfl, hc1, hc2⟩ := hN.value
  obtain ⟨A2, c2, rfl, hd1, hd2⟩ := hM.value
  obtain ⟨hi1, hi2⟩ := hi
  unfold maxLen at hc2 hd2
  clear hN hM
  cases hf : fewB t with
  | false =>
    rw [hf] at HF
    clear hf
    go_enter Try.func7, Try.ntmps7
    go_wp2_with fail
    refine (HF.out w hb).mono ?_
    rintro r wg ⟨rfl, hbg⟩
    replace hb := hb.trans (hbg.mono hb.size)
    clear hbg
    go_wp2_with fail
    refine (knows27 _).mono ?_
    rintro r wg ⟨rfl, hbg⟩
    replace hb := hb.trans (hbg.mono hb.size)
    clear hbg
    go_wp2
    go_ret
    exact ⟨rfl, hb⟩
  | true =>
  rw [hf] at HF
  have hlen : t.length ≤ 120 := by unfold fewB at hf; simp at hf; exact hf.1
  cases hg : fewB s with
  | false =>
    rw [hg] at HG
    clear hf hg
    go_enter Try.func7, Try.ntmps7
    go_wp2_with fail
    refine (HF.out w hb).mono ?_
    rintro r wg ⟨rfl, hbg⟩
    replace hb := hb.trans (hbg.mono hb.size)
    clear hbg
    go_wp2_with fail
    refine (HG.out _ hb).mono ?_
    rintro r wg ⟨rfl, hbg⟩
    replace hb := hb.trans (hbg.mono hb.size)
    clear hbg
    go_wp2_with fail
    refine (knows27 _).mono ?_
    rintro r wg ⟨rfl, hbg⟩
    replace hb := hb.trans (hbg.mono hb.size)
    clear hbg
    go_wp2
    go_ret
    exact ⟨rfl, hb⟩
  | true =>
  rw [hg] at HG
  have hlen2 : s.length ≤ 120 := by unfold fewB at hg; simp at hg; exact hg.1
  have HRt := hidden (fun (w' : World) (hw : Below w.heap.size w w') => ref_right _ t w' (by omega) (HN.out w' hw))
  have HRs := hidden (fun (w' : World) (hw : Below w.heap.size w w') => ref_right _ s w' (by omega) (HM.out w' hw))
  clear hf hg
  cases ht : treeB t with
  | false =>
    rw [ht] at HRt
    clear ht
    go_enter Try.func7, Try.ntmps7
    go_wp2_with fail
    refine (HF.out w hb).mono ?_
    rintro r wg ⟨rfl, hbg⟩
    replace hb := hb.trans (hbg.mono hb.size)
    clear hbg
    go_wp2_with fail
    refine (HG.out _ hb).mono ?_
    rintro r wg ⟨rfl, hbg⟩
    replace hb := hb.trans (hbg.mono hb.size)
    clear hbg
    go_wp2_with fail
    refine (HRt.out _ hb).mono ?_
    rintro r wg ⟨rfl, hbg⟩
    replace hb := hb.trans (hbg.mono hb.size)
    clear hbg
    go_wp2_with fail
    refine (knows27 _).mono ?_
    rintro r wg ⟨rfl, hbg⟩
    replace hb := hb.trans (hbg.mono hb.size)
    clear hbg
    go_wp2
    go_ret
    exact ⟨rfl, hb⟩
  | true =>
  rw [ht] at HRt
  have HT := hidden (treeB_iff.1 ht)
  clear ht
  cases hs : treeB s with
  | false =>
    rw [hs] at HRs
    clear hs
    go_enter Try.func7, Try.ntmps7
    go_wp2_with fail
    refine (HF.out w hb).mono ?_
    rintro r wg ⟨rfl, hbg⟩
    replace hb := hb.trans (hbg.mono hb.size)
    clear hbg
    go_wp2_with fail
    refine (HG.out _ hb).mono ?_
    rintro r wg ⟨rfl, hbg⟩
    replace hb := hb.trans (hbg.mono hb.size)
    clear hbg
    go_wp2_with fail
    refine (HRt.out _ hb).mono ?_
    rintro r wg ⟨rfl, hbg⟩
    replace hb := hb.trans (hbg.mono hb.size)
    clear hbg
    go_wp2_with fail
    refine (HRs.out _ hb).mono ?_
    rintro r wg ⟨rfl, hbg⟩
    replace hb := hb.trans (hbg.mono hb.size)
    clear hbg
    go_wp2_with fail
    refine (knows27 _).mono ?_
    rintro r wg ⟨rfl, hbg⟩
    replace hb := hb.trans (hbg.mono hb.size)
    clear hbg
    go_wp2
    go_ret
    exact ⟨rfl, hb⟩
  | true =>
  rw [hs] at HRs
  have HS := hidden (treeB_iff.1 hs)
  clear hs
  have hl0 := tree_len HT.out
  obtain ⟨I, hI, hIl⟩ : ∃ I : Nat, i % (t.length : Int) = (I : Int) ∧ I < t.length := ⟨(i % (t.length : Int)).toNat, by have := Int.emod_nonneg i (b := (t.length : Int)) (by omega); omega, by have := Int.emod_lt_of_pos i (b := (t.length : Int)) (by omega); have := Int.emod_nonneg i (b := (t.length : Int)) (by omega); omega⟩
  have HI := hidden hI
  clear hI
  have HSub := hidden (fun (w' : World) (hw : Below w.heap.size w w') => arena_sub _ t (I : Int) w' (by omega) hFt (HN.out w' hw))
  rw [subOf_in HT.out hIl] at HSub
  have HPut := hidden (fun (w' : World) (hw : Below w.heap.size w w') => arena_put _ _ t s (I : Int) w' (by omega) (by omega) hFt hFs (HN.out w' hw) (HM.out w' hw))
  rw [(putOf_in HT.out HS.out hIl).1, (putOf_in HT.out HS.out hIl).2] at HPut
  have HUp := hidden (fun (w' : World) (hw : Below w.heap.size w w') => arena_up _ t (I : Int) w' (by omega) (HN.out w' hw))
  have HL1 := hidden (subL_len HT.out hIl)
  have HL2 := hidden (put_len (s := s) HT.out hIl)
  have HU1 := hidden (put_tree HT.out HS.out hIl)
  have HU2 := hidden (put_sub HT.out HS.out hIl)
  have HU3 := hidden (put_back HT.out HS.out hIl)
  have HU4 := hidden (put_up HT.out HS.out hIl)
  have HFu := hidden (put_fit (i := I) hFt hFs)
  have HFo := hidden (sub_fit (i := I) hFt)
  have hn := (tree_node HT.out hIl)
  have hn1 := hn.1
  have hn2 := hn.2.1
  clear hn hFt hFs
  go_enter Try.func7, Try.ntmps7
  go_wp2_with fail
  refine (HF.out w hb).mono ?_
  rintro r wg ⟨rfl, hbg⟩
  replace hb := hb.trans (hbg.mono hb.size)
  clear hbg
  go_wp2_with fail
  refine (HG.out _ hb).mono ?_
  rintro r wg ⟨rfl, hbg⟩
  replace hb := hb.trans (hbg.mono hb.size)
  clear hbg
  go_wp2_with fail
  refine (HRt.out _ hb).mono ?_
  rintro r wg ⟨rfl, hbg⟩
  replace hb := hb.trans (hbg.mono hb.size)
  clear hbg
  go_wp2_with fail
  refine (HRs.out _ hb).mono ?_
  rintro r wg ⟨rfl, hbg⟩
  replace hb := hb.trans (hbg.mono hb.size)
  clear hbg
  clear HF HG HRt HRs
  go_wp2_with fail
  rw [HI.out]
  clear HI
  go_wp2_with fail
  refine (HSub.out _ hb).mono ?_
  rintro r wg ⟨⟨u8, rfl, M8⟩, hbg⟩
  replace hb := hb.trans (hbg.mono hb.size)
  obtain ⟨A8, c8, rfl, l1, l2⟩ := M8.out.nds.value
  rw [HL1.out] at l1 ⊢
  unfold maxLen at l2
  clear hbg
  clear HSub
  go_wp2_with fail
  refine (HPut.out _ hb).mono ?_
  rintro r wg ⟨⟨u9, rfl, M9⟩, hbg⟩
  replace hb := hb.trans (hbg.mono hb.size)
  obtain ⟨A9, c9, rfl, l3, l4⟩ := M9.out.nds.value
  replace M8 := hidden (M8.out.below hbg)
  unfold maxLen at l4
  clear hbg
  obtain ⟨U, hU⟩ : ∃ U, putL t I s = U := ⟨_, rfl⟩
  rw [hU] at M9 HL2 HU1 HU2 HU3 HU4 HFu l3 ⊢
  clear hU
  have hUl : U.length ≤ 240 := by rw [HL2.out]; omega
  have HUB := hidden (treeB_iff.2 HU1.out)
  have HR9 := hidden (arena_right _ U wg (by omega) M9.out.nds)
  rw [HUB.out] at HR9
  clear HPut HUB
  have hb0 := Below.refl wg.heap.size wg
  have HN9 := hidden (fun (w' : World) (hw : Below wg.heap.size wg w') => M9.out.nds.old hw)
  have HN8 := hidden (fun (w' : World) (hw : Below wg.heap.size wg w') => M8.out.nds.old hw)
  have hIU : I < U.length := by rw [HL2.out]; have := tree_len HS.out; omega
  have HSub9 := hidden (fun (w' : World) (hw : Below wg.heap.size wg w') => arena_sub _ U (I : Int) w' (by omega) HFu.out (HN9.out w' hw))
  rw [subOf_in HU1.out hIU, HU2.out] at HSub9
  have HPut9 := hidden (fun (w' : World) (hw : Below wg.heap.size wg w') => arena_put _ _ U (subL t I) (I : Int) w' (by omega) (by rw [HL1.out]; omega) HFu.out HFo.out (HN9.out w' hw) (HN8.out w' hw))
  rw [(putOf_in HU1.out (sub_tree HT.out hIl) hIU).1, (putOf_in HU1.out (sub_tree HT.out hIl) hIU).2, HU3.out, HL1.out] at HPut9
  have HUp9 := hidden (fun (w' : World) (hw : Below wg.heap.size wg w') => arena_up _ U (I : Int) w' (by omega) (HN9.out w' hw))
  rw [HU4.out] at HUp9
  have q1 : ((U.length : Int) != (t.length : Int) - (sz t I : Int) + (s.length : Int)) = false := by simp; rw [HL2.out]; omega
  generalize upOf t I = up at *
  have q2 : (up == up) = true := by simp
  clear M8 HU1 HU2 HU3 HU4 HFu HFo HL2 HL1
  obtain ⟨wv, rfl⟩ : ∃ wv : World, wv = wg := ⟨_, rfl⟩
  have hbv := Below.refl wv.heap.size wv
  go_wp2_with fail
  refine (HR9.out).mono ?_
  rintro r wg ⟨rfl, hbg⟩
  replace hb := hb.trans (hbg.mono hb.size)
  replace hbv := hbv.trans hbg
  clear hbg
  clear HR9 M9
  go_wp2_with fail
  refine (HSub9.out _ hbv).mono ?_
  rintro r wg ⟨⟨u7, rfl, M7⟩, hbg⟩
  replace hb := hb.trans (hbg.mono hb.size)
  replace hbv := hbv.trans (hbg.mono hbv.size)
  obtain ⟨A7, c7, rfl, l5, l6⟩ := M7.out.nds.value
  clear hbg
  have HS7 := hidden (ref_same _ _ _ _ wg M7.out.nds (HM.out _ hb))
  rw [eqB_self] at HS7
  clear HSub9 M7
  go_wp2_with fail
  refine (HS7.out).mono ?_
  rintro r wg ⟨rfl, hbg⟩
  replace hb := hb.trans (hbg.mono hb.size)
  replace hbv := hbv.trans (hbg.mono hbv.size)
  clear hbg
  clear HS7
  go_wp2_with fail
  refine (HPut9.out _ hbv).mono ?_
  rintro r wg ⟨⟨u6, rfl, M6⟩, hbg⟩
  replace hb := hb.trans (hbg.mono hb.size)
  replace hbv := hbv.trans (hbg.mono hbv.size)
  obtain ⟨A6, c6, rfl, l7, l8⟩ := M6.out.nds.value
  clear hbg
  have HS6 := hidden (ref_same _ _ _ _ wg M6.out.nds (HN.out _ hb))
  rw [eqB_self] at HS6
  clear HPut9 M6
  go_wp2_with fail
  refine (HS6.out).mono ?_
  rintro r wg ⟨rfl, hbg⟩
  replace hb := hb.trans (hbg.mono hb.size)
  replace hbv := hbv.trans (hbg.mono hbv.size)
  clear hbg
  clear HS6
  go_wp2_with fail
  refine (HUp9.out _ hbv).mono ?_
  rintro r wg ⟨rfl, hbg⟩
  replace hb := hb.trans (hbg.mono hb.size)
  replace hbv := hbv.trans (hbg.mono hbv.size)
  clear hbg
  go_wp2_with fail
  refine (HUp.out _ hb).mono ?_
  rintro r wg ⟨rfl, hbg⟩
  replace hb := hb.trans (hbg.mono hb.size)
  clear hbg
  clear HUp9 HUp
  go_wp2_with fail
  refine (knows27 _).mono ?_
  rintro r wg ⟨rfl, hbg⟩
  replace hb := hb.trans (hbg.mono hb.size)
  clear hbg
  go_wp2
  go_ret
  exact ⟨rfl, hb⟩
end Go.Proofs.Ytihblifkbljgaaa
