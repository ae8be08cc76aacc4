/-
  law27.ArenaAsks.
-/
import Derived.Test.YtihblifkbljgaaaTreeSameA
import Derived.Test.YtihblifkbljgaaaFewAny
namespace Go.Proofs.Ytihblifkbljgaaa
open Go.RowKit Go.Shelf

theorem kidsOf_len (t : List Node) (i : Int) : (kidsOf t i).length ≤ t.length := by
  unfold kidsOf
  split
  · rename_i h
    obtain ⟨p1, p2, p3⟩ := placeB_iff.1 h
    have h1 := kidsL_len (t := t) i.toNat
    have h2 := tree_node p3 (show i.toNat < t.length by omega)
    omega
  · simp

set_option maxRecDepth 20000 in
set_option maxHeartbeats 8000000 in
theorem law_asks (v u : Value) (t s : List Node) (i : Int) (w : World) (hF : Fit t) (hN : Nds w (Old w) v t) (hM : Nds w (Old w) u s) :
    Calls Try.prog 10 #[v, .int .i64 i, u] w fun r w' => r = .returned (.bool true) ∧ Below w.heap.size w w' := by
  have HN := hidden (fun (w' : World) (hw : Below w.heap.size w w') => hN.old hw)
  have HM := hidden (fun (w' : World) (hw : Below w.heap.size w w') => hM.old hw)
  have HF := hidden (fun (w' : World) (hw : Below w.heap.size w w') => few_any v t w' (HN.out w' hw))
  have HG := hidden (fun (w' : World) (hw : Below w.heap.size w w') => few_any u s w' (HM.out w' hw))
  have hb := Below.refl w.heap.size w
  have HFit := hidden hF
  obtain ⟨A, c, rfl, hc1, hc2⟩ := hN.value
  obtain ⟨A2, c2, rfl, hd1, hd2⟩ := hM.value
  unfold maxLen at hc2 hd2
  clear hN hM hF
  cases hf : fewB t with
  | false =>
    rw [hf] at HF
    clear hf
    go_enter Try.func10, Try.ntmps10
    go_wp2_with fail
    refine (HF.out w hb).mono ?_
    rintro r wg ⟨rfl, hbg⟩
    replace hb := hb.trans (hbg.mono hb.size)
    clear hbg
    go_wp2_with fail
    refine (knows27 _).mono ?_
    rintro r wg ⟨rfl, hbg⟩
    replace hb := hb.trans (hbg.mono hb.size)
    clear hbg
    go_wp2
    go_ret
    exact ⟨rfl, hb⟩
  | true =>
    rw [hf] at HF
    have hlen : t.length ≤ 120 := by unfold fewB at hf; simp at hf; exact hf.1
    have h4 : t.length ≤ 140737488355 := by omega
    cases hg : fewB s with
    | false =>
      rw [hg] at HG
      clear hf hg
      go_enter Try.func10, Try.ntmps10
      go_wp2_with fail
      refine (HF.out w hb).mono ?_
      rintro r wg ⟨rfl, hbg⟩
      replace hb := hb.trans (hbg.mono hb.size)
      clear hbg
      go_wp2_with fail
      refine (HG.out _ hb).mono ?_
      rintro r wg ⟨rfl, hbg⟩
      replace hb := hb.trans (hbg.mono hb.size)
      clear hbg
      go_wp2_with fail
      refine (knows27 _).mono ?_
      rintro r wg ⟨rfl, hbg⟩
      replace hb := hb.trans (hbg.mono hb.size)
      clear hbg
      go_wp2
      go_ret
      exact ⟨rfl, hb⟩
    | true =>
      rw [hg] at HG
      have hll : (leavesOf t).length ≤ t.length := leavesTo_len t t.length
      have hkl : (kidsOf t i).length ≤ t.length := kidsOf_len t i
      clear hf hg
      have H1 := hidden (fun (w' : World) (hw : Below w.heap.size w w') => arena_right _ t w' h4 (HN.out w' hw))
      have H2 := hidden (fun (w' : World) (hw : Below w.heap.size w w') => ref_right _ t w' (by omega) (HN.out w' hw))
      have H3 := hidden (fun (w' : World) (hw : Below w.heap.size w w') => arena_Kids _ t i w' h4 (HN.out w' hw))
      have H4 := hidden (fun (w' : World) (hw : Below w.heap.size w w') => ref_kids _ t i w' h4 (HN.out w' hw))
      have H5 := hidden (fun (w' : World) (hw : Below w.heap.size w w') => arena_up _ t i w' h4 (HN.out w' hw))
      have H6 := hidden (fun (w' : World) (hw : Below w.heap.size w w') => ref_up _ t i w' h4 (HN.out w' hw))
      have H7 := hidden (fun (w' : World) (hw : Below w.heap.size w w') => arena_sub _ t i w' h4 HFit.out (HN.out w' hw))
      have H8 := hidden (fun (w' : World) (hw : Below w.heap.size w w') => ref_sub _ t i w' h4 (HN.out w' hw))
      have H9 := hidden (fun (w' : World) (hw : Below w.heap.size w w') => arena_leaves _ t w' h4 (HN.out w' hw))
      have H10 := hidden (fun (w' : World) (hw : Below w.heap.size w w') => ref_leaves _ t w' h4 (HN.out w' hw))
      have H11 := hidden (fun (w' : World) (hw : Below w.heap.size w w') => arena_same _ _ t s w' (HN.out w' hw) (HM.out w' hw))
      have H12 := hidden (fun (w' : World) (hw : Below w.heap.size w w') => ref_same _ _ t s w' (HN.out w' hw) (HM.out w' hw))
      have H13 := hidden (fun (w' : World) (hw : Below w.heap.size w w') => arena_same _ _ t t w' (HN.out w' hw) (HN.out w' hw))
      rw [eqB_self] at H13
      generalize treeB t = tb at *
      generalize upOf t i = up at *
      generalize eqB t s = es at *
      generalize kidsOf t i = ks at *
      generalize leavesOf t = ls at *
      generalize subOf t i = sb at *
      have q1 : (up == up) = true := by simp
      have q2 : (tb == tb) = true := by simp
      have q3 : (es == es) = true := by simp
      clear HN HM HFit
      go_enter Try.func10, Try.ntmps10
      go_wp2_with fail
      refine (HF.out w hb).mono ?_
      rintro r wg ⟨rfl, hbg⟩
      replace hb := hb.trans (hbg.mono hb.size)
      clear hbg
      go_wp2_with fail
      refine (HG.out _ hb).mono ?_
      rintro r wg ⟨rfl, hbg⟩
      replace hb := hb.trans (hbg.mono hb.size)
      clear hbg
      clear HF HG
      go_wp2_with fail
      refine (H1.out _ hb).mono ?_
      rintro r wg ⟨rfl, hbg⟩
      replace hb := hb.trans (hbg.mono hb.size)
      clear hbg
      go_wp2_with fail
      refine (H2.out _ hb).mono ?_
      rintro r wg ⟨rfl, hbg⟩
      replace hb := hb.trans (hbg.mono hb.size)
      clear hbg
      clear H1 H2
      go_wp2_with fail
      refine (H3.out _ hb).mono ?_
      rintro r wg ⟨⟨u3, rfl, M3⟩, hbg⟩
      replace hb := hb.trans (hbg.mono hb.size)
      obtain ⟨A3, c3, rfl⟩ := M3.out.value
      clear hbg
      go_wp2_with fail
      refine (H4.out _ hb).mono ?_
      rintro r wg ⟨⟨u4, rfl, M4⟩, hbg⟩
      replace hb := hb.trans (hbg.mono hb.size)
      obtain ⟨A4, c4, rfl⟩ := M4.out.value
      replace M3 := hidden (M3.out.below hbg)
      clear hbg
      have HS1 := hidden (same_ints _ _ ks ks wg (by omega) (M3.out.rd (T := Old wg) (fun g _ _ h => h)) (M4.out.rd (T := Old wg) (fun g _ _ h => h)))
      rw [show decide (ks = ks) = true by simp] at HS1
      clear H3 H4 M3 M4
      go_wp2_with fail
      refine (HS1.out).mono ?_
      rintro r wg ⟨rfl, hbg⟩
      replace hb := hb.trans (hbg.mono hb.size)
      clear hbg
      clear HS1
      go_wp2_with fail
      refine (H5.out _ hb).mono ?_
      rintro r wg ⟨rfl, hbg⟩
      replace hb := hb.trans (hbg.mono hb.size)
      clear hbg
      go_wp2_with fail
      refine (H6.out _ hb).mono ?_
      rintro r wg ⟨rfl, hbg⟩
      replace hb := hb.trans (hbg.mono hb.size)
      clear hbg
      clear H5 H6
      go_wp2_with fail
      refine (H7.out _ hb).mono ?_
      rintro r wg ⟨⟨u7, rfl, M7⟩, hbg⟩
      replace hb := hb.trans (hbg.mono hb.size)
      obtain ⟨A7, c7, rfl, _, _⟩ := M7.out.nds.value
      clear hbg
      go_wp2_with fail
      refine (H8.out _ hb).mono ?_
      rintro r wg ⟨⟨u8, rfl, M8⟩, hbg⟩
      replace hb := hb.trans (hbg.mono hb.size)
      obtain ⟨A8, c8, rfl, _, _⟩ := M8.out.value
      replace M7 := hidden (M7.out.below hbg)
      clear hbg
      have HS2 := hidden (ref_same _ _ sb sb wg M7.out.nds M8.out)
      rw [eqB_self] at HS2
      clear H7 H8 M7 M8
      go_wp2_with fail
      refine (HS2.out).mono ?_
      rintro r wg ⟨rfl, hbg⟩
      replace hb := hb.trans (hbg.mono hb.size)
      clear hbg
      clear HS2
      go_wp2_with fail
      refine (H9.out _ hb).mono ?_
      rintro r wg ⟨⟨u9, rfl, M9⟩, hbg⟩
      replace hb := hb.trans (hbg.mono hb.size)
      obtain ⟨A9, c9, rfl⟩ := M9.out.value
      clear hbg
      go_wp2_with fail
      refine (H10.out _ hb).mono ?_
      rintro r wg ⟨⟨u10, rfl, M10⟩, hbg⟩
      replace hb := hb.trans (hbg.mono hb.size)
      obtain ⟨A10, c10, rfl⟩ := M10.out.value
      replace M9 := hidden (M9.out.below hbg)
      clear hbg
      have HS3 := hidden (same_ints _ _ ls ls wg (by omega) (M9.out.rd (T := Old wg) (fun g _ _ h => h)) (M10.out.rd (T := Old wg) (fun g _ _ h => h)))
      rw [show decide (ls = ls) = true by simp] at HS3
      clear H9 H10 M9 M10
      go_wp2_with fail
      refine (HS3.out).mono ?_
      rintro r wg ⟨rfl, hbg⟩
      replace hb := hb.trans (hbg.mono hb.size)
      clear hbg
      clear HS3
      go_wp2_with fail
      refine (H11.out _ hb).mono ?_
      rintro r wg ⟨rfl, hbg⟩
      replace hb := hb.trans (hbg.mono hb.size)
      clear hbg
      go_wp2_with fail
      refine (H12.out _ hb).mono ?_
      rintro r wg ⟨rfl, hbg⟩
      replace hb := hb.trans (hbg.mono hb.size)
      clear hbg
      clear H11 H12
      go_wp2_with fail
      refine (H13.out _ hb).mono ?_
      rintro r wg ⟨rfl, hbg⟩
      replace hb := hb.trans (hbg.mono hb.size)
      clear hbg
      clear H13
      go_wp2_with fail
      refine (knows27 _).mono ?_
      rintro r wg ⟨rfl, hbg⟩
      replace hb := hb.trans (hbg.mono hb.size)
      clear hbg
      go_wp2
      go_ret
      exact ⟨rfl, hb⟩
end Go.Proofs.Ytihblifkbljgaaa
