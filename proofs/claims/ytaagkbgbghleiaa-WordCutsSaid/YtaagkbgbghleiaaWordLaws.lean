/-
  law06.WordCuts, law06.WordNames.
-/
import Derived.Test.YtaagkbgbghleiaaWordKnows
namespace Go.Proofs.Ytaagkbgbghleiaa
open Go.RowKit Go.Shelf

set_option maxRecDepth 20000 in
set_option maxHeartbeats 8000000 in
theorem law_cuts (s : ByteArray) (w : World) (hs : s.size ≤ maxLen) :
    Calls Try.prog 3 #[.string s] w fun r w' => r = .returned (.bool true) ∧ Below w.heap.size w w' := by
  unfold maxLen at hs
  have hb := Below.refl w.heap.size w
  by_cases hlen : 1000 < s.size
  · go_enter Try.func3, Try.ntmps3
    go_wp2_with fail
    refine (knows06 w).mono ?_
    rintro r wg ⟨rfl, hbg⟩
    replace hb := hb.trans (hbg.mono hb.size)
    clear hbg
    go_wp2
    go_ret
    exact ⟨rfl, hb⟩
  · have H1 := hidden (fun w' => word_cut s w' (by omega))
    have H2 := hidden (fun w' => ref_cut s w' (by omega))
    have H3 := hidden (fun w' => word_lines s w' (by omega))
    have H4 := hidden (fun w' => ref_lines s w' (by omega))
    have H5 := hidden (fun w' => word_words s w' (by omega))
    have H6 := hidden (fun w' => ref_words s w' (by omega))
    obtain ⟨ca, cb⟩ := cutOf s
    generalize linesOf s = ls at *
    generalize wordsOf s = ws at *
    have q1 : (ca.toList == ca.toList) = true := by simp
    have q2 : (cb.toList == cb.toList) = true := by simp
    have q3 : decide ((1000 : Int) < (s.size : Int)) = false := by simp; omega
    go_enter Try.func3, Try.ntmps3
    go_wp2_with fail
    refine (H1.out _).mono ?_
    rintro r wg ⟨rfl, hbg⟩
    replace hb := hb.trans (hbg.mono hb.size)
    clear hbg
    go_wp2_with fail
    refine (H2.out _).mono ?_
    rintro r wg ⟨rfl, hbg⟩
    replace hb := hb.trans (hbg.mono hb.size)
    clear hbg
    clear H1 H2
    go_wp2_with fail
    refine (H3.out _).mono ?_
    rintro r wg ⟨⟨u3, rfl, M3⟩, hbg⟩
    replace hb := hb.trans (hbg.mono hb.size)
    obtain ⟨A3, c3, rfl⟩ := Mine.value M3.out
    clear hbg
    go_wp2_with fail
    refine (H4.out _).mono ?_
    rintro r wg ⟨⟨u4, rfl, M4⟩, hbg⟩
    replace hb := hb.trans (hbg.mono hb.size)
    obtain ⟨A4, c4, rfl⟩ := Mine.value M4.out
    replace M3 := hidden (Mine.below M3.out hbg)
    clear hbg
    have HS := hidden (same_strs _ _ _ _ _ (StrsM.rd M3.out) (StrsM.rd M4.out))
    rw [eqB_self] at HS
    clear H3 H4 M3 M4
    go_wp2_with fail
    refine (HS.out).mono ?_
    rintro r wg ⟨rfl, hbg⟩
    replace hb := hb.trans (hbg.mono hb.size)
    clear hbg
    clear HS
    go_wp2_with fail
    refine (H5.out _).mono ?_
    rintro r wg ⟨⟨u5, rfl, M5⟩, hbg⟩
    replace hb := hb.trans (hbg.mono hb.size)
    obtain ⟨A5, c5, rfl⟩ := Mine.value M5.out
    clear hbg
    go_wp2_with fail
    refine (H6.out _).mono ?_
    rintro r wg ⟨⟨u6, rfl, M6⟩, hbg⟩
    replace hb := hb.trans (hbg.mono hb.size)
    obtain ⟨A6, c6, rfl⟩ := Mine.value M6.out
    replace M5 := hidden (Mine.below M5.out hbg)
    clear hbg
    have HS := hidden (same_strs _ _ _ _ _ (StrsM.rd M5.out) (StrsM.rd M6.out))
    rw [eqB_self] at HS
    clear H5 H6 M5 M6
    go_wp2_with fail
    refine (HS.out).mono ?_
    rintro r wg ⟨rfl, hbg⟩
    replace hb := hb.trans (hbg.mono hb.size)
    clear hbg
    clear HS
    go_wp2_with fail
    refine (knows06 _).mono ?_
    rintro r wg ⟨rfl, hbg⟩
    replace hb := hb.trans (hbg.mono hb.size)
    clear hbg
    go_wp2
    go_ret
    exact ⟨rfl, hb⟩

set_option maxRecDepth 20000 in
set_option maxHeartbeats 8000000 in
theorem law_names (s : ByteArray) (v : Value) (l : List ByteArray) (w : World) (hs : s.size ≤ maxLen) (hR : Strs w (Old w) v l) (hsz : ∀ x ∈ l, x.size ≤ maxLen) :
    Calls Try.prog 5 #[.string s, v] w fun r w' => r = .returned (.bool true) ∧ Below w.heap.size w w' := by
  have hb := Below.refl w.heap.size w
  have HR := hidden (fun (w' : World) (hw : Below w.heap.size w w') => Rd.old hR hw)
  have HF := hidden (fun (w' : World) (hw : Below w.heap.size w w') => few_strs v l _ w' (HR.out w' hw) hsz)
  have H1 := hidden (fun w' => word_name s w' hs)
  have H2 := hidden (fun w' => ref_name s w' hs)
  have H3 := hidden (fun (w' : World) (hw : Below w.heap.size w w') => word_twice v l _ w' (HR.out w' hw))
  have H4 := hidden (fun (w' : World) (hw : Below w.heap.size w w') => ref_twice v l _ w' (HR.out w' hw))
  have H5 := hidden (fun (w' : World) (hw : Below w.heap.size w w') => word_find v l s _ w' (HR.out w' hw))
  have H6 := hidden (fun (w' : World) (hw : Below w.heap.size w w') => ref_find v l s _ w' (HR.out w' hw))
  obtain ⟨A, c, rfl, hc1, hc2⟩ := hR.val
  unfold maxLen at hs hc2
  clear hsz hR
  generalize fewL l = fl at *
  generalize nameB s = nb at *
  generalize twiceOf l = tw at *
  generalize findOf l s = fi at *
  have q1 : (nb == nb) = true := by simp
  have q2 : (tw == tw) = true := by simp
  have q3 : (fi == fi) = true := by simp
  cases fl with
  | false =>
    go_enter Try.func5, Try.ntmps5
    go_wp2_with fail
    refine (HF.out w hb).mono ?_
    rintro r w' ⟨rfl, rfl⟩
    go_wp2_with fail
    refine (knows06 _).mono ?_
    rintro r wg ⟨rfl, hbg⟩
    replace hb := hb.trans (hbg.mono hb.size)
    clear hbg
    go_wp2
    go_ret
    exact ⟨rfl, hb⟩
  | true =>
    go_enter Try.func5, Try.ntmps5
    go_wp2_with fail
    refine (HF.out w hb).mono ?_
    rintro r w' ⟨rfl, rfl⟩
    go_wp2_with fail
    refine (H1.out _).mono ?_
    rintro r wg ⟨rfl, hbg⟩
    replace hb := hb.trans (hbg.mono hb.size)
    clear hbg
    go_wp2_with fail
    refine (H2.out _).mono ?_
    rintro r w' ⟨rfl, rfl⟩
    go_wp2_with fail
    refine (H3.out _ hb).mono ?_
    rintro r w' ⟨rfl, rfl⟩
    go_wp2_with fail
    refine (H4.out _ hb).mono ?_
    rintro r w' ⟨rfl, rfl⟩
    go_wp2_with fail
    refine (H5.out _ hb).mono ?_
    rintro r w' ⟨rfl, rfl⟩
    go_wp2_with fail
    refine (H6.out _ hb).mono ?_
    rintro r w' ⟨rfl, rfl⟩
    go_wp2_with fail
    refine (knows06 _).mono ?_
    rintro r wg ⟨rfl, hbg⟩
    replace hb := hb.trans (hbg.mono hb.size)
    clear hbg
    go_wp2
    go_ret
    exact ⟨rfl, hb⟩
end Go.Proofs.Ytaagkbgbghleiaa
