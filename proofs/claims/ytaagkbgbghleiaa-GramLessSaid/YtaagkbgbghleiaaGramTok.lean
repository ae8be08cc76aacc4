/-
  facsimileref18.name, token, item.
-/
import Derived.Test.YtaagkbgbghleiaaGramNames
namespace Go.Proofs.Ytaagkbgbghleiaa
open Go.RowKit Go.Shelf

/-- No name of a grammar is longer than a slice may be. -/
def Named (g : Gram) : Prop := ∀ s ∈ allNames g, s.size ≤ maxLen

set_option maxRecDepth 20000 in
set_option maxHeartbeats 2000000 in
theorem ref_name18 (v : Value) (l : List ByteArray) (i : Nat) (s : ByteArray) (T : Nat → Prop) (w : World) (hR : Strs w T v l) (hs : l[i]? = some s) (hz : s.size ≤ maxLen) :
    Calls Try.prog 74 #[v, .int .i64 (i : Int)] w fun r w' => r = .returned (.int .i64 (nameErr s (l.take i))) ∧ w = w' := by
  have HF := hidden (ref_find v l s T w hR)
  have HN := hidden (ref_name s w hz)
  obtain ⟨A, c, rfl, hc1, hc2⟩ := hR.val
  obtain ⟨b, off, rfl, _, x0⟩ := strs_at hR hs
  obtain ⟨f1, f2, f3⟩ := find_lt hs
  have hi := (List.getElem?_eq_some_iff.1 hs).1
  unfold maxLen at hc2
  unfold nameErr
  generalize findOf l s = f at *
  generalize nameB s = nb at *
  clear hR hs
  cases nb
  · rw [if_pos rfl]
    clear f1
    go_enter Try.func74, Try.ntmps74
    go_wp2_with fail
    refine HN.out.mono ?_
    rintro r w' ⟨rfl, rfl⟩
    go_wp2
    go_ret
    exact ⟨rfl, rfl⟩
  · rw [if_neg (by decide)]
    by_cases hm : s ∈ l.take i
    · have hlt := f1.2 hm
      rw [if_pos (holdsB_true hm)]
      clear f1 hm
      go_enter Try.func74, Try.ntmps74
      go_wp2_with fail
      refine HN.out.mono ?_
      rintro r w' ⟨rfl, rfl⟩
      go_wp2_with fail
      refine HF.out.mono ?_
      rintro r w' ⟨rfl, rfl⟩
      go_wp2
      go_ret
      exact ⟨rfl, rfl⟩
    · have hlt : ¬ f < i := fun h => hm (f1.1 h)
      rw [if_neg (by rw [holdsB_false hm]; decide)]
      clear f1 hm
      go_enter Try.func74, Try.ntmps74
      go_wp2_with fail
      refine HN.out.mono ?_
      rintro r w' ⟨rfl, rfl⟩
      go_wp2_with fail
      refine HF.out.mono ?_
      rintro r w' ⟨rfl, rfl⟩
      go_wp2
      go_ret
      exact ⟨rfl, rfl⟩

set_option maxRecDepth 20000 in
set_option maxHeartbeats 4000000 in
theorem ref_token (a b c : Value) (g : Gram) (i : Nat) (w : World) (HG : GramIs w (Old w) a b c g) (h1 : g.toks.length ≤ 100000) (h2 : g.rules.length ≤ 100000) (hz : Named g) (hi : i < g.toks.length) :
    Calls Try.prog 73 #[.agg (gramCells a b c g), .int .i64 (i : Int)] w fun r w' => r = .returned (defC (tokD g i)) ∧ Below w.heap.size w w' := by
  have hx := List.getElem?_eq_getElem hi
  generalize g.toks[i] = t at *
  have HA : Hid ((allNames g)[i]? = some t.name) := hidden (by unfold allNames; rw [List.getElem?_append_left (by rw [tokNames_len]; exact hi)]; exact tokNames_at hx)
  have HZ : Hid (t.name.size ≤ maxLen) := hidden (hz _ (List.mem_of_getElem? HA.out))
  have HGo := hidden (fun (w' : World) (hb : Below w.heap.size w w') => HG.old hb)
  unfold tokD
  rw [hx]
  dsimp only
  unfold tokErr
  dsimp only
  obtain ⟨⟨A1, k1, rfl, v1, m1⟩, ⟨A2, k2, rfl, v2, m2⟩, ⟨A3, k3, rfl, v3, m3⟩⟩ := HG.vals
  obtain ⟨b1, o1, l1, rfl, hT, hat, hrx⟩ := HG.1.at_ hx
  have y0 := hat 0 _ rfl
  have y1 := hat 1 _ rfl
  have y2 := hat 2 _ rfl
  rw [Nat.add_zero] at y0
  rw [show tokR.k = 3 from rfl] at y0 y1 y2
  obtain ⟨A4, k4, rfl, v4, m4⟩ := hrx.val
  have HRx := hidden hrx
  have hT : b1 < w.heap.size := hT
  have HNm : Hid (∀ u w1, Strs w1 (Old w1) u (allNames g) → Calls Try.prog 74 #[u, .int .i64 (i : Int)] w1 fun r w' => r = .returned (.int .i64 (nameErr t.name ((allNames g).take i))) ∧ w1 = w') := hidden (fun u w1 h => ref_name18 u _ i _ _ _ h HA.out HZ.out)
  have HRef := hidden (fun (w' : World) (hb : Below w.heap.size w w') => ref07_check _ _ w' (HRx.out.old hb))
  generalize nameErr t.name ((allNames g).take i) = e at *
  generalize rxErr t.rex = rx at *
  obtain ⟨d, hd⟩ : ∃ d : Defect, d = if e ≠ 0 then ⟨e, i, 0⟩ else if rx ≠ 0 then ⟨9, i, rx⟩ else if t.cls < 0 ∨ 3 < t.cls then ⟨1, i, 0⟩ else D0 := ⟨_, rfl⟩
  rw [← hd]
  have HD := hidden hd
  clear hd
  have hb : Below w.heap.size w w := Below.refl _ _
  clear hat hx HG hrx HA HZ HRx
  unfold gramCells at *
  go_enter Try.func73, Try.ntmps73
  go_wp2_with fail
  refine (ref_Names _ _ _ g _ (HGo.out _ ?_) h1 h2).mono ?_
  · exact (by repeat (first | (with_reducible exact Below.refl _ _) | (with_reducible assumption) | (with_reducible refine Below.drew ?_) | ((with_reducible refine below_alloc ?_ ?_); (focus (first | omega | (simp; done) | (simp; omega)))) | ((with_reducible refine below_set ?_ ?_); (focus (first | omega | (simp; done) | (simp; omega))))))
  rintro r w1 ⟨⟨u, rfl, HM⟩, hb1⟩
  have hR := hidden (StrsM.rd HM.out)
  obtain ⟨hc1, hf1⟩ := old_cells hb1
  have z1 : w.heap.size + 3 ≤ w1.heap.size := by have := hb1.size; simp at this; omega
  have hbw : Below w.heap.size w w1 := Below.trans (by repeat (first | (with_reducible exact Below.refl _ _) | (with_reducible assumption) | (with_reducible refine Below.drew ?_) | ((with_reducible refine below_alloc ?_ ?_); (focus (first | omega | (simp; done) | (simp; omega)))) | ((with_reducible refine below_set ?_ ?_); (focus (first | omega | (simp; done) | (simp; omega)))))) (hb1.mono (by simp; omega))
  clear hb1 HM hb
  go_wp2_with fail
  refine (HNm.out _ _ hR.out).mono ?_
  rintro r w' ⟨rfl, rfl⟩
  clear HNm hR
  by_cases he : e = 0
  · subst he
    go_wp2_with fail
    refine (HRef.out _ hbw).mono ?_
    rintro r w2 ⟨rfl, rfl⟩
    clear HRef
    by_cases hr : rx = 0
    · subst hr
      by_cases hcl : t.cls < 0
      · have HE : Hid (d = ⟨1, i, 0⟩) := hidden (by rw [HD.out, if_neg (by simp), if_neg (by simp), if_pos (Or.inl hcl)])
        go_wp2
        exact bodyPost_ret (v := defC ⟨1, i, 0⟩) (by simp [results, Try.results73, go_sem, defC, hc1]) rfl ⟨by first | rfl | rw [HE.out], (by repeat (first | (with_reducible exact Below.refl _ _) | (with_reducible assumption) | (with_reducible refine Below.drew ?_) | ((with_reducible refine below_alloc ?_ ?_); (focus (first | omega | (simp; done) | (simp; omega)))) | ((with_reducible refine below_set ?_ ?_); (focus (first | omega | (simp; done) | (simp; omega))))))⟩
      · by_cases hcl2 : 3 < t.cls
        · have HE : Hid (d = ⟨1, i, 0⟩) := hidden (by rw [HD.out, if_neg (by simp), if_neg (by simp), if_pos (Or.inr hcl2)])
          go_wp2
          exact bodyPost_ret (v := defC ⟨1, i, 0⟩) (by simp [results, Try.results73, go_sem, defC, hc1]) rfl ⟨by first | rfl | rw [HE.out], (by repeat (first | (with_reducible exact Below.refl _ _) | (with_reducible assumption) | (with_reducible refine Below.drew ?_) | ((with_reducible refine below_alloc ?_ ?_); (focus (first | omega | (simp; done) | (simp; omega)))) | ((with_reducible refine below_set ?_ ?_); (focus (first | omega | (simp; done) | (simp; omega))))))⟩
        · have HE : Hid (d = ⟨0, 0, 0⟩) := hidden (by rw [HD.out, if_neg (by simp), if_neg (by simp), if_neg (by omega)]; rfl)
          go_wp2
          exact bodyPost_ret (v := defC ⟨0, 0, 0⟩) (by simp [results, Try.results73, go_sem, defC, hc1]) rfl ⟨by first | rfl | rw [HE.out], (by repeat (first | (with_reducible exact Below.refl _ _) | (with_reducible assumption) | (with_reducible refine Below.drew ?_) | ((with_reducible refine below_alloc ?_ ?_); (focus (first | omega | (simp; done) | (simp; omega)))) | ((with_reducible refine below_set ?_ ?_); (focus (first | omega | (simp; done) | (simp; omega))))))⟩
    · have HE : Hid (d = ⟨9, i, rx⟩) := hidden (by rw [HD.out, if_neg (by simp), if_pos hr])
      have q : (rx != 0) = true := by rw [bne_iff_ne]; exact hr
      go_wp2
      exact bodyPost_ret (v := defC ⟨9, i, rx⟩) (by simp [results, Try.results73, go_sem, defC, hc1]) rfl ⟨by first | rfl | rw [HE.out], (by repeat (first | (with_reducible exact Below.refl _ _) | (with_reducible assumption) | (with_reducible refine Below.drew ?_) | ((with_reducible refine below_alloc ?_ ?_); (focus (first | omega | (simp; done) | (simp; omega)))) | ((with_reducible refine below_set ?_ ?_); (focus (first | omega | (simp; done) | (simp; omega))))))⟩
  · have HE : Hid (d = ⟨e, i, 0⟩) := hidden (by rw [HD.out, if_pos he])
    have q : (e != 0) = true := by rw [bne_iff_ne]; exact he
    go_wp2
    exact bodyPost_ret (v := defC ⟨e, i, 0⟩) (by simp [results, Try.results73, go_sem, defC, hc1]) rfl ⟨by first | rfl | rw [HE.out], (by repeat (first | (with_reducible exact Below.refl _ _) | (with_reducible assumption) | (with_reducible refine Below.drew ?_) | ((with_reducible refine below_alloc ?_ ?_); (focus (first | omega | (simp; done) | (simp; omega)))) | ((with_reducible refine below_set ?_ ?_); (focus (first | omega | (simp; done) | (simp; omega))))))⟩
end Go.Proofs.Ytaagkbgbghleiaa
