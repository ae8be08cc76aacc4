/-
  The lines of a text, of both.
-/
import Derived.Test.YtaagkbgbghleiaaWordLines
import Derived.Test.YtaagkbgbghleiaaAppend
namespace Go.Proofs.Ytaagkbgbghleiaa
open Go.RowKit Go.Shelf

set_option maxRecDepth 20000 in
theorem strings_cut (s : ByteArray) (w : World) (hs : s.size ≤ 140737488355328) :
    Calls Try.prog 63 #[.string s, .string ⟨#[10]⟩] w fun e w' => e = .returned (if upTo 10 (bytes s) < s.size then .tuple #[.string (s.extract 0 (upTo 10 (bytes s))), .string (s.extract (upTo 10 (bytes s) + 1) s.size), .bool true] else .tuple #[.string s, .string ⟨#[]⟩, .bool false]) ∧ Below w.heap.size w w' := by
  have H := hidden (lite_cut s w hs)
  generalize upTo 10 (bytes s) = m at *
  by_cases h : m < s.size
  · rw [if_pos h] at H ⊢
    go_enter Try.func63, Try.ntmps63
    go_wp2_with fail
    refine H.out.mono ?_
    rintro e w' ⟨rfl, hb⟩
    go_wp2
    go_ret3
    exact ⟨rfl, hb⟩
  · rw [if_neg h] at H ⊢
    go_enter Try.func63, Try.ntmps63
    go_wp2_with fail
    refine H.out.mono ?_
    rintro e w' ⟨rfl, hb⟩
    go_wp2
    go_ret3
    exact ⟨rfl, hb⟩

theorem isEmpty_size (s : ByteArray) : s.toList.isEmpty = decide (s.size = 0) := by
  rw [Bool.eq_iff_iff, decide_eq_true_iff, List.isEmpty_iff, ← List.length_eq_zero_iff, ByteArray.toList_eq, Array.length_toList]
  rfl

def strLen : Value → Nat
  | .string c => c.size
  | _ => 0
/-- One line more is cut off. -/
theorem cut_line {s : ByteArray} {k : Nat} (hk : k < s.size) : ∃ e, k ≤ e ∧ e ≤ s.size ∧ linesAt s k = (k, e) :: linesAt s (e + 1) ∧
    (e < s.size ∧ s[e]? = some 10 ∧ upTo 10 (bytes (s.extract k s.size)) < (s.extract k s.size).size ∧ (s.extract k s.size).extract 0 (upTo 10 (bytes (s.extract k s.size))) = s.extract k e ∧ (s.extract k s.size).extract (upTo 10 (bytes (s.extract k s.size)) + 1) (s.extract k s.size).size = s.extract (e + 1) s.size ∨
     e = s.size ∧ ¬ upTo 10 (bytes (s.extract k s.size)) < (s.extract k s.size).size) := by
  have hsz := extract_size s (a := k) (b := s.size) (Nat.le_refl _)
  have hb : bytes (s.extract k s.size) = (bytes s).drop k := by
    unfold bytes
    rw [ByteArray.data_extract, Array.toList_extract]
    have : s.data.toList.length = s.size := bytes_len s
    simp [List.extract, List.take_of_length_le, this]
  have hle := upTo_le 10 (bytes (s.extract k s.size))
  have hlt := fun i (h : i < upTo 10 (bytes (s.extract k s.size))) => upTo_lt h
  have hat := upTo_at (c := 10) (l := bytes (s.extract k s.size))
  rw [hb] at hle hlt hat ⊢
  have hdl : ((bytes s).drop k).length = s.size - k := by rw [List.length_drop, bytes_len]
  generalize upTo 10 ((bytes s).drop k) = m at *
  have hn : ∀ j (h : j < s.size), k ≤ j → j < k + m → s[j] ≠ 10 := fun j h h1 h2 => by
    obtain ⟨x, hx, hne⟩ := hlt (j - k) (by omega)
    rw [List.getElem?_drop, show k + (j - k) = j by omega, bytes_at h] at hx
    cases hx; exact hne
  by_cases h : m < s.size - k
  · have h10 : s[k + m]'(by omega) = 10 := by
      have := hat (by omega)
      rw [List.getElem?_drop, bytes_at (show k + m < s.size by omega)] at this
      exact Option.some.inj this
    refine ⟨k + m, by omega, by omega, linesAt_step hk (by omega) (by omega) hn (fun _ => h10), .inl ⟨by omega, by rw [getElem?_pos s (k + m) (by omega), h10], by omega, ?_, ?_⟩⟩
    · rw [extract_extract s k s.size 0 m (by omega)]; rfl
    · rw [extract_extract s k s.size (m + 1) _ (by omega), hsz, show k + (s.size - k) = s.size by omega, show k + (m + 1) = k + m + 1 by omega]
  · exact ⟨s.size, by omega, Nat.le_refl _, linesAt_step hk (by omega) (Nat.le_refl _) (fun j h h1 h2 => hn j h h1 (by omega)) (fun h => absurd h (Nat.lt_irrefl _)), .inr ⟨rfl, by omega⟩⟩

set_option maxRecDepth 20000 in
set_option maxHeartbeats 4000000 in
theorem word_lines (s : ByteArray) (w : World) (hs : s.size ≤ 1000000) :
    Calls Try.prog 19 #[.string s] w fun r w' => (∃ u, r = .returned u ∧ Hid (StrsM w' w.heap.size u (linesOf s))) ∧ Below w.heap.size w w' := by
  have HI := str_info
  have HC := hidden (fun k (h : k < s.size) => cut_line h)
  have HE := hidden (linesAt_end s)
  have HQ : Hid (∀ k, k ≤ s.size → (s.extract k s.size).size = s.size - k) := hidden (fun k _ => extract_size s (Nat.le_refl _))
  have hx0 := extract_all s
  have hb := Below.refl w.heap.size w
  have HEmp : Hid (⟨#[]⟩ = s.extract s.size s.size) := hidden (extract_empty s s.size).symm
  have HPast : Hid (∀ k, s.size ≤ k → linesAt s k = []) := hidden (fun k h => linesAt_past h)
  obtain ⟨c0, hc0, hc1⟩ : ∃ c0, c0 = s ∧ c0 = s.extract 0 s.size := ⟨s, rfl, hx0.symm⟩
  rw [show (Value.string s : Value) = .string c0 by rw [hc0]]
  have HC0 := hidden hc1
  clear hc0 hc1 hx0
  go_enter Try.func19, Try.ntmps19
  go_wp2
  go_loopw [0, 3] (fun ss vv wr => ∃ (k : Nat) (cur : ByteArray) (pre : List (Nat × Nat)), k ≤ s.size ∧ ss = .string cur ∧ Hid (cur = s.extract k s.size) ∧ pre.length ≤ k ∧ Hid (linesAt s 0 = pre ++ linesAt s k) ∧ Hid (StrsM wr w.heap.size vv (pre.map (cutTo s))) ∧ Below w.heap.size w wr)
    (fun ss _ _ => strLen ss)
  case atStart => exact ⟨0, c0, [], by omega, rfl, HC0, by simp, hidden rfl, hidden (Mine.nil _ _ _ _), hb⟩
  case round =>
    clear hb HC0
    obtain ⟨k, cur, pre, hk, rfl, HCu, hpl, HL, HM, hb⟩ := hrel
    have hsz := HQ.out k hk
    rw [← HCu.out] at hsz
    have hem := isEmpty_size cur
    by_cases hlt : k < s.size
    · have q1 : cur.toList.isEmpty = false := by rw [hem]; exact decide_eq_false (by omega)
      have q2 : cur.toList ≠ [] := by intro e; rw [e] at q1; cases q1
      have hcut := strings_cut cur wr (by omega)
      obtain ⟨e, e1, e2, e3, hcase⟩ := HC.out k hlt
      rw [← HCu.out] at hcase
      have key : ∃ (line rest : ByteArray) (fb : Bool) (k' : Nat), Hid (Calls Try.prog 63 #[.string cur, .string ⟨#[10]⟩] wr fun r w' => r = .returned (.tuple #[.string line, .string rest, .bool fb]) ∧ Below wr.heap.size wr w') ∧
          Hid (cutTo s (k, e) = line) ∧ Hid (rest = s.extract k' s.size) ∧ k < k' ∧ k' ≤ s.size ∧ Hid (linesAt s k = (k, e) :: linesAt s k') := by
        rcases hcase with ⟨g1, _, g2, g3, g4⟩ | ⟨g1, g2⟩
        · rw [if_pos g2, g3, g4] at hcut
          exact ⟨_, _, _, e + 1, hidden hcut, hidden rfl, hidden rfl, by omega, by omega, hidden e3⟩
        · rw [if_neg g2] at hcut
          refine ⟨_, _, _, s.size, hidden hcut, hidden ?_, HEmp, hlt, Nat.le_refl _, hidden ?_⟩
          · rw [HCu.out, g1]; rfl
          · rw [e3, HE.out, HPast.out _ (by omega)]
      obtain ⟨line, rest, fb, k', HCut, HLi, HRe, hk1, hk2, HE3⟩ := key
      have hrs := HQ.out k' hk2
      rw [← HRe.out] at hrs
      have hrs2 : rest.size < cur.size := by omega
      clear hem e3 hcut hcase hsz hrs
      go_wp2_with fail
      refine HCut.out.mono ?_
      rintro r w2 ⟨rfl, hb2⟩
      have HM2 := hidden ((HM.out.below hb2).alloc (.cells #[.string line] 9))
      have HX := hidden (Rd.single w2 9 (.string line) w2.heap.size rfl)
      have H1 := one_str line
      replace hb := (hb.trans (hb2.mono hb.size)).alloc (Nat.le_trans hb.size hb2.size) (.cells #[.string line] 9)
      have hbz := hb.size
      have hpl2 : (pre.map (cutTo s)).length ≤ k := by simpa using hpl
      clear HCut HM hb2
      go_wp2_with (at_builtin; refine wpList_append_all rfl _ _ 26 9 rfl (by kernel_rfl) HI rfl (by decide) w.heap.size _ _ _ HM2 _ _ _ HX H1 rfl rfl (by omega) (by decide) hbz ?_; intro v' w' hA)
      go_roundw
      case rel =>
        refine ⟨k', rest, pre ++ [(k, e)], hk2, rfl, HRe, by simp; omega, hidden (by rw [HL.out, HE3.out]; simp), ?_, hb.trans hA.out.below⟩
        rw [List.map_append, List.map_cons, List.map_nil, HLi.out]
        exact hidden (StrsM.snoc hA.out)
      case measure => simp [strLen]; omega
    · obtain rfl : k = s.size := by omega
      have q1 : cur.toList.isEmpty = true := by rw [hem]; exact decide_eq_true (by omega)
      have q2 : cur.toList = [] := List.isEmpty_iff.1 q1
      have HR : Hid (pre.map (cutTo s) = linesOf s) := hidden (by
        unfold linesOf; rw [HL.out, HE.out, List.append_nil])
      rw [HR.out] at HM
      clear hem
      go_wp2
      go_ret
      exact ⟨⟨_, rfl, HM⟩, hb⟩
end Go.Proofs.Ytaagkbgbghleiaa
