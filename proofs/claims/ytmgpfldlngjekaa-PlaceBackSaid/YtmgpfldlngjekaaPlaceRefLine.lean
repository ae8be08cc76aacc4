/-
  The reference's Line: the text of the line number n.
-/
import Derived.Test.YtmgpfldlngjekaaPlaceRefs
namespace Go.Proofs.Ytmgpfldlngjekaa
open Go.RowKit Go.Shelf

theorem span_bytes (l : List UInt8) : ∀ (k i : Nat) (x : Nat × Nat), (spansOf k (cutLines l))[i]? = some x →
    k ≤ x.1 ∧ (∀ j, x.1 ≤ j → j < x.2 → l[j - k]? ≠ some 10) ∧ (x.2 - k = l.length ∨ l[x.2 - k]? = some 10) := by
  induction l with
  | nil =>
    intro k i x h
    cases i with
    | zero => simp [cutLines, spansOf] at h; subst h; simp
    | succ i => simp [cutLines, spansOf] at h
  | cons c l ih =>
    intro k i x h
    by_cases hc : c = 10
    · subst hc
      have e : cutLines (10 :: l) = [] :: cutLines l := by simp [cutLines]
      rw [e, spansOf_shift] at h
      cases i with
      | zero =>
        simp at h; subst h
        exact ⟨Nat.le_refl _, fun j h1 h2 => by simp at h1 h2; omega, .inr (by simp)⟩
      | succ i =>
        simp at h
        obtain ⟨h1, h2, h3⟩ := ih _ i x h
        have hle := (spansOf_ge _ _ i x h).2
        refine ⟨by omega, fun j a b => ?_, ?_⟩
        · rw [show j - k = (j - (k + 1)) + 1 by omega, List.getElem?_cons_succ]
          exact h2 j a b
        · rw [show x.2 - k = (x.2 - (k + 1)) + 1 by omega, List.getElem?_cons_succ]
          rcases h3 with h3 | h3
          · exact .inl (by simp; omega)
          · exact .inr h3
    · obtain ⟨y, r, hy⟩ : ∃ x r, cutLines l = x :: r := by
        cases h : cutLines l with
        | nil => exact absurd h (cutLines_ne _)
        | cons x r => exact ⟨x, r, rfl⟩
      have e : cutLines (c :: l) = (c :: y) :: r := by
        have hc' : (c == 10) = false := by simpa using hc
        simp [cutLines, hc', hy]
      rw [e, spansOf_shift] at h
      have ih' := ih (k + 1)
      rw [hy, spansOf_shift] at ih'
      cases i with
      | zero =>
        simp at h; subst h
        obtain ⟨_, h2, h3⟩ := ih' 0 _ rfl
        refine ⟨Nat.le_refl _, fun j a b => ?_, ?_⟩
        · dsimp only at *
          by_cases ej : j = k
          · subst ej
            simp [hc]
          · rw [show j - k = (j - (k + 1)) + 1 by omega, List.getElem?_cons_succ]
            exact h2 j (by omega) (by omega)
        · dsimp only at *
          rw [show k + (y.length + 1) - k = (k + 1 + y.length - (k + 1)) + 1 by omega, List.getElem?_cons_succ]
          rcases h3 with h3 | h3
          · exact .inl (by simp; omega)
          · exact .inr h3
      | succ i =>
        simp at h
        obtain ⟨h1, h2, h3⟩ := ih' (i + 1) x (by simpa [show k + 1 + y.length + 1 = k + (y.length + 1) + 1 by omega] using h)
        have hle := (spansOf_ge _ _ i x h).2
        refine ⟨by omega, fun j a b => ?_, ?_⟩
        · rw [show j - k = (j - (k + 1)) + 1 by omega, List.getElem?_cons_succ]
          exact h2 j a b
        · rw [show x.2 - k = (x.2 - (k + 1)) + 1 by omega, List.getElem?_cons_succ]
          rcases h3 with h3 | h3
          · exact .inl (by simp; omega)
          · exact .inr h3

theorem spans_count (s : ByteArray) : (lineSpans s).length = nls s.data.toList + 1 := by
  rw [lineSpans, spansOf_len, cutLines_count]; rfl

theorem spanNo_none {s : ByteArray} {n : Int} (h : n < 1 ∨ (nls s.data.toList : Int) + 1 < n) : spanNo (lineSpans s) n = none := by
  unfold spanNo
  split
  · rw [List.getElem?_eq_none]
    rw [spans_count]; omega
  · rfl
theorem spanNo_some {s : ByteArray} {n : Int} (h1 : 1 ≤ n) (h2 : n ≤ (nls s.data.toList : Int) + 1) : ∃ f t : Nat, spanNo (lineSpans s) n = some (f, t) ∧ f ≤ t ∧ t ≤ s.size ∧ (∀ j, f ≤ j → j < t → s.data.toList[j]? ≠ some 10) ∧ (t = s.size ∨ s.data.toList[t]? = some 10) := by
  unfold spanNo
  rw [if_pos h1]
  have hl : (n - 1).toNat < (lineSpans s).length := by rw [spans_count]; omega
  have hx : (lineSpans s)[(n - 1).toNat]? = some (lineSpans s)[(n - 1).toNat] := List.getElem?_eq_getElem hl
  generalize (lineSpans s)[(n - 1).toNat] = x at *
  obtain ⟨f, t⟩ := x
  have h3 := span_bytes s.data.toList 0 _ _ hx
  have h4 := spansOf_ge _ 0 _ _ hx
  have h5 := span_end s _ _ hx
  simp only [Nat.sub_zero] at h3
  exact ⟨f, t, hx, h4.2, h5, h3.2.1, by rw [Lib.size_eq]; exact h3.2.2⟩

set_option maxHeartbeats 1000000 in
theorem ref_Line (s : ByteArray) (n : Int) (w : World) (hs63 : s.size ≤ 140737488355328) :
    Calls Try.prog 24 #[.string s, .int .i64 n] w fun e w' => e = .returned (lineV s (spanNo (lineSpans s) n)) ∧ Below w.heap.size w w' := by
  have HL := hidden (fun w => ref_Lines s w hs63)
  by_cases h1 : n < 1
  · rw [spanNo_none (.inl h1)]
    go_enter Try.func24, Try.ntmps24
    go_wp2
    refine bodyPost_ret (v := .tuple #[.string ByteArray.empty, .bool false]) ?_ rfl ⟨rfl, (by repeat (first | (with_reducible exact Below.refl _ _) | (with_reducible assumption) | (with_reducible refine Below.drew ?_) | ((with_reducible refine below_alloc ?_ ?_); (focus (first | omega | (simp; done) | (simp; omega)))) | ((with_reducible refine below_set ?_ ?_); (focus (first | omega | (simp; done) | (simp; omega))))))⟩
    simp [results, Try.f24, go_sem]
    rfl
  have k1 : decide (n < 1) = false := by simp; omega
  by_cases h2 : (nls s.data.toList : Int) + 1 < n
  · rw [spanNo_none (.inr h2)]
    have k2 : decide ((nls s.data.toList : Int) + 1 < n) = true := by simp; omega
    go_enter Try.func24, Try.ntmps24
    go_wp2_with (go_at_call 26; refine (HL.out _).mono ?_; rintro e w' ⟨rfl, rfl⟩)
    refine bodyPost_ret (v := .tuple #[.string ByteArray.empty, .bool false]) ?_ rfl ⟨rfl, (by repeat (first | (with_reducible exact Below.refl _ _) | (with_reducible assumption) | (with_reducible refine Below.drew ?_) | ((with_reducible refine below_alloc ?_ ?_); (focus (first | omega | (simp; done) | (simp; omega)))) | ((with_reducible refine below_set ?_ ?_); (focus (first | omega | (simp; done) | (simp; omega))))))⟩
    simp [results, Try.f24, go_sem]
    rfl
  have k2 : decide ((nls s.data.toList : Int) + 1 < n) = false := by simp; omega
  obtain ⟨f, t, e, hft, hts, hno, hend⟩ := spanNo_some (show 1 ≤ n by omega) (show n ≤ (nls s.data.toList : Int) + 1 by omega)
  have HO : ∀ w, Calls Try.prog 22 #[.string s, .agg #[.int .i64 n, .int .i64 1]] w fun e w' => e = .returned (.tuple #[.int .i64 f, .bool true]) ∧ Below w.heap.size w w' := by
    intro w
    have h := ref_Of s n 1 w hs63
    unfold placeNo at h
    rw [e] at h
    dsimp only at h
    rw [if_pos (by omega), show (f : Int) + 1 - 1 = f by omega] at h
    exact h
  have HO' := hidden HO
  rw [e]
  have HNO := hidden hno
  have HEND := hidden hend
  clear HO e hno hend h1 h2
  go_enter Try.func24, Try.ntmps24
  go_wp2_with (go_at_call 26; refine (HL.out _).mono ?_; rintro e w' ⟨rfl, rfl⟩)
  refine (HO'.out _).mono ?_
  rintro e w1 ⟨rfl, hb1⟩
  have hbz := hb1.size
  clear HL HO' k1 k2
  go_wp2
  go_loop [8] (fun i => ∃ k : Nat, f ≤ k ∧ k ≤ t ∧ i = .int .i64 k) (fun i => t - (intOf i).toNat)
  case atStart => exact ⟨f, Nat.le_refl _, hft, rfl⟩
  case round =>
    obtain ⟨k, hk1, hk2, rfl⟩ := hrel
    by_cases hk : k < t
    · have hks : k < s.size := by omega
      have hby : ((s[k].toNat : Int) != 10) = true := by
        rw [bne_iff_ne]
        intro e
        exact HNO.out k hk1 hk (by rw [byte_at s k hks, (byte_is _).1 (beq_iff_eq.2 e)])
      go_wp2
      exact ⟨⟨k + 1, by omega, by omega, by go_num⟩, by simp [intOf]; omega⟩
    · obtain rfl : k = t := by omega
      have hf' : (f : Int) ≤ (k : Int) := by omega
      have hs' : (k : Int) ≤ (s.size : Int) := by omega
      by_cases hks : k < s.size
      · have hby : ((s[k].toNat : Int) != 10) = false := by
          rcases HEND.out with h | h
          · omega
          · rw [byte_at s k hks] at h
            rw [bne_eq_false_iff_eq, Option.some.inj h]; rfl
        go_wp2
        refine bodyPost_ret (v := .tuple #[.string (s.extract f k), .bool true]) ?_ rfl ⟨rfl, (by repeat (first | (with_reducible exact Below.refl _ _) | (with_reducible assumption) | (with_reducible refine Below.drew ?_) | ((with_reducible refine below_alloc ?_ ?_); (focus (first | omega | (simp; done) | (simp; omega)))) | ((with_reducible refine below_set ?_ ?_); (focus (first | omega | (simp; done) | (simp; omega))))))⟩
        simp [results, Try.f24, go_sem]
      · go_wp2
        refine bodyPost_ret (v := .tuple #[.string (s.extract f k), .bool true]) ?_ rfl ⟨rfl, (by repeat (first | (with_reducible exact Below.refl _ _) | (with_reducible assumption) | (with_reducible refine Below.drew ?_) | ((with_reducible refine below_alloc ?_ ?_); (focus (first | omega | (simp; done) | (simp; omega)))) | ((with_reducible refine below_set ?_ ?_); (focus (first | omega | (simp; done) | (simp; omega))))))⟩
        simp [results, Try.f24, go_sem]
end Go.Proofs.Ytmgpfldlngjekaa
