/-
  Lines and words of a text: plain laws.
-/
import Derived.Test.YtfmdmeokbbpmlaaGreatB1
namespace Go.Proofs.YtfmdmeokbbpmlaaGreat

/-- How many bytes stand ahead of the first c. -/
def upTo (c : UInt8) (l : List UInt8) : Nat := (l.takeWhile (· != c)).length
theorem upTo_le (c : UInt8) (l : List UInt8) : upTo c l ≤ l.length := by
  unfold upTo
  exact (List.takeWhile_sublist _).length_le
theorem upTo_lt {c : UInt8} {l : List UInt8} {i : Nat} (h : i < upTo c l) : ∃ x, l[i]? = some x ∧ x ≠ c := by
  induction l generalizing i with
  | nil => simp [upTo] at h
  | cons y l ih =>
    unfold upTo at h
    rw [List.takeWhile_cons] at h
    by_cases e : (y != c) = true
    · rw [if_pos e] at h
      cases i with
      | zero => exact ⟨y, rfl, by simpa using e⟩
      | succ i => exact ih (by simp at h; unfold upTo; omega)
    · rw [if_neg e] at h; simp at h
theorem upTo_at {c : UInt8} {l : List UInt8} (h : upTo c l < l.length) : l[upTo c l]? = some c := by
  induction l with
  | nil => simp at h
  | cons y l ih =>
    unfold upTo at h ⊢
    rw [List.takeWhile_cons] at h ⊢
    by_cases e : (y != c) = true
    · rw [if_pos e] at h ⊢
      simp at h ⊢
      exact ih h
    · rw [if_neg e]
      simp at e ⊢
      exact e
theorem upTo_eq {c : UInt8} {l : List UInt8} {m : Nat} (hm : m ≤ l.length) (h : ∀ i, i < m → ∀ x, l[i]? = some x → x ≠ c) (he : m = l.length ∨ l[m]? = some c) : upTo c l = m := by
  rcases Nat.lt_trichotomy (upTo c l) m with h1 | h1 | h1
  · exact absurd rfl (h _ h1 c (upTo_at (by omega)))
  · exact h1
  · have := upTo_le c l
    rcases he with he | he
    · omega
    · obtain ⟨x, hx, hne⟩ := upTo_lt h1
      rw [he] at hx; cases hx; exact absurd rfl hne

/-- The lines, each as the stretch that it is. -/
def lineSpans : Nat → List UInt8 → List (Nat × Nat)
  | _, [] => []
  | k, c :: l => (k, k + upTo 10 (c :: l)) :: lineSpans (k + upTo 10 (c :: l) + 1) ((c :: l).drop (upTo 10 (c :: l) + 1))
termination_by _ l => l.length
decreasing_by simp; omega
/-- The words, each as the stretch that it is. -/
def wordSpans : Nat → List UInt8 → List (Nat × Nat)
  | _, [] => []
  | k, c :: l => if c = 32 then wordSpans (k + 1) l else (k, k + (upTo 32 l + 1)) :: wordSpans (k + (upTo 32 l + 1)) (l.drop (upTo 32 l))
termination_by _ l => l.length
decreasing_by all_goals simp <;> omega

theorem lineSpans_step {k : Nat} {l : List UInt8} (h : l ≠ []) : lineSpans k l = (k, k + upTo 10 l) :: lineSpans (k + upTo 10 l + 1) (l.drop (upTo 10 l + 1)) := by
  cases l with
  | nil => exact absurd rfl h
  | cons c l => rw [lineSpans]
theorem lineSpans_nil (k : Nat) : lineSpans k [] = [] := by rw [lineSpans]
theorem wordSpans_nil (k : Nat) : wordSpans k [] = [] := by rw [wordSpans]

/-- Of a text from a place on. -/
abbrev bytes (s : ByteArray) : List UInt8 := s.data.toList
def linesAt (s : ByteArray) (k : Nat) : List (Nat × Nat) := lineSpans k ((bytes s).drop k)
def wordsAt (s : ByteArray) (k : Nat) : List (Nat × Nat) := wordSpans k ((bytes s).drop k)
theorem bytes_len (s : ByteArray) : (bytes s).length = s.size := by unfold bytes; rw [Array.length_toList]; rfl
theorem bytes_at {s : ByteArray} {k : Nat} (h : k < s.size) : (bytes s)[k]? = some s[k] := by
  rw [List.getElem?_eq_getElem (by rw [bytes_len]; exact h)]; rfl
theorem linesAt_end (s : ByteArray) : linesAt s s.size = [] := by
  unfold linesAt
  rw [List.drop_of_length_le (by rw [bytes_len]; omega), lineSpans_nil]
theorem linesAt_past {s : ByteArray} {k : Nat} (h : s.size ≤ k) : linesAt s k = [] := by
  unfold linesAt
  rw [List.drop_of_length_le (by rw [bytes_len]; omega), lineSpans_nil]
theorem wordsAt_past {s : ByteArray} {k : Nat} (h : s.size ≤ k) : wordsAt s k = [] := by
  unfold wordsAt
  rw [List.drop_of_length_le (by rw [bytes_len]; omega), wordSpans_nil]
/-- A line from b to e: no byte 10 in it, and one behind it, if it is not the end. -/
theorem linesAt_step {s : ByteArray} {b e : Nat} (hb : b < s.size) (hbe : b ≤ e) (he : e ≤ s.size) (hn : ∀ j (h : j < s.size), b ≤ j → j < e → s[j] ≠ 10) (h10 : ∀ h : e < s.size, s[e] = 10) : linesAt s b = (b, e) :: linesAt s (e + 1) := by
  have hne : (bytes s).drop b ≠ [] := by
    intro h
    have := congrArg List.length h
    rw [List.length_drop, bytes_len] at this
    simp at this; omega
  have hu : upTo 10 ((bytes s).drop b) = e - b := by
    refine upTo_eq (by rw [List.length_drop, bytes_len]; omega) (fun i hi x hx => ?_) ?_
    · rw [List.getElem?_drop, bytes_at (show b + i < s.size by omega)] at hx
      cases hx
      exact hn _ _ (by omega) (by omega)
    · by_cases h : e < s.size
      · right
        rw [List.getElem?_drop, show b + (e - b) = e by omega, bytes_at h, h10 h]
      · left; rw [List.length_drop, bytes_len]; omega
  unfold linesAt
  rw [lineSpans_step hne, hu, List.drop_drop, show b + (e - b) = e by omega, show b + (e - b + 1) = e + 1 by omega]
theorem wordsAt_blank {s : ByteArray} {k : Nat} (h : k < s.size) (hc : s[k] = 32) : wordsAt s k = wordsAt s (k + 1) := by
  unfold wordsAt
  have hk : k < (bytes s).length := by rw [bytes_len]; exact h
  rw [List.drop_eq_getElem_cons hk, wordSpans, if_pos (show (bytes s)[k] = 32 from hc)]
theorem wordsAt_step {s : ByteArray} {b e : Nat} (hbe : b < e) (he : e ≤ s.size) (hn : ∀ j (h : j < s.size), b ≤ j → j < e → s[j] ≠ 32) (h32 : ∀ h : e < s.size, s[e] = 32) : wordsAt s b = (b, e) :: wordsAt s (e + 1) := by
  have hk : b < (bytes s).length := by rw [bytes_len]; omega
  have hu : upTo 32 ((bytes s).drop (b + 1)) = e - (b + 1) := by
    refine upTo_eq (by rw [List.length_drop, bytes_len]; omega) (fun i hi x hx => ?_) ?_
    · rw [List.getElem?_drop, bytes_at (show b + 1 + i < s.size by omega)] at hx
      cases hx
      exact hn _ _ (by omega) (by omega)
    · by_cases h : e < s.size
      · right
        rw [List.getElem?_drop, show b + 1 + (e - (b + 1)) = e by omega, bytes_at h, h32 h]
      · left; rw [List.length_drop, bytes_len]; omega
  have h1 : wordsAt s b = (b, e) :: wordsAt s e := by
    unfold wordsAt
    rw [List.drop_eq_getElem_cons hk, wordSpans, if_neg (show ¬ (bytes s)[b] = 32 from hn b (by omega) (Nat.le_refl _) hbe), hu, List.drop_drop, show b + (e - (b + 1) + 1) = e by omega, show b + 1 + (e - (b + 1)) = e by omega]
  rw [h1]
  by_cases h : e < s.size
  · rw [wordsAt_blank h (h32 h)]
  · rw [wordsAt_past (by omega), wordsAt_past (by omega)]

/-- Stretches as texts. -/
def cutTo (s : ByteArray) (p : Nat × Nat) : ByteArray := s.extract p.1 p.2
def linesOf (s : ByteArray) : List ByteArray := (linesAt s 0).map (cutTo s)
def wordsOf (s : ByteArray) : List ByteArray := (wordsAt s 0).map (cutTo s)
theorem span_bounds_w (s : ByteArray) : ∀ n k, s.size - k ≤ n → ∀ p ∈ wordsAt s k, k ≤ p.1 ∧ p.1 < p.2 ∧ p.2 ≤ s.size := by
  intro n
  induction n with
  | zero => intro k h p hp; rw [wordsAt_past (by omega)] at hp; cases hp
  | succ n ih =>
    intro k h p hp
    by_cases hk : k < s.size
    · by_cases hc : s[k] = 32
      · rw [wordsAt_blank hk hc] at hp
        have := ih (k + 1) (by omega) p hp
        omega
      · have hl : upTo 32 ((bytes s).drop k) ≤ s.size - k := by
          have := upTo_le 32 ((bytes s).drop k)
          rwa [List.length_drop, bytes_len] at this
        have hpos : 0 < upTo 32 ((bytes s).drop k) := by
          rcases Nat.eq_zero_or_pos (upTo 32 ((bytes s).drop k)) with h0 | h0
          · exfalso
            have := upTo_at (c := 32) (l := (bytes s).drop k) (by rw [h0, List.length_drop, bytes_len]; omega)
            rw [h0, List.getElem?_drop, Nat.add_zero, bytes_at hk] at this
            exact hc (Option.some.inj this)
          · exact h0
        have hst := wordsAt_step (s := s) (b := k) (e := k + upTo 32 ((bytes s).drop k)) (by omega) (by omega) (fun j hj h1 h2 => by
          obtain ⟨x, hx, hne⟩ := upTo_lt (c := 32) (l := (bytes s).drop k) (i := j - k) (by omega)
          rw [List.getElem?_drop, show k + (j - k) = j by omega, bytes_at hj] at hx
          cases hx; exact hne) (fun h => by
          have := upTo_at (c := 32) (l := (bytes s).drop k) (by rw [List.length_drop, bytes_len]; omega)
          rw [List.getElem?_drop, bytes_at h] at this
          exact Option.some.inj this)
        rw [hst, List.mem_cons] at hp
        rcases hp with rfl | hp
        · exact ⟨Nat.le_refl _, by dsimp only; omega, by dsimp only; omega⟩
        · have := ih _ (by omega) p hp
          omega
    · rw [wordsAt_past (by omega)] at hp; cases hp

theorem extract_extract (s : ByteArray) (a b c d : Nat) (h : a + d ≤ b) : (s.extract a b).extract c d = s.extract (a + c) (a + d) := by
  apply ByteArray.ext
  rw [ByteArray.data_extract, ByteArray.data_extract, ByteArray.data_extract, Array.extract_extract, Nat.min_eq_left h]
theorem extract_append (s : ByteArray) {a b c : Nat} (h1 : a ≤ b) (h2 : b ≤ c) : s.extract a b ++ s.extract b c = s.extract a c := by
  apply ByteArray.ext
  rw [ByteArray.data_append, ByteArray.data_extract, ByteArray.data_extract, ByteArray.data_extract, Array.extract_append_extract, Nat.min_eq_left h1, Nat.max_eq_right h2]
theorem extract_empty (s : ByteArray) (a : Nat) : s.extract a a = ⟨#[]⟩ := by
  apply ByteArray.ext
  rw [ByteArray.data_extract]
  apply Array.eq_empty_of_size_eq_zero
  rw [Array.size_extract]
  omega
theorem extract_all (s : ByteArray) : s.extract 0 s.size = s := by
  apply ByteArray.ext
  rw [ByteArray.data_extract]
  exact Array.extract_size
theorem extract_size (s : ByteArray) {a b : Nat} (h2 : b ≤ s.size) : (s.extract a b).size = b - a := by
  rw [ByteArray.size_extract, Nat.min_eq_left h2]
end Go.Proofs.YtfmdmeokbbpmlaaGreat
