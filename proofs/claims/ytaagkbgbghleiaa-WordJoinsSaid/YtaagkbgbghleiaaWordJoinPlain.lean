/-
  Lines put behind one another; words with one blank between: plain laws.
-/
import Derived.Test.YtaagkbgbghleiaaWordKnows
namespace Go.Proofs.Ytaagkbgbghleiaa

/-- The words of bytes, cur read so far. -/
def wordsGo : List UInt8 → List UInt8 → List (List UInt8)
  | cur, [] => if cur = [] then [] else [cur]
  | cur, c :: l => if c = 32 then (if cur = [] then wordsGo [] l else cur :: wordsGo [] l) else wordsGo (cur ++ [c]) l
theorem go_blank (a b : List UInt8) : ∀ cur, wordsGo cur (a ++ 32 :: b) = wordsGo cur a ++ wordsGo [] b := by
  induction a with
  | nil =>
    intro cur
    simp only [List.nil_append, wordsGo, if_true]
    split <;> simp
  | cons c a ih =>
    intro cur
    simp only [List.cons_append, wordsGo]
    split
    · split
      · exact ih []
      · rw [ih []]; simp
    · exact ih _
theorem go_word (x : List UInt8) : ∀ cur, (∀ c ∈ x, c ≠ 32) → wordsGo cur x = if cur ++ x = [] then [] else [cur ++ x] := by
  induction x with
  | nil => intro cur _; simp [wordsGo]
  | cons c x ih =>
    intro cur h
    rw [wordsGo, if_neg (h c (by simp)), ih _ (fun d hd => h d (by simp [hd]))]
    simp
theorem go_one {x : List UInt8} (h : ∀ c ∈ x, c ≠ 32) (hx : x ≠ []) : wordsGo [] x = [x] := by
  rw [go_word x [] h, List.nil_append, if_neg hx]

theorem bytes_cut (s : ByteArray) (a b : Nat) : bytes (s.extract a b) = ((bytes s).take b).drop a := by
  unfold bytes
  rw [ByteArray.data_extract, Array.toList_extract, List.extract_eq_take_drop, List.drop_take]
theorem bytes_inj {a b : ByteArray} (h : bytes a = bytes b) : a = b := by
  cases a; cases b
  simp only [ByteArray.mk.injEq]
  exact Array.toList_inj.1 h
theorem bytes_append (a b : ByteArray) : bytes (a ++ b) = bytes a ++ bytes b := by
  unfold bytes
  rw [ByteArray.data_append, Array.toList_append]

/-- A stretch without blanks. -/
theorem stretch_nb {s : ByteArray} {a b : Nat} (hb : b ≤ s.size) (hn : ∀ j (h : j < s.size), a ≤ j → j < b → s[j] ≠ 32) : ∀ c ∈ bytes (s.extract a b), c ≠ 32 := by
  intro c hc
  rw [bytes_cut] at hc
  obtain ⟨i, hi, e⟩ := List.mem_iff_getElem.1 hc
  have hl := bytes_len s
  have hi2 : a + i < b := by
    rw [List.length_drop, List.length_take] at hi; omega
  have : (bytes s)[a + i]? = some c := by
    have h1 := List.getElem?_eq_getElem hi
    rw [List.getElem?_drop, List.getElem?_take_of_lt hi2, e] at h1
    exact h1
  rw [bytes_at (show a + i < s.size by omega)] at this
  cases this
  exact hn _ _ (by omega) (by omega)
theorem drop_split {s : ByteArray} {a b : Nat} (hab : a ≤ b) (hb : b ≤ s.size) : (bytes s).drop a = bytes (s.extract a b) ++ (bytes s).drop b := by
  rw [bytes_cut]
  have hl := bytes_len s
  have h := List.drop_append_of_le_length (l₁ := (bytes s).take b) (l₂ := (bytes s).drop b) (i := a) (by rw [List.length_take]; omega)
  rw [List.take_append_drop] at h
  exact h

/-- A word's step, from where no blank stands. -/
theorem word_step {s : ByteArray} {k : Nat} (hk : k < s.size) (hc : s[k] ≠ 32) : ∃ e, k < e ∧ e ≤ s.size ∧ (∀ j (h : j < s.size), k ≤ j → j < e → s[j] ≠ 32) ∧ (∀ h : e < s.size, s[e] = 32) ∧ wordsAt s k = (k, e) :: wordsAt s (e + 1) := by
  have hl : upTo 32 ((bytes s).drop k) ≤ s.size - k := by
    have := upTo_le 32 ((bytes s).drop k)
    rwa [List.length_drop, bytes_len] at this
  have hpos : 0 < upTo 32 ((bytes s).drop k) := by
    rcases Nat.eq_zero_or_pos (upTo 32 ((bytes s).drop k)) with h0 | h0
    · exfalso
      have := upTo_at (c := 32) (l := (bytes s).drop k) (by rw [h0, List.length_drop, bytes_len]; omega)
      rw [h0, List.getElem?_drop, Nat.add_zero, bytes_at hk] at this
      exact hc (Option.some.inj this)
    · exact h0
  have h1 : ∀ j (h : j < s.size), k ≤ j → j < k + upTo 32 ((bytes s).drop k) → s[j] ≠ 32 := fun j hj h1 h2 => by
    obtain ⟨x, hx, hne⟩ := upTo_lt (c := 32) (l := (bytes s).drop k) (i := j - k) (by omega)
    rw [List.getElem?_drop, show k + (j - k) = j by omega, bytes_at hj] at hx
    cases hx; exact hne
  have h2 : ∀ h : k + upTo 32 ((bytes s).drop k) < s.size, s[k + upTo 32 ((bytes s).drop k)] = 32 := fun h => by
    have := upTo_at (c := 32) (l := (bytes s).drop k) (by rw [List.length_drop, bytes_len]; omega)
    rw [List.getElem?_drop, bytes_at h] at this
    exact Option.some.inj this
  exact ⟨_, by omega, by omega, h1, h2, wordsAt_step (by omega) (by omega) h1 h2⟩

theorem words_go (s : ByteArray) : ∀ n k, s.size - k ≤ n → (wordsAt s k).map (fun p => bytes (cutTo s p)) = wordsGo [] ((bytes s).drop k) := by
  intro n
  induction n with
  | zero => intro k h; rw [wordsAt_past (by omega), List.drop_of_length_le (by rw [bytes_len]; omega)]; rfl
  | succ n ih =>
    intro k h
    by_cases hk : k < s.size
    · by_cases hc : s[k] = 32
      · rw [wordsAt_blank hk hc, ih (k + 1) (by omega), List.drop_eq_getElem_cons (show k < (bytes s).length by rw [bytes_len]; exact hk), wordsGo, if_pos (show (bytes s)[k] = 32 from hc), if_pos rfl]
      · obtain ⟨e, e1, e2, e3, e4, e5⟩ := word_step hk hc
        have hx := go_one (stretch_nb e2 e3) (by
          intro h0
          have := congrArg List.length h0
          rw [bytes_len, extract_size s e2] at this
          simp at this; omega)
        rw [e5, List.map_cons, drop_split (Nat.le_of_lt e1) e2]
        by_cases he : e < s.size
        · rw [List.drop_eq_getElem_cons (show e < (bytes s).length by rw [bytes_len]; exact he), show (bytes s)[e] = 32 from e4 he, go_blank, hx, ih (e + 1) (by omega)]
          rfl
        · rw [wordsAt_past (by omega), List.drop_of_length_le (show (bytes s).length ≤ e by rw [bytes_len]; omega), List.append_nil, hx]
          rfl
    · rw [wordsAt_past (by omega), List.drop_of_length_le (by rw [bytes_len]; omega)]; rfl
theorem wordsOf_go (s : ByteArray) : (wordsOf s).map bytes = wordsGo [] (bytes s) := by
  have := words_go s s.size 0 (by omega)
  unfold wordsOf
  rw [List.map_map]
  exact this
theorem wordsOf_eq {s t : ByteArray} (h : wordsGo [] (bytes s) = (wordsOf t).map bytes) : wordsOf s = wordsOf t := by
  have e := (wordsOf_go s).trans h
  have inj : ∀ (l m : List ByteArray), l.map bytes = m.map bytes → l = m := by
    intro l
    induction l with
    | nil => intro m hm; cases m with
      | nil => rfl
      | cons y m => simp at hm
    | cons x l ih =>
      intro m hm
      cases m with
      | nil => simp at hm
      | cons y m =>
        rw [List.map_cons, List.map_cons, List.cons.injEq] at hm
        rw [bytes_inj hm.1, ih m hm.2]
  exact inj _ _ e

/-- The words put behind one another, a blank between. -/
def joinW (l : List ByteArray) : Nat → ByteArray
  | 0 => ⟨#[]⟩
  | i + 1 => (if 0 < i then joinW l i ++ ⟨#[32]⟩ else joinW l i) ++ l.getD i ⟨#[]⟩
theorem joinW_words {l : List ByteArray} (h : ∀ x ∈ l, (∀ c ∈ bytes x, c ≠ 32) ∧ bytes x ≠ []) : ∀ i, i ≤ l.length → wordsGo [] (bytes (joinW l i)) = (l.take i).map bytes := by
  intro i
  induction i with
  | zero => intro _; rfl
  | succ i ih =>
    intro hi
    have hx := List.getElem?_eq_getElem (show i < l.length by omega)
    have hm := h _ (List.getElem_mem (show i < l.length by omega))
    have hg : l.getD i ⟨#[]⟩ = l[i] := by rw [List.getD_eq_getElem?_getD, hx]; rfl
    rw [joinW, hg, bytes_append, List.take_succ_eq_append_getElem (by omega), List.map_append, ← ih (by omega)]
    by_cases h0 : 0 < i
    · rw [if_pos h0, bytes_append, List.append_assoc, show bytes ⟨#[32]⟩ = [32] from rfl, List.singleton_append, go_blank, go_one hm.1 hm.2]
      rfl
    · obtain rfl : i = 0 := by omega
      rw [if_neg h0, show bytes (joinW l 0) = [] from rfl, List.nil_append, go_one hm.1 hm.2]
      rfl
theorem words_nb (s : ByteArray) : ∀ n k, s.size - k ≤ n → ∀ p ∈ wordsAt s k, (∀ c ∈ bytes (cutTo s p), c ≠ 32) ∧ bytes (cutTo s p) ≠ [] := by
  intro n
  induction n with
  | zero => intro k h p hp; rw [wordsAt_past (by omega)] at hp; cases hp
  | succ n ih =>
    intro k h p hp
    by_cases hk : k < s.size
    · by_cases hc : s[k] = 32
      · rw [wordsAt_blank hk hc] at hp
        exact ih (k + 1) (by omega) p hp
      · obtain ⟨e, e1, e2, e3, e4, e5⟩ := word_step hk hc
        rw [e5, List.mem_cons] at hp
        rcases hp with rfl | hp
        · refine ⟨stretch_nb e2 e3, fun h0 => ?_⟩
          have := congrArg List.length h0
          have h2 : (cutTo s (k, e)).size = e - k := extract_size s e2
          rw [bytes_len, h2] at this
          simp at this; omega
        · exact ih (e + 1) (by omega) p hp
    · rw [wordsAt_past (by omega)] at hp; cases hp
theorem join_words (s : ByteArray) : wordsOf (joinW (wordsOf s) (wordsOf s).length) = wordsOf s := by
  apply wordsOf_eq
  rw [joinW_words (fun x hx => ?_) _ (Nat.le_refl _), List.take_length]
  unfold wordsOf at hx
  rw [List.mem_map] at hx
  obtain ⟨p, hp, rfl⟩ := hx
  exact words_nb s s.size 0 (by omega) p hp
theorem wordsAt_tail (s : ByteArray) : ∀ n k p r, s.size - k ≤ n → wordsAt s k = p :: r → r = wordsAt s (p.2 + 1) := by
  intro n
  induction n with
  | zero => intro k p r h hw; rw [wordsAt_past (by omega)] at hw; cases hw
  | succ n ih =>
    intro k p r h hw
    have hk := nonempty_lt hw
    by_cases hc : s[k] = 32
    · rw [wordsAt_blank hk hc] at hw
      exact ih (k + 1) p r (by omega) hw
    · obtain ⟨e, e1, e2, e3, e4, e5⟩ := word_step hk hc
      rw [e5] at hw
      cases hw; rfl
/-- The rest's words. -/
theorem behind_words {s : ByteArray} {p : Nat × Nat} {r : List (Nat × Nat)} (h : wordsAt s 0 = p :: r) : wordsOf (behind s p) = r.map (cutTo s) := by
  have hr := wordsAt_tail s s.size 0 p r (by omega) h
  have hw := words_go s s.size (p.2 + 1) (by omega)
  have hb : bytes (behind s p) = (bytes s).drop (p.2 + 1) := by
    unfold behind
    rw [bytes_cut, List.take_of_length_le (by rw [bytes_len]; omega)]
    by_cases h1 : p.2 + 1 ≤ s.size
    · rw [Nat.min_eq_left h1]
    · rw [Nat.min_eq_right (by omega), List.drop_of_length_le (by rw [bytes_len]; omega), List.drop_of_length_le (by rw [bytes_len]; omega)]
  have e : (wordsOf (behind s p)).map bytes = (r.map (cutTo s)).map bytes := by
    rw [wordsOf_go, hb, ← hw, ← hr, List.map_map]
    rfl
  have inj : ∀ (l m : List ByteArray), l.map bytes = m.map bytes → l = m := by
    intro l
    induction l with
    | nil => intro m hm; cases m with
      | nil => rfl
      | cons y m => simp at hm
    | cons x l ih =>
      intro m hm
      cases m with
      | nil => simp at hm
      | cons y m =>
        rw [List.map_cons, List.map_cons, List.cons.injEq] at hm
        rw [bytes_inj hm.1, ih m hm.2]
  exact inj _ _ e

/-! ### Lines -/
def joinL (l : List ByteArray) : ByteArray := l.foldl (fun a x => a ++ x ++ ⟨#[10]⟩) ⟨#[]⟩
theorem joinL_snoc (l : List ByteArray) (x : ByteArray) : joinL (l ++ [x]) = joinL l ++ x ++ ⟨#[10]⟩ := by unfold joinL; rw [List.foldl_append]; rfl
/-- Does a text end in a byte 10, or is it empty? -/
def EndsTen (s : ByteArray) : Prop := s.size = 0 ∨ ∃ h : 0 < s.size, s[s.size - 1] = 10
theorem join_lines (s : ByteArray) : ∀ n k (acc : ByteArray), s.size - k ≤ n → k ≤ s.size → acc = s.extract 0 k → (k = 0 ∨ ∃ h : k - 1 < s.size, s[k - 1] = 10) →
    ((linesAt s k).map (cutTo s)).foldl (fun a x => a ++ x ++ ⟨#[10]⟩) acc = s ∧ EndsTen s ∨ ((linesAt s k).map (cutTo s)).foldl (fun a x => a ++ x ++ ⟨#[10]⟩) acc = s ++ ⟨#[10]⟩ ∧ ¬ EndsTen s := by
  intro n
  induction n with
  | zero =>
    intro k acc h hk ha hp
    obtain rfl : k = s.size := by omega
    left
    rw [linesAt_end, ha, extract_all]
    refine ⟨rfl, ?_⟩
    rcases hp with h0 | ⟨h1, h2⟩
    · exact .inl h0
    · exact .inr ⟨by omega, h2⟩
  | succ n ih =>
    intro k acc h hk ha hp
    by_cases hlt : k < s.size
    · have hle : upTo 10 ((bytes s).drop k) ≤ s.size - k := by
        have := upTo_le 10 ((bytes s).drop k)
        rwa [List.length_drop, bytes_len] at this
      have hn : ∀ j (h : j < s.size), k ≤ j → j < k + upTo 10 ((bytes s).drop k) → s[j] ≠ 10 := fun j hj h1 h2 => by
        obtain ⟨x, hx, hne⟩ := upTo_lt (c := 10) (l := (bytes s).drop k) (i := j - k) (by omega)
        rw [List.getElem?_drop, show k + (j - k) = j by omega, bytes_at hj] at hx
        cases hx; exact hne
      have hten : ∀ h : k + upTo 10 ((bytes s).drop k) < s.size, s[k + upTo 10 ((bytes s).drop k)] = 10 := fun h => by
        have := upTo_at (c := 10) (l := (bytes s).drop k) (by rw [List.length_drop, bytes_len]; omega)
        rw [List.getElem?_drop, bytes_at h] at this
        exact Option.some.inj this
      rw [linesAt_step hlt (by omega) (by omega) hn hten, List.map_cons, List.foldl_cons]
      have hek : k ≤ k + upTo 10 ((bytes s).drop k) := by omega
      have hes : k + upTo 10 ((bytes s).drop k) ≤ s.size := by omega
      clear hle
      generalize k + upTo 10 ((bytes s).drop k) = e at *
      by_cases he : e < s.size
      · refine ih (e + 1) _ (by omega) (by omega) ?_ (.inr ⟨by omega, hten he⟩)
        rw [ha]
        have h10 : (⟨#[10]⟩ : ByteArray) = s.extract e (e + 1) := by
          apply bytes_inj
          rw [bytes_cut, List.drop_take, List.drop_eq_getElem_cons (show e < (bytes s).length by rw [bytes_len]; exact he), show e + 1 - e = 1 by omega, List.take_succ_cons, List.take_zero, show (bytes s)[e] = 10 from hten he]
        rw [h10]
        show s.extract 0 k ++ s.extract k e ++ s.extract e (e + 1) = _
        rw [extract_append s (Nat.zero_le _) (by omega), extract_append s (Nat.zero_le _) (by omega)]
      · obtain rfl : e = s.size := by omega
        right
        rw [linesAt_past (by omega), ha]
        refine ⟨?_, ?_⟩
        · show s.extract 0 k ++ s.extract k s.size ++ _ = _
          rw [extract_append s (Nat.zero_le _) hk, extract_all]
        · rintro (h0 | ⟨h0, h1⟩)
          · omega
          · exact hn _ _ (by omega) (by omega) h1
    · obtain rfl : k = s.size := by omega
      left
      rw [linesAt_end, ha, extract_all]
      refine ⟨rfl, ?_⟩
      rcases hp with h0 | ⟨h1, h2⟩
      · exact .inl h0
      · exact .inr ⟨by omega, h2⟩
theorem join_all (s : ByteArray) : joinL (linesOf s) = s ∧ EndsTen s ∨ joinL (linesOf s) = s ++ ⟨#[10]⟩ ∧ ¬ EndsTen s :=
  join_lines s s.size 0 ⟨#[]⟩ (by omega) (by omega) (extract_empty s 0).symm (.inl rfl)
end Go.Proofs.Ytaagkbgbghleiaa
