/-
  gread, plainly: what a line adds; errors are some.
-/
import Derived.Test.YtfmdmeokbbpmlaaGreatGrdP
namespace Go.Proofs.YtfmdmeokbbpmlaaGreat
open Go.RowKit Go.Shelf

def tot (l : List ByteArray) : Nat := (l.map (fun s => s.size + 1)).sum
theorem tot_take (l : List ByteArray) (k : Nat) (s : ByteArray) (h : l[k]? = some s) : tot (l.take (k + 1)) = tot (l.take k) + (s.size + 1) := by
  unfold tot
  rw [List.take_add_one, h]
  simp
theorem tot_take_le (l : List ByteArray) : ∀ k, tot (l.take k) ≤ tot l := by
  induction l with
  | nil => intro k; simp [tot]
  | cons s l ih =>
    intro k
    cases k with
    | zero => simp [tot]
    | succ k =>
      have := ih k
      unfold tot at this ⊢
      simp only [List.take_succ_cons, List.map_cons, List.sum_cons] at this ⊢
      omega
theorem tot_mem {l : List ByteArray} {s : ByteArray} (h : s ∈ l) : s.size + 1 ≤ tot l := by
  induction l with
  | nil => cases h
  | cons a l ih =>
    unfold tot at ih ⊢
    simp only [List.map_cons, List.sum_cons] at ih ⊢
    rcases List.mem_cons.1 h with rfl | h
    · omega
    · have := ih h; omega
theorem spans_sum : ∀ (n : Nat) (l : List UInt8) (k : Nat), l.length ≤ n → ((lineSpans k l).map (fun p => p.2 - p.1 + 1)).sum ≤ if l = [] then 0 else l.length + 1 := by
  intro n
  induction n with
  | zero =>
    intro l k h
    obtain rfl : l = [] := List.eq_nil_of_length_eq_zero (by omega)
    rw [lineSpans_nil]
    simp
  | succ n ih =>
    intro l k h
    by_cases hl : l = []
    · subst hl; rw [lineSpans_nil]; simp
    · rw [if_neg hl, lineSpans_step hl, List.map_cons, List.sum_cons]
      have h1 := upTo_le 10 l
      have h2 := ih (l.drop (upTo 10 l + 1)) (k + upTo 10 l + 1) (by rw [List.length_drop]; have : l.length ≠ 0 := fun e => hl (List.eq_nil_of_length_eq_zero e); omega)
      dsimp only
      by_cases hd : l.drop (upTo 10 l + 1) = []
      · rw [if_pos hd] at h2; omega
      · rw [if_neg hd, List.length_drop] at h2
        have : upTo 10 l + 1 < l.length := by
          rcases Nat.lt_or_ge (upTo 10 l + 1) l.length with h3 | h3
          · exact h3
          · exact absurd (List.drop_of_length_le h3) hd
        omega
theorem tot_lines (s : ByteArray) : tot (linesOf s) ≤ s.size + 1 := by
  have h := spans_sum (bytes s).length (bytes s) 0 (Nat.le_refl _)
  have hb : ((lineSpans 0 (bytes s)).map (fun p => p.2 - p.1 + 1)).sum ≤ s.size + 1 := by
    rw [bytes_len] at h
    split at h <;> omega
  refine Nat.le_trans ?_ hb
  unfold tot linesOf linesAt
  rw [List.drop_zero, List.map_map]
  generalize lineSpans 0 (bytes s) = L
  induction L with
  | nil => exact Nat.le_refl _
  | cons p L ih =>
    simp only [List.map_cons, List.sum_cons, Function.comp]
    have : (cutTo s p).size ≤ p.2 - p.1 := by
      unfold cutTo
      rw [Lib.size_eq, Lib.extract_data, List.length_take]
      exact Nat.min_le_left _ _
    omega
theorem lines_le (s : ByteArray) : (linesOf s).length ≤ s.size + 1 := by
  have h := tot_lines s
  have h2 : ∀ l : List ByteArray, l.length ≤ tot l := by
    intro l
    induction l with
    | nil => exact Nat.le_refl _
    | cons a l ih => unfold tot at ih ⊢; simp only [List.map_cons, List.sum_cons, List.length_cons]; omega
  exact Nat.le_trans (h2 _) h
theorem word_ok {s w : ByteArray} (h : w ∈ wordsOf s) : 0 < w.size ∧ w.size ≤ s.size := by
  unfold wordsOf at h
  obtain ⟨p, hp, rfl⟩ := List.mem_map.1 h
  have := span_bounds_w s s.size 0 (by omega) p hp
  unfold cutTo
  rw [extract_size s this.2.2]
  omega
/-- What holds of what is read so far. -/
structure InvG (m t : Nat) (x : St) : Prop where
  tk : x.g.toks.length ≤ m
  pr : x.g.prods.length ≤ m
  ru : x.g.rules.length ≤ t
  nm : ∀ s ∈ allNames x.g, nameB s = true
  wd : ∀ y ∈ x.g.toks, ∀ z ∈ y.rex, Wordy z
theorem InvG.start : InvG 0 0 ⟨g0, []⟩ := ⟨Nat.le_refl _, Nat.le_refl _, Nat.le_refl _, fun s h => by simp [allNames, tokNames, g0] at h, fun y h => by cases h⟩
theorem InvG.mono {m t m' t' : Nat} {x : St} (h : InvG m t x) (hm : m ≤ m') (ht : t ≤ t') : InvG m' t' x := ⟨Nat.le_trans h.tk hm, Nat.le_trans h.pr hm, Nat.le_trans h.ru ht, h.nm, h.wd⟩
theorem InvG.same {m t : Nat} {x y : St} (h : InvG m t x) (h1 : y.g.toks = x.g.toks) (h2 : y.g.rules = x.g.rules) (h3 : y.g.prods = x.g.prods) : InvG m t y :=
  ⟨by rw [h1]; exact h.tk, by rw [h3]; exact h.pr, by rw [h2]; exact h.ru, by unfold allNames tokNames; rw [h1, h2]; exact h.nm, by rw [h1]; exact h.wd⟩
theorem name_max {s : ByteArray} (h : nameB s = true) : s.size ≤ maxLen := by
  have := (holdsB_iff.1 h).2.1
  unfold maxLen
  omega
theorem InvG.named {m t : Nat} {x : St} (h : InvG m t x) : Named x.g := fun s hs => name_max (h.nm s hs)
theorem setNum_same (g : Gram) (i : Nat) (n : Int) : (setNum g i n).toks = g.toks ∧ (setNum g i n).rules = g.rules ∧ (setNum g i n).prods = g.prods := by
  unfold setNum
  split
  · exact ⟨rfl, rfl, rfl⟩
  split
  · exact ⟨rfl, rfl, rfl⟩
  split
  · exact ⟨rfl, rfl, rfl⟩
  · exact ⟨rfl, rfl, rfl⟩
theorem bound_inv {x y : St} {a c : ByteArray} (h : boundG x a c = .inr y) : y.g.toks = x.g.toks ∧ y.g.rules = x.g.rules ∧ y.g.prods = x.g.prods := by
  unfold boundG at h
  split at h
  · cases h
  split at h
  · cases h
  split at h
  · cases h
  · cases h
    exact setNum_same _ _ _
theorem bound_err {x : St} {a c : ByteArray} {e : Int} (h : boundG x a c = .inl e) : e ≠ 0 := by
  unfold boundG at h
  split at h
  · cases h; decide
  split at h
  · cases h; decide
  split at h
  · rename_i hn; cases h; exact hn
  · cases h
theorem fresh_name {g : Gram} {s : ByteArray} (h : freshG g s = 0) : nameB s = true ∧ ¬ 0 ≤ findNo g s := by
  unfold freshG at h
  split at h
  · cases h
  · rename_i h1
    split at h
    · cases h
    · rename_i h2
      exact ⟨by simpa using h1, h2⟩
theorem token_inv {x y : St} {w0 a c : ByteArray} {m t : Nat} (hI : InvG m t x) (h : tokenG x w0 a c = .inr y) : InvG (m + 1) t y := by
  unfold tokenG at h
  split at h
  · cases h
  rename_i h1
  split at h
  · cases h
  rename_i h2
  cases h
  have hn := (fresh_name (Classical.not_not.1 h1)).1
  refine ⟨by rw [List.length_append]; exact Nat.succ_le_succ hI.tk, Nat.le_succ_of_le hI.pr, hI.ru, fun s hs => ?_, fun y hy z hz => ?_⟩
  · unfold allNames tokNames at hs
    rw [List.map_append, List.mem_append, List.mem_append] at hs
    rcases hs with (hs | hs) | hs
    · exact hI.nm s (by unfold allNames tokNames; exact List.mem_append_left _ hs)
    · simp at hs; rw [hs]; exact hn
    · exact hI.nm s (by unfold allNames tokNames; exact List.mem_append_right _ hs)
  · rcases List.mem_append.1 hy with hy | hy
    · exact hI.wd y hy z hz
    · rw [List.mem_singleton.1 hy] at hz
      dsimp only at hz
      obtain ⟨l, n, e, hr⟩ : ∃ l n e, readM (nb c) = (l, n, e) := ⟨_, _, _, rfl⟩
      rw [hr] at hz h2
      obtain rfl : e = 0 := Classical.not_not.1 h2
      obtain ⟨_, _, u, rfl, _⟩ := read_tree hr
      exact wordy_post u z hz
theorem token_err {x : St} {w0 a c : ByteArray} {e : Int} (h : tokenG x w0 a c = .inl e) : e ≠ 0 := by
  unfold tokenG at h
  split at h
  · rename_i hn; cases h; exact hn
  split at h
  · cases h; decide
  · cases h
theorem rules_inv : ∀ {r : List ByteArray} {x y : St} {m t : Nat}, InvG m t x → rulesG x r = .inr y → InvG m (t + r.length) y := by
  intro r
  induction r with
  | nil => intro x y m t hI h; rw [rulesG] at h; cases h; exact hI
  | cons s r ih =>
    intro x y m t hI h
    rw [rulesG] at h
    split at h
    · cases h
    · rename_i hf
      have hn := (fresh_name (Classical.not_not.1 hf)).1
      have := ih (x := ⟨{ x.g with rules := x.g.rules ++ [s] }, x.giv⟩) (m := m) (t := t + 1) ⟨hI.tk, hI.pr, by rw [List.length_append]; exact Nat.succ_le_succ hI.ru, fun u hu => by
        unfold allNames tokNames at hu
        rw [List.mem_append, List.mem_append] at hu
        rcases hu with hu | hu | hu
        · exact hI.nm u (by unfold allNames tokNames; exact List.mem_append_left _ hu)
        · exact hI.nm u (by unfold allNames tokNames; exact List.mem_append_right _ hu)
        · rw [List.mem_singleton.1 hu]; exact hn, hI.wd⟩ h
      refine this.mono (Nat.le_refl _) ?_
      rw [List.length_cons]
      omega
theorem rules_err : ∀ {r : List ByteArray} {x : St} {e : Int}, rulesG x r = .inl e → e ≠ 0 := by
  intro r
  induction r with
  | nil => intro x e h; rw [rulesG] at h; cases h
  | cons s r ih =>
    intro x e h
    rw [rulesG] at h
    split at h
    · rename_i hn; cases h; exact hn
    · exact ih h
theorem item_err {g : Gram} {s : ByteArray} {e : Int} (h : itemG g s = .inl e) : e ≠ 0 := by
  unfold itemG at h
  split at h
  · cases h; decide
  split at h
  · cases h
  split at h
  · rename_i hn; cases h; exact hn
  split at h
  · cases h; decide
  · cases h
theorem items_err {g : Gram} : ∀ {r : List ByteArray} {e : Int}, itemsG g r = .inl e → e ≠ 0 := by
  intro r
  induction r with
  | nil => intro e h; rw [itemsG] at h; cases h
  | cons s r ih =>
    intro e h
    rw [itemsG] at h
    cases hi : itemG g s with
    | inl e2 => rw [hi] at h; cases h; exact item_err hi
    | inr y =>
      rw [hi] at h
      cases hr : itemsG g r with
      | inl e2 => rw [hr] at h; cases h; exact ih hr
      | inr l => rw [hr] at h; cases h
theorem line_inv {x y : St} {w0 : ByteArray} {r : List ByteArray} {m t : Nat} (hI : InvG m t x) (h : lineG x w0 r = .inr y) : InvG (m + 1) (t + r.length) y := by
  have hJ := hI.mono (Nat.le_succ m) (Nat.le_add_right t r.length)
  unfold lineG at h
  split at h
  · unfold lineT at h
    split at h
    · obtain ⟨h1, h2, h3⟩ := bound_inv h
      exact hJ.same h1 h2 h3
    · cases h
  split at h
  · unfold lineT at h
    split at h
    · exact (token_inv hI h).mono (Nat.le_refl _) (Nat.le_add_right _ _)
    · cases h
  split at h
  · exact (rules_inv hI h).mono (Nat.le_succ m) (Nat.le_refl _)
  split at h
  · unfold lineO at h
    split at h
    · unfold startG at h
      split at h
      · cases h
      split at h
      · cases h
      · cases h; exact hJ.same rfl rfl rfl
    · cases h
  split at h
  · split at h
    · unfold ruleG at h
      split at h
      · cases h
      · split at h
        · cases h
        · cases h
          exact ⟨Nat.le_succ_of_le hI.tk, by rw [List.length_append]; exact Nat.succ_le_succ hI.pr, Nat.le_trans hI.ru (Nat.le_add_right _ _), hI.nm, hI.wd⟩
    · cases h
  · cases h
theorem line_err {x : St} {w0 : ByteArray} {r : List ByteArray} {e : Int} (h : lineG x w0 r = .inl e) : e ≠ 0 := by
  unfold lineG at h
  split at h
  · unfold lineT at h
    split at h
    · exact bound_err h
    · cases h; decide
  split at h
  · unfold lineT at h
    split at h
    · exact token_err h
    · cases h; decide
  split at h
  · exact rules_err h
  split at h
  · unfold lineO at h
    split at h
    · unfold startG at h
      split at h
      · cases h; decide
      split at h
      · cases h; decide
      · cases h
    · cases h; decide
  split at h
  · split at h
    · unfold ruleG at h
      split at h
      · cases h; decide
      · split at h
        · rename_i he; cases h; exact items_err he
        · cases h
    · cases h; decide
  · cases h; decide
theorem words_len (s : ByteArray) : (wordsOf s).length ≤ s.size := by
  have h : ∀ (n k : Nat), s.size - k ≤ n → (wordsAt s k).length ≤ s.size - k := by
    intro n
    induction n with
    | zero => intro k h; rw [wordsAt_past (by omega)]; simp
    | succ n ih =>
      intro k h
      by_cases hk : k < s.size
      · by_cases hc : s[k] = 32
        · rw [wordsAt_blank hk hc]
          have := ih (k + 1) (by omega)
          omega
        · have hw : wordsAt s k ≠ [] ∨ wordsAt s k = [] := by
            cases wordsAt s k <;> simp
          unfold wordsAt
          have hd : k < (bytes s).length := by rw [bytes_len]; exact hk
          rw [List.drop_eq_getElem_cons hd, wordSpans, if_neg (show ¬ (bytes s)[k] = 32 from hc), List.length_cons]
          have hu := upTo_le 32 ((bytes s).drop (k + 1))
          rw [List.length_drop, bytes_len] at hu
          rw [List.drop_drop]
          have h3 := ih (k + 1 + upTo 32 ((bytes s).drop (k + 1))) (by omega)
          unfold wordsAt at h3
          have e : k + (upTo 32 ((bytes s).drop (k + 1)) + 1) = k + 1 + upTo 32 ((bytes s).drop (k + 1)) := by omega
          rw [e]
          omega
      · rw [wordsAt_past (by omega)]; simp
  have := h s.size 0 (by omega)
  unfold wordsOf
  rw [List.length_map]
  omega
end Go.Proofs.YtfmdmeokbbpmlaaGreat
