/-
  Where parts are: a kid's within its node's; a leaf's own text. Plain.
-/
import Derived.Test.YtihblifkbljgaaaYieldPlaces
import Derived.Test.YtihblifkbljgaaaTreeSub2
import Derived.Test.YtihblifkbljgaaaTreeParts
namespace Go.Proofs.Ytihblifkbljgaaa
open Go.RowKit Go.Shelf

/-- How many words stand ahead of a node. -/
theorem cut_at (t : List Node) (x : Nat) : ∃ c, c ≤ (leavesOf t).length ∧ ∀ k, k < (leavesOf t).length → (nodeY t k < x ↔ k < c) := by
  have : ∀ n, n ≤ (leavesOf t).length → ∃ c, c ≤ n ∧ ∀ k, k < n → (nodeY t k < x ↔ k < c) := by
    intro n
    induction n with
    | zero => exact fun _ => ⟨0, Nat.le_refl _, fun k h => by omega⟩
    | succ n ih =>
      intro hn
      obtain ⟨c, h1, h2⟩ := ih (by omega)
      by_cases hx : nodeY t n < x
      · refine ⟨n + 1, Nat.le_refl _, fun k hk => ⟨fun _ => hk, fun _ => ?_⟩⟩
        by_cases e : k = n
        · rw [e]; exact hx
        · have := nodeY_mono (t := t) (j := k) (k := n) (by omega) (by omega)
          omega
      · refine ⟨c, by omega, fun k hk => ?_⟩
        by_cases e : k = n
        · rw [e]
          constructor
          · intro h; exact absurd h hx
          · intro h; omega
        · exact h2 k (by omega)
  exact this _ (Nat.le_refl _)

theorem own_bounds {t : List Node} {k : Nat} (h : k < (leavesOf t).length) : fromY t (leavesOf t) k ≤ ownY t k ∧ ownY t k ≤ fromY t (leavesOf t) (k + 1) := by
  have h2 := (nodeY_at h).2.2.1
  unfold ownY
  unfold wordLen at h2
  omega

/-- Ahead of its words nothing is of the part. -/
theorem spanP_ahead {t : List Node} {i z : Nat} : ∀ k, k ≤ (leavesOf t).length → (∀ j, j < k → nodeY t j < i) → spanP t i z (List.range k) = (fromY t (leavesOf t) k, fromY t (leavesOf t) k, false) := by
  intro k
  induction k with
  | zero => intro _ _; rfl
  | succ k ih =>
    intro hk h
    rw [List.range_succ, spanP_snoc, ih (by omega) (fun j hj => h j (by omega))]
    have hn := h k (by omega)
    unfold stepP
    rw [if_neg (by omega), if_pos hn]
/-- Within its words it begins with the first one's own, and ends with the last one. -/
theorem spanP_in {t : List Node} {i z c : Nat} (hc : c < (leavesOf t).length) (ha : ∀ j, j < c → nodeY t j < i) (hi : i ≤ nodeY t c) : ∀ k, c < k → k ≤ (leavesOf t).length → (∀ j, j < k → nodeY t j < i + z) →
    spanP t i z (List.range k) = (ownY t c, fromY t (leavesOf t) k, true) := by
  intro k
  induction k with
  | zero => intro h; omega
  | succ k ih =>
    intro h1 h2 h3
    rw [List.range_succ, spanP_snoc]
    have h4 := h3 k (by omega)
    by_cases e : k = c
    · subst e
      rw [spanP_ahead k (by omega) ha]
      unfold stepP
      rw [if_neg (by omega), if_neg (by omega)]
      rfl
    · rw [ih (by omega) (by omega) (fun j hj => h3 j (by omega))]
      have := nodeY_mono (t := t) (j := c) (k := k) (by omega) (by omega)
      unfold stepP
      rw [if_neg (by omega), if_neg (by omega)]
      rfl
theorem spanP_behind {t : List Node} {i z c : Nat} (hc : c ≤ (leavesOf t).length) (h : ∀ j, c ≤ j → j < (leavesOf t).length → i + z ≤ nodeY t j) : spanP t i z (List.range (leavesOf t).length) = spanP t i z (List.range c) := by
  have e : List.range (leavesOf t).length = List.range c ++ (List.range ((leavesOf t).length - c)).map (c + ·) := by
    conv => lhs; rw [show (leavesOf t).length = c + ((leavesOf t).length - c) by omega, List.range_add]
  rw [e]
  unfold spanP
  rw [List.foldl_append]
  refine spanP_idle _ _ (fun k hk => ?_)
  obtain ⟨m, hm, rfl⟩ := List.mem_map.1 hk
  have := List.mem_range.1 hm
  exact h _ (by omega) (by omega)

/-- Where a part is: by how many words stand ahead of it, and of its end. -/
theorem span_cut {t : List Node} {i z c d : Nat} (hc : c ≤ (leavesOf t).length) (hd : d ≤ (leavesOf t).length) (h1 : ∀ k, k < (leavesOf t).length → (nodeY t k < i ↔ k < c)) (h2 : ∀ k, k < (leavesOf t).length → (nodeY t k < i + z ↔ k < d)) :
    (c < d → spanP t i z (List.range (leavesOf t).length) = (ownY t c, fromY t (leavesOf t) d, true)) ∧ (d ≤ c → spanP t i z (List.range (leavesOf t).length) = (fromY t (leavesOf t) d, fromY t (leavesOf t) d, false)) := by
  have hb : spanP t i z (List.range (leavesOf t).length) = spanP t i z (List.range d) := spanP_behind hd (fun j a b => by have := h2 j b; omega)
  rw [hb]
  constructor
  · intro h
    exact spanP_in (by omega) (fun j hj => (h1 j (by omega)).2 hj) (by have := h1 c (by omega); omega) d h hd (fun j hj => (h2 j (by omega)).2 hj)
  · intro h
    exact spanP_ahead d hd (fun j hj => (h1 j (by omega)).2 (by omega))

theorem span_in {t : List Node} (hT : Tree t) {i : Nat} (hi : i < t.length) : spanOf t (i : Int) = ((spanP t i (sz t i) (List.range (leavesOf t).length)).1, (spanP t i (sz t i) (List.range (leavesOf t).length)).2.1, true) := by
  have hp : placeB t (i : Int) = true := placeB_iff.2 ⟨by omega, by omega, hT⟩
  unfold spanOf
  rw [hp]
  rfl
theorem text_len (t : List Node) : (textOf t).length = fromY t (leavesOf t) (leavesOf t).length := textL_range_len t _ (Nat.le_refl _)

theorem span_bounds {t : List Node} (hT : Tree t) {i : Nat} (hi : i < t.length) : (spanOf t (i : Int)).1 ≤ (spanOf t (i : Int)).2.1 ∧ (spanOf t (i : Int)).2.1 ≤ (textOf t).length := by
  rw [span_in hT hi, text_len]
  obtain ⟨c, hc, h1⟩ := cut_at t i
  obtain ⟨d, hd, h2⟩ := cut_at t (i + sz t i)
  obtain ⟨a, b⟩ := span_cut hc hd h1 h2
  rcases Nat.lt_or_ge c d with h | h
  · rw [a h]
    dsimp only
    exact ⟨Nat.le_trans (own_bounds (by omega)).2 (fromY_mono t _ h), fromY_mono t _ hd⟩
  · rw [b h]
    exact ⟨Nat.le_refl _, fromY_mono t _ hd⟩

/-- A leaf: its word. -/
theorem leaf_word {t : List Node} (hT : Tree t) {i : Nat} (hi : i < t.length) (hk : textedK (leafAt t i).kind) : ∃ k, k < (leavesOf t).length ∧ nodeY t k = i ∧ spanOf t (i : Int) = (ownY t k, fromY t (leavesOf t) (k + 1), true) := by
  have hx := List.getElem?_eq_getElem hi
  have hm : i ∈ leavesOf t := by
    unfold leavesOf leavesTo texts
    rw [if_pos (treeB_iff.2 hT), List.mem_filter]
    refine ⟨List.mem_range.2 hi, ?_⟩
    unfold isText
    rw [hx]
    rw [leafAt_of hx] at hk
    simpa using hk
  obtain ⟨k, hkk⟩ := List.getElem?_of_mem hm
  have hlt := (List.getElem?_eq_some_iff.1 hkk).1
  have hn := nodeY_of hkk
  have hz : sz t i = 1 := by
    have h0 := tree_sz0 hT
    obtain ⟨⟨⟨x, hx', hl⟩, _⟩, _⟩ := hT.2.2.2 i (Nat.zero_le _) (by rw [h0]; omega)
    rw [leafAt_of hx'] at hk
    unfold Local at hl
    have : x.size = 1 := hl.2.2.2.1 (by
      intro ho
      unfold openK at ho
      unfold textedK at hk
      omega)
    rw [sz_of hx', this]
    rfl
  refine ⟨k, hlt, hn, ?_⟩
  rw [span_in hT hi, hz]
  have := (span_cut (t := t) (i := i) (z := 1) (c := k) (d := k + 1) (by omega) (by omega) (fun j hj => ?_) (fun j hj => ?_)).1 (by omega)
  · rw [this]
  · constructor
    · intro h
      rcases Nat.lt_trichotomy j k with h' | h' | h'
      · exact h'
      · subst h'; omega
      · have := nodeY_mono (t := t) h' hj; omega
    · intro h
      have := nodeY_mono (t := t) h hlt; omega
  · constructor
    · intro h
      rcases Nat.lt_trichotomy j k with h' | h' | h'
      · omega
      · omega
      · have := nodeY_mono (t := t) h' hj; omega
    · intro h
      by_cases e : j = k
      · subst e; omega
      · have := nodeY_mono (t := t) (show j < k by omega) hlt; omega

theorem find_in {t : List Node} {k : Nat} (hk : k < (leavesOf t).length) {at_ : Nat} (h1 : ownY t k ≤ at_) (h2 : at_ < fromY t (leavesOf t) (k + 1)) : findOf t (at_ : Int) = (nodeY t k : Int) := by
  have e : List.range (leavesOf t).length = List.range k ++ k :: (List.range ((leavesOf t).length - (k + 1))).map (k + 1 + ·) := by
    conv => lhs; rw [show (leavesOf t).length = (k + 1) + ((leavesOf t).length - (k + 1)) by omega, List.range_add, List.range_succ]
    rw [List.append_assoc, List.singleton_append]
  unfold findOf
  rw [e]
  refine findY_hit ?_ _ _ (fun j hj => ?_)
  · have := (own_bounds hk).1
    unfold hitY; omega
  · have := List.mem_range.1 hj
    have h3 := fromY_mono t (leavesOf t) (j := j + 1) (k := k) (by omega)
    have := (own_bounds hk).1
    unfold hitY; omega
theorem find_out {t : List Node} {at_ : Int} (h : at_ < 0 ∨ ((textOf t).length : Int) ≤ at_) : findOf t at_ = -1 := by
  rw [text_len] at h
  refine findY_miss _ (fun j hj => ?_)
  have := List.mem_range.1 hj
  have h3 := fromY_mono t (leavesOf t) (j := j + 1) (k := (leavesOf t).length) (by omega)
  unfold hitY; omega
theorem textL_split (t : List Node) : ∀ k, k ≤ (leavesOf t).length → (textOf t).take (fromY t (leavesOf t) k) = textL t (List.range k) := by
  intro k hk
  have e : List.range (leavesOf t).length = List.range k ++ (List.range ((leavesOf t).length - k)).map (k + ·) := by
    conv => lhs; rw [show (leavesOf t).length = k + ((leavesOf t).length - k) by omega, List.range_add]
  unfold textOf
  rw [e]
  unfold textL
  rw [List.flatMap_append, ← textL_range_len t k hk]
  exact List.take_left' rfl
/-- The bytes of a leaf's own text are its part. -/
theorem leaf_bytes {t : List Node} {k : Nat} (hk : k < (leavesOf t).length) : (catB (textOf t)).extract (ownY t k) (fromY t (leavesOf t) (k + 1)) = (leafAt t (nodeY t k)).text := by
  have h1 := textL_split t (k + 1) hk
  have h2 := textL_range_len t k (by omega)
  have h3 := (nodeY_at hk).2.2.1
  rw [List.range_succ, textL_snoc] at h1
  apply ByteArray.ext
  apply Array.ext'
  have hd : ((catB (textOf t)).extract (ownY t k) (fromY t (leavesOf t) (k + 1))).data.toList = ((textOf t).take (fromY t (leavesOf t) (k + 1))).drop (ownY t k) := by
    rw [ByteArray.data_extract, Array.toList_extract]
    unfold catB
    rw [List.extract_eq_take_drop, List.drop_take]
  rw [hd, h1]
  unfold wordBytes
  rw [← List.append_assoc]
  have h4 : (textL t (List.range k) ++ pcBytes (leafAt t (nodeY t k)).lead).length = ownY t k := by
    rw [List.length_append, h2, pcBytes_len]; rfl
  rw [← h4]
  exact List.drop_left' rfl

theorem up_cases {t : List Node} {i : Nat} : ∀ k, (upN t i k = -1 ∨ ∃ p : Nat, upN t i k = (p : Int) ∧ p < k ∧ i < p + sz t p) := by
  intro k
  induction k with
  | zero => exact .inl rfl
  | succ k ih =>
    unfold upN
    split
    · exact .inr ⟨k, rfl, by omega, ‹_›⟩
    · rcases ih with h | ⟨p, h1, h2, h3⟩
      · exact .inl h
      · exact .inr ⟨p, h1, by omega, h3⟩
theorem up_of {t : List Node} (hT : Tree t) {i : Nat} (hi : i < t.length) : upOf t (i : Int) = -1 ∨ ∃ p : Nat, upOf t (i : Int) = (p : Int) ∧ p < i ∧ i < p + sz t p := by
  have hp : placeB t (i : Int) = true := placeB_iff.2 ⟨by omega, by omega, hT⟩
  unfold upOf
  rw [hp]
  exact up_cases i
/-- A part that has a leaf: a word of it. -/
theorem sub_word {t : List Node} (hT : Tree t) {i : Nat} (hi : i < t.length) (h : (leavesOf (subOf t (i : Int))).length ≠ 0) : ∃ k, k < (leavesOf t).length ∧ i ≤ nodeY t k ∧ nodeY t k < i + sz t i := by
  rw [subOf_in hT hi] at h
  obtain ⟨m, hm⟩ := List.exists_mem_of_length_pos (Nat.pos_of_ne_zero h)
  unfold leavesOf leavesTo at hm
  split at hm
  · unfold texts at hm
    rw [List.mem_filter] at hm
    have hml := List.mem_range.1 hm.1
    rw [subL_len hT hi] at hml
    have hmt := hm.2
    have hin : i + m < t.length := by have := (tree_node hT hi).2.1; omega
    have : i + m ∈ leavesOf t := by
      unfold leavesOf leavesTo texts
      rw [if_pos (treeB_iff.2 hT), List.mem_filter]
      refine ⟨List.mem_range.2 hin, ?_⟩
      unfold isText at hmt ⊢
      rw [subL_at hml] at hmt
      exact hmt
    obtain ⟨k, hk⟩ := List.getElem?_of_mem this
    exact ⟨k, (List.getElem?_eq_some_iff.1 hk).1, by rw [nodeY_of hk]; omega, by rw [nodeY_of hk]; omega⟩
  · cases hm
/-- A kid that has a word lies within its node. -/
theorem kid_within {t : List Node} (hT : Tree t) {i p : Nat} (hi : i < t.length) (hp : p < i) (hin : i < p + sz t p) {k : Nat} (hk : k < (leavesOf t).length) (h1 : i ≤ nodeY t k) (h2 : nodeY t k < i + sz t i) :
    (spanOf t (p : Int)).1 ≤ (spanOf t (i : Int)).1 ∧ (spanOf t (i : Int)).2.1 ≤ (spanOf t (p : Int)).2.1 := by
  have hpl : p < t.length := by omega
  obtain ⟨_, _, hle⟩ := tree_step hT hpl hp hin
  obtain ⟨c, hc, c1⟩ := cut_at t i
  obtain ⟨d, hd, d1⟩ := cut_at t (i + sz t i)
  obtain ⟨c', hc', c2⟩ := cut_at t p
  obtain ⟨d', hd', d2⟩ := cut_at t (p + sz t p)
  have hcd : c < d := by have := c1 k hk; have := (d1 k hk); omega
  have hcc : c' ≤ c := by
    rcases Nat.lt_or_ge c c' with h | h
    · have := (c2 c (by omega)).2 h
      have := (c1 c (by omega)).1 (by omega)
      omega
    · exact h
  have hdd : d ≤ d' := by
    rcases Nat.lt_or_ge d' d with h | h
    · have := (d1 d' (by omega)).2 h
      have := (d2 d' (by omega)).1 (by omega)
      omega
    · exact h
  rw [span_in hT hi, span_in hT hpl, (span_cut hc hd c1 d1).1 hcd, (span_cut hc' hd' c2 d2).1 (by omega)]
  dsimp only
  refine ⟨?_, fromY_mono t _ hdd⟩
  by_cases e : c' = c
  · rw [e]; exact Nat.le_refl _
  · exact Nat.le_trans (own_bounds (by omega)).2 (Nat.le_trans (fromY_mono t _ (show c' + 1 ≤ c by omega)) (own_bounds (by omega)).1)
end Go.Proofs.Ytihblifkbljgaaa
