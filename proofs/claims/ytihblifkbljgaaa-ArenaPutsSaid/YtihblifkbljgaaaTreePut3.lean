/-
  A tree with another one in the place of a part: plain laws.
-/
import Derived.Test.YtihblifkbljgaaaTreePut2
namespace Go.Proofs.Ytihblifkbljgaaa

/-- Stretches lie within one another. -/
theorem tree_nest {t : List Node} (h : Tree t) {k j : Nat} (hk : k < t.length) (h1 : k < j) (h2 : j < k + sz t k) : j + sz t j ≤ k + sz t k := (tree_step h hk h1 h2).2.2
theorem tree_of {t : List Node} (h0 : ∃ x : Node, t[0]? = some x ∧ x.size = (t.length : Int)) (hl : ∀ k, k < t.length → ∃ x, t[k]? = some x ∧ Local x ∧ k + sz t k ≤ t.length) (hn : ∀ k j, k < t.length → k < j → j < k + sz t k → j + sz t j ≤ k + sz t k) : Tree t := by
  obtain ⟨x, hx, hs⟩ := h0
  have hz : sz t 0 = t.length := by rw [sz_of hx, hs]; simp
  have hl0 : 0 < t.length := (List.getElem?_eq_some_iff.1 hx).1
  refine ⟨⟨x, hx, hs⟩, by omega, by omega, fun m _ hm => ?_⟩
  obtain ⟨y, hy, hloc, hle⟩ := hl m (by omega)
  exact ⟨⟨⟨y, hy, hloc⟩, fun k a b => hn m k (by omega) a b⟩, by omega⟩
theorem tree_local {t : List Node} (h : Tree t) {k : Nat} (hk : k < t.length) : Local t[k] := (tree_good_at h hk).local (List.getElem?_eq_getElem hk)

section
variable {t s : List Node} {i : Nat}
theorem put_len (ht : Tree t) (hi : i < t.length) : (putL t i s).length = t.length - sz t i + s.length := by
  have := tree_node ht hi
  unfold putL
  rw [List.length_append, List.length_append, bumps_len _ _ _ _ (by omega), List.length_drop]
  omega
theorem put_at_lt (hi : i < t.length) {k : Nat} (hk : k < i) : (putL t i s)[k]? = some (bump i ((s.length : Int) - sz t i) (-1) k (t[k]'(by omega))) := by
  unfold putL
  rw [List.append_assoc, List.getElem?_append_left (by rw [bumps_len _ _ _ _ (by omega)]; exact hk), bumps_at (by omega) hk]
theorem put_at_in (hi : i < t.length) {k : Nat} (hk : k < s.length) : (putL t i s)[i + k]? = s[k]? := by
  have hb := bumps_len t i ((s.length : Int) - sz t i) (-1) (by omega)
  unfold putL
  rw [List.append_assoc, List.getElem?_append_right (by omega), hb, List.getElem?_append_left (by omega)]
  congr 1; omega
theorem put_at_gt (hi : i < t.length) (k : Nat) : (putL t i s)[i + s.length + k]? = t[i + sz t i + k]? := by
  have hb := bumps_len t i ((s.length : Int) - sz t i) (-1) (by omega)
  unfold putL
  rw [List.getElem?_append_right (by rw [List.length_append]; omega), List.length_append, hb, List.getElem?_drop]
  congr 1; omega
theorem put_sz_lt (ht : Tree t) (hi : i < t.length) {k : Nat} (hk : k < i) : sz (putL t i s) k = if i < k + sz t k then sz t k + s.length - sz t i else sz t k := by
  have hn := tree_node ht (show k < t.length by omega)
  rw [sz_of (put_at_lt hi hk)]
  unfold bump
  by_cases h : i < k + sz t k
  · have := tree_nest ht (show k < t.length by omega) hk h
    rw [if_pos ⟨by omega, by omega⟩, if_pos h]
    show (t[k].size + ((s.length : Int) - sz t i)).toNat = _
    omega
  · rw [if_neg (fun hh => by omega), if_neg h]
    omega
theorem put_sz_in (hi : i < t.length) {k : Nat} (hk : k < s.length) : sz (putL t i s) (i + k) = sz s k := by
  unfold sz; rw [put_at_in hi hk]
theorem put_sz_gt (hi : i < t.length) (k : Nat) : sz (putL t i s) (i + s.length + k) = sz t (i + sz t i + k) := by
  unfold sz; rw [put_at_gt hi k]; rfl
theorem put_tree (ht : Tree t) (hs : Tree s) (hi : i < t.length) : Tree (putL t i s) := by
  have hlen := put_len (s := s) ht hi
  have hni := tree_node ht hi
  have hs0 := tree_len hs
  have hss := tree_sz0 hs
  have ht0 := tree_sz0 ht
  refine tree_of ?_ (fun k hk => ?_) (fun k j hk h1 h2 => ?_)
  · by_cases h0 : i = 0
    · subst h0
      have e := put_at_in hi hs0
      obtain ⟨⟨x, hx, hxs⟩, _⟩ := hs
      exact ⟨x, by rw [Nat.add_zero] at e; rw [e, hx], by rw [hxs, hlen]; omega⟩
    · refine ⟨_, put_at_lt hi (show 0 < i by omega), ?_⟩
      have hn := tree_node ht (show 0 < t.length by omega)
      unfold bump
      rw [if_pos ⟨by omega, by omega⟩, hlen]
      show t[0].size + _ = _
      omega
  · by_cases hki : k < i
    · refine ⟨_, put_at_lt hi hki, ?_, ?_⟩
      · have hl := tree_local ht (show k < t.length by omega)
        have hn := tree_node ht (show k < t.length by omega)
        unfold bump
        split
        · rename_i hc
          have := tree_nest ht (show k < t.length by omega) hki (by omega)
          obtain ⟨a, b, c, d, e⟩ := hl
          refine ⟨a, b, ?_, fun ho => ?_, e⟩
          · show 1 ≤ t[k].size + _; omega
          · have := d ho; omega
        · exact hl
      · rw [put_sz_lt ht hi hki, hlen]
        have hn := tree_node ht (show k < t.length by omega)
        split
        · have := tree_nest ht (show k < t.length by omega) hki (by assumption)
          omega
        · omega
    · by_cases hks : k < i + s.length
      · obtain ⟨m, rfl⟩ : ∃ m, k = i + m := ⟨k - i, by omega⟩
        have hm : m < s.length := by omega
        have hn := tree_node hs hm
        refine ⟨s[m], by rw [put_at_in hi hm]; exact List.getElem?_eq_getElem hm, tree_local hs hm, ?_⟩
        rw [put_sz_in hi hm, hlen]
        omega
      · obtain ⟨m, rfl⟩ : ∃ m, k = i + s.length + m := ⟨k - i - s.length, by omega⟩
        have hm : i + sz t i + m < t.length := by omega
        have hn := tree_node ht hm
        refine ⟨t[i + sz t i + m], by rw [put_at_gt hi]; exact List.getElem?_eq_getElem hm, tree_local ht hm, ?_⟩
        rw [put_sz_gt hi, hlen]
        omega
  · have hkk : ∀ x, x < t.length → 1 ≤ sz t x ∧ x + sz t x ≤ t.length := fun x hx => ⟨(tree_node ht hx).1, (tree_node ht hx).2.1⟩
    by_cases hki : k < i
    · have hzk := put_sz_lt (s := s) ht hi hki
      have hnk := tree_node ht (show k < t.length by omega)
      by_cases hc : i < k + sz t k
      · rw [if_pos hc] at hzk
        have hki2 := tree_nest ht (show k < t.length by omega) hki hc
        by_cases hji : j < i
        · have hzj := put_sz_lt (s := s) ht hi hji
          have hnj := tree_nest ht (show k < t.length by omega) h1 (by omega)
          by_cases hcj : i < j + sz t j
          · rw [if_pos hcj] at hzj
            have := tree_nest ht (show j < t.length by omega) hji hcj
            omega
          · rw [if_neg hcj] at hzj
            omega
        · by_cases hjs : j < i + s.length
          · obtain ⟨m, rfl⟩ : ∃ m, j = i + m := ⟨j - i, by omega⟩
            have hm : m < s.length := by omega
            have hn := tree_node hs hm
            rw [put_sz_in hi hm]
            omega
          · obtain ⟨m, rfl⟩ : ∃ m, j = i + s.length + m := ⟨j - i - s.length, by omega⟩
            rw [put_sz_gt hi]
            have := tree_nest ht (show k < t.length by omega) (show k < i + sz t i + m by omega) (by omega)
            omega
      · rw [if_neg hc] at hzk
        have hji : j < i := by omega
        have hzj := put_sz_lt (s := s) ht hi hji
        have hnj := tree_nest ht (show k < t.length by omega) h1 (by omega)
        rw [if_neg (by omega)] at hzj
        omega
    · by_cases hks : k < i + s.length
      · obtain ⟨m, rfl⟩ : ∃ m, k = i + m := ⟨k - i, by omega⟩
        have hm : m < s.length := by omega
        have hzk := put_sz_in (s := s) hi hm
        have hn := tree_node hs hm
        obtain ⟨q, rfl⟩ : ∃ q, j = i + q := ⟨j - i, by omega⟩
        have hq : q < s.length := by omega
        rw [put_sz_in hi hq]
        have := tree_nest hs hm (show m < q by omega) (by omega)
        omega
      · obtain ⟨m, rfl⟩ : ∃ m, k = i + s.length + m := ⟨k - i - s.length, by omega⟩
        obtain ⟨q, rfl⟩ : ∃ q, j = i + s.length + q := ⟨j - i - s.length, by omega⟩
        rw [put_sz_gt hi] at h2 ⊢
        rw [put_sz_gt hi]
        have := tree_nest ht (show i + sz t i + m < t.length by omega) (show i + sz t i + m < i + sz t i + q by omega) (by omega)
        omega
theorem put_sub (ht : Tree t) (hs : Tree s) (hi : i < t.length) : subL (putL t i s) i = s := by
  have hs0 := tree_len hs
  have hz : sz (putL t i s) i = s.length := by
    have := put_sz_in (s := s) hi hs0
    rw [Nat.add_zero] at this
    rw [this, tree_sz0 hs]
  apply List.ext_getElem?
  intro k
  by_cases hk : k < s.length
  · rw [subL_at (by omega), put_at_in hi hk]
  · have hl := subL_len (put_tree ht hs hi) (i := i) (by rw [put_len ht hi]; have := tree_node ht hi; omega)
    rw [List.getElem?_eq_none (by omega), List.getElem?_eq_none (by omega)]
theorem put_back (ht : Tree t) (hs : Tree s) (hi : i < t.length) : putL (putL t i s) i (subL t i) = t := by
  have hu := put_tree ht hs hi
  have hs0 := tree_len hs
  have hni := tree_node ht hi
  have hul := put_len (s := s) ht hi
  have hz : sz (putL t i s) i = s.length := by
    have := put_sz_in (s := s) hi hs0
    rw [Nat.add_zero] at this
    rw [this, tree_sz0 hs]
  have hil : i < (putL t i s).length := by omega
  have hsub := sub_tree ht hi
  have hsl := subL_len ht hi
  have hl := put_len (s := subL t i) hu hil
  apply List.ext_getElem?
  intro k
  by_cases hki : k < i
  · have hk2 : k < (putL t i s).length := by omega
    rw [put_at_lt hil hki, List.getElem?_eq_getElem (show k < t.length by omega)]
    have e : (putL t i s)[k] = bump i ((s.length : Int) - sz t i) (-1) k t[k] := by
      have := put_at_lt (s := s) hi hki
      rw [List.getElem?_eq_getElem hk2] at this
      exact Option.some.inj this
    rw [e, hz, hsl]
    have hn := tree_node ht (show k < t.length by omega)
    by_cases hc : (i : Int) < k + t[k].size
    · have := tree_nest ht (show k < t.length by omega) hki (by omega)
      have e2 : bump i ((s.length : Int) - sz t i) (-1) k t[k] = { t[k] with size := t[k].size + ((s.length : Int) - sz t i) } := by
        unfold bump; rw [if_pos ⟨by omega, hc⟩]
      rw [e2]
      unfold bump
      rw [if_pos]
      · have : ({ t[k] with size := t[k].size + ((s.length : Int) - sz t i) + ((sz t i : Int) - s.length) } : Node) = t[k] := by
          rw [show t[k].size + ((s.length : Int) - sz t i) + ((sz t i : Int) - s.length) = t[k].size by omega]
        exact congrArg some this
      · refine ⟨by omega, ?_⟩
        show (i : Int) < k + (t[k].size + ((s.length : Int) - sz t i))
        omega
    · have e2 : ∀ d : Int, bump i d (-1) k t[k] = t[k] := fun d => by
        unfold bump; rw [if_neg (fun h => hc h.2)]
      rw [e2, e2]
  · by_cases hks : k < i + sz t i
    · obtain ⟨m, rfl⟩ : ∃ m, k = i + m := ⟨k - i, by omega⟩
      rw [put_at_in hil (by omega), subL_at (by omega)]
    · obtain ⟨m, rfl⟩ : ∃ m, k = i + (subL t i).length + m := ⟨k - i - sz t i, by omega⟩
      rw [put_at_gt hil, hz, put_at_gt hi, hsl]
theorem put_up (ht : Tree t) (hs : Tree s) (hi : i < t.length) : upOf (putL t i s) i = upOf t i := by
  have hu := put_tree ht hs hi
  have hil : i < (putL t i s).length := by
    have := put_len (s := s) ht hi
    have := tree_node ht hi
    have := tree_len hs
    omega
  rw [upOf_in hu hil, upOf_in ht hi]
  have : ∀ j, j ≤ i → upN (putL t i s) i j = upN t i j := by
    intro j
    induction j with
    | zero => intro _; rfl
    | succ j ih =>
      intro hj
      unfold upN
      rw [ih (by omega), put_sz_lt ht hi (show j < i by omega)]
      have hn := tree_node ht (show j < t.length by omega)
      by_cases hc : i < j + sz t j
      · have := tree_nest ht (show j < t.length by omega) (show j < i by omega) hc
        have hs0 := tree_len hs
        rw [if_pos hc, if_pos hc, if_pos (by omega)]
      · simp only [if_neg hc]
  exact this i (Nat.le_refl _)
end
end Go.Proofs.Ytihblifkbljgaaa
