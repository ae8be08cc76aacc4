/-
  Parts of trees: plain laws.
-/
import Derived.Test.YtihblifkbljgaaaTreeSub2
namespace Go.Proofs.Ytihblifkbljgaaa

/-- The part of the node at i. -/
def subL (t : List Node) (i : Nat) : List Node := (t.drop i).take (sz t i)

theorem tree_good_at {t : List Node} (h : Tree t) {i : Nat} (hi : i < t.length) : Good t i t.length := by
  by_cases h0 : i = 0
  · subst h0; exact h.good
  · have h1 := tree_sz0 h
    have := h.good.inner (k := i) (by omega) (by omega)
    exact this.mono (by omega)
theorem subOf_in {t : List Node} (h : Tree t) {i : Nat} (hi : i < t.length) : subOf t (i : Int) = subL t i := by
  unfold subOf subL
  rw [if_pos (placeB_iff.2 ⟨by omega, by omega, h⟩)]
  rfl
theorem subL_len {t : List Node} (h : Tree t) {i : Nat} (hi : i < t.length) : (subL t i).length = sz t i := by
  have := tree_node h hi
  unfold subL
  simp
  omega
theorem subL_at {t : List Node} {i m : Nat} (hm : m < sz t i) : (subL t i)[m]? = t[i + m]? := by
  unfold subL
  rw [List.getElem?_take_of_lt hm, List.getElem?_drop]
theorem subL_sz {t : List Node} {i m : Nat} (hm : m < sz t i) : sz (subL t i) m = sz t (i + m) := by
  unfold sz
  rw [subL_at hm]
theorem sub_tree {t : List Node} (h : Tree t) {i : Nat} (hi : i < t.length) : Tree (subL t i) := by
  have hl := subL_len h hi
  obtain ⟨n1, n2, n3⟩ := tree_node h hi
  have hg := tree_good_at h hi
  have h0 : sz (subL t i) 0 = sz t i := by rw [subL_sz (by omega)]; rfl
  have hx : (subL t i)[0]? = some t[i] := by rw [subL_at (by omega)]; exact List.getElem?_eq_getElem hi
  refine ⟨⟨_, hx, by rw [n3, hl]⟩, ?_⟩
  rw [hl]
  refine ⟨by omega, by omega, fun m _ hm => ?_⟩
  rw [h0] at hm ⊢
  obtain ⟨⟨⟨x, hx2, hloc⟩, ho⟩, hle⟩ := hg.2.2 (i + m) (by omega) (by omega)
  have hm0 : m < sz t i := by omega
  refine ⟨⟨⟨x, by rw [subL_at hm0]; exact hx2, hloc⟩, fun k hk1 hk2 => ?_⟩, by rw [subL_sz hm0]; omega⟩
  rw [subL_sz hm0] at hk2 ⊢
  rw [subL_sz (by omega)]
  have := ho (i + k) (by omega) (by omega)
  omega
/-- The parts of the kids from k on are what lies from k on to the end. -/
theorem parts_flat {t : List Node} (h : Tree t) {i : Nat} (hi : i < t.length) : ∀ n k, i + sz t i - k ≤ n → i < k → k ≤ i + sz t i → ((kidsFrom t (i + sz t i) k).map (subL t)).flatten = (t.drop k).take (i + sz t i - k) := by
  have hn := tree_node h hi
  intro n
  induction n with
  | zero =>
    intro k h1 h2 h3
    rw [kidsFrom_ge (by omega), show i + sz t i - k = 0 by omega]
    simp
  | succ n ih =>
    intro k h1 h2 h3
    by_cases hk : k < i + sz t i
    · obtain ⟨a, b, c⟩ := tree_step h hi h2 hk
      rw [kidsFrom_lt hk b, List.map_cons, List.flatten_cons, ih (k + sz t k) (by omega) (by omega) c]
      unfold subL
      rw [show i + sz t i - k = sz t k + (i + sz t i - (k + sz t k)) by omega, List.take_add, List.drop_drop]
    · rw [kidsFrom_ge hk, show i + sz t i - k = 0 by omega]
      simp
/-- A tree is its first node, and the parts of its kids. -/
theorem one_parts {t : List Node} (h : Tree t) {i : Nat} (hi : i < t.length) : oneOf t[i] ((kidsL t i).map (subL t)) = subL t i := by
  obtain ⟨n1, n2, n3⟩ := tree_node h hi
  have hf := parts_flat h hi _ (i + 1) (Nat.le_refl _) (by omega) (by omega)
  unfold oneOf kidsL
  rw [hf]
  have e : ({ t[i] with size := (((t.drop (i + 1)).take (i + sz t i - (i + 1))).length : Int) + 1 } : Node) = t[i] := by
    have : (((t.drop (i + 1)).take (i + sz t i - (i + 1))).length : Int) + 1 = t[i].size := by
      rw [n3]; simp; omega
    rw [this]
  rw [e]
  unfold subL
  obtain ⟨m, hm⟩ : ∃ m, sz t i = m + 1 := ⟨sz t i - 1, by omega⟩
  rw [hm, List.drop_eq_getElem_cons hi, List.take_succ_cons, show i + (m + 1) - (i + 1) = m by omega]
theorem kid_up {t : List Node} (h : Tree t) {i : Nat} (hi : i < t.length) {k : Nat} (hk : k ∈ kidsL t i) : upOf t (k : Int) = i ∧ i < k ∧ k < i + sz t i := by
  obtain ⟨pre, r, e⟩ := List.append_of_mem hk
  have hp : (pre ++ [k]) <+: kidsL t i := ⟨r, by rw [e]; simp⟩
  have hu := up_found h hi hp
  have hq : i < k ∧ k < i + sz t i := by
    obtain ⟨_, a, b⟩ := past_all h hi pre (i + 1) ⟨r, e⟩ (by omega) (fun m a b => by omega)
    exact ⟨b, a⟩
  have hn := tree_node h hi
  refine ⟨?_, hq⟩
  rw [upOf_in h (by omega), hu]
theorem kidsOf_in {t : List Node} (h : Tree t) {i : Nat} (hi : i < t.length) : kidsOf t (i : Int) = kidsL t i := by
  unfold kidsOf
  rw [if_pos (placeB_iff.2 ⟨by omega, by omega, h⟩)]
  rfl
end Go.Proofs.Ytihblifkbljgaaa
