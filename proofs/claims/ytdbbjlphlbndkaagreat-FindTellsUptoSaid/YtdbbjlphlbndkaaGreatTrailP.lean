/-
  The path to a node, plainly.
-/
import Derived.Test.YtdbbjlphlbndkaaGreatT3
namespace Go.Proofs.YtdbbjlphlbndkaaGreat.T
open Go.RowKit Go.Shelf

/-- The path to the node at i: the places among the kids, from the first node on. -/
def pathN (t : List Node) (i : Nat) : List Nat := if _h : 0 ≤ upN t i i ∧ (upN t i i).toNat < i then pathN t (upN t i i).toNat ++ [(kidsL t (upN t i i).toNat).idxOf i] else []
noncomputable def pathOf (t : List Node) (i : Int) : List Nat := if placeB t i then pathN t i.toNat else []

theorem path_zero (t : List Node) : pathN t 0 = [] := by rw [pathN, dif_neg (by omega)]
theorem path_some {t : List Node} {i k : Nat} (h : upN t i i = (k : Int)) : pathN t i = pathN t k ++ [(kidsL t k).idxOf i] := by
  have := upN_lt i h
  rw [pathN, dif_pos (by rw [h]; simp; omega), h]
  simp

theorem kidsFrom_ge_all {t : List Node} {e : Nat} : ∀ n k, e - k ≤ n → ∀ x ∈ kidsFrom t e k, k ≤ x := by
  intro n
  induction n with
  | zero => intro k h x hx; rw [kidsFrom_ge (by omega)] at hx; cases hx
  | succ n ih =>
    intro k h x hx
    rw [kidsFrom] at hx
    split at hx
    · rcases List.mem_cons.1 hx with rfl | hx
      · exact Nat.le_refl _
      · have := ih (k + max 1 (sz t k)) (by omega) x hx
        omega
    · cases hx
theorem kidsFrom_nodup {t : List Node} {e : Nat} : ∀ n k, e - k ≤ n → (kidsFrom t e k).Nodup := by
  intro n
  induction n with
  | zero => intro k h; rw [kidsFrom_ge (by omega)]; exact List.nodup_nil
  | succ n ih =>
    intro k h
    rw [kidsFrom]
    split
    · refine List.nodup_cons.2 ⟨fun hx => ?_, ih _ (by omega)⟩
      have := kidsFrom_ge_all _ _ (Nat.le_refl _) _ hx
      omega
    · exact List.nodup_nil
theorem kidsL_nodup (t : List Node) (i : Nat) : (kidsL t i).Nodup := kidsFrom_nodup _ _ (Nat.le_refl _)
theorem idx_nodup {l : List Nat} (hd : l.Nodup) {n k : Nat} (h : l[n]? = some k) : l.idxOf k = n := by
  obtain ⟨hn, e⟩ := List.getElem?_eq_some_iff.1 h
  subst e
  exact List.Nodup.idxOf_getElem hd n hn

theorem path_kid {t : List Node} (ht : Tree t) {a n k : Nat} (ha : a < t.length) (hn : (kidsL t a)[n]? = some k) : pathN t k = pathN t a ++ [n] := by
  obtain ⟨h1, h2, h3⟩ := kid_up ht ha (List.mem_of_getElem? hn)
  have := tree_node ht ha
  rw [upOf_in ht (by omega)] at h1
  rw [path_some h1, idx_nodup (kidsL_nodup t a) hn]

/-- Where the kids that are passed all end ahead of i, the next one begins at i or ahead of it; and there is one. -/
theorem kids_at {t : List Node} (ht : Tree t) {i a n : Nat} (ha : a < t.length) (h1 : a < i) (h2 : i < a + sz t a) (hp : ∀ m y, m < n → (kidsL t a)[m]? = some y → y + sz t y ≤ i) (_hn : n ≤ (kidsL t a).length) : ∃ k, (kidsL t a)[n]? = some k ∧ k ≤ i ∧ a < k ∧ k < t.length ∧ k + sz t k ≤ a + sz t a := by
  by_cases h : n < (kidsL t a).length
  · have hk := List.getElem?_eq_getElem h
    refine ⟨_, hk, ?_, ?_⟩
    · refine kids_next ht ha ((kidsL t a).take n) _ (a + 1) ⟨(kidsL t a).drop (n + 1), ?_⟩ (by omega) (by omega) (fun y hy => ?_)
      · show kidsL t a = _
        rw [List.getElem_cons_drop h, List.take_append_drop]
      · obtain ⟨m, hm, e⟩ := List.mem_iff_getElem.1 hy
        rw [List.length_take] at hm
        rw [List.getElem_take] at e
        exact hp m y (by omega) (by rw [List.getElem?_eq_getElem (by omega), e])
    · obtain ⟨h3, h4, h5⟩ := kid_up ht ha (List.mem_of_getElem? hk)
      have := tree_step ht ha h4 h5
      exact ⟨h4, this.1, this.2.2⟩
  · exfalso
    refine kids_hit ht ha h2 _ (a + 1) (Nat.le_refl _) (by omega) (by omega) (fun x hx => ?_)
    obtain ⟨m, hm⟩ := List.mem_iff_getElem?.1 hx
    exact hp m x (by have := (List.getElem?_eq_some_iff.1 hm).1; have h' : (kidsL t a).length = (kidsFrom t (a + sz t a) (a + 1)).length := rfl; omega) hm

theorem upN_spec {t : List Node} {i : Nat} : ∀ j k : Nat, upN t i j = (k : Int) → i < k + sz t k ∧ ∀ m, k < m → m < j → m + sz t m ≤ i := by
  intro j
  induction j with
  | zero => intro k h; simp [upN] at h
  | succ j ih =>
    intro k h
    unfold upN at h
    split at h
    · rename_i hc
      have : j = k := by omega
      subst this
      exact ⟨by omega, fun m a b => by omega⟩
    · rename_i hc
      obtain ⟨h1, h2⟩ := ih k h
      exact ⟨h1, fun m a b => by
        by_cases e : m = j
        · subst e; omega
        · exact h2 m a (by omega)⟩
theorem upN_none {t : List Node} {i : Nat} : ∀ j, upN t i j = -1 → ∀ m, m < j → m + sz t m ≤ i := by
  intro j
  induction j with
  | zero => intro h m hm; omega
  | succ j ih =>
    intro h m hm
    unfold upN at h
    split at h
    · omega
    · rename_i hc
      by_cases e : m = j
      · subst e; omega
      · exact ih h m (by omega)
/-- Each node but the first one is a kid of the one above it. -/
theorem up_kid {t : List Node} (ht : Tree t) {i : Nat} (h0 : 0 < i) (hi : i < t.length) : ∃ a n : Nat, upN t i i = (a : Int) ∧ a < i ∧ (kidsL t a)[n]? = some i := by
  rcases upN_cases t i i with h | ⟨a, h⟩
  · have := upN_none i h 0 h0
    rw [tree_sz0 ht] at this
    omega
  · have hlt := upN_lt i h
    obtain ⟨h1, h2⟩ := upN_spec i a h
    have ha : a < t.length := by omega
    have hit := kids_hit ht ha h1 _ (a + 1) (Nat.le_refl _) (by omega) (by omega)
    have : ∃ n k : Nat, (kidsL t a)[n]? = some k ∧ i < k + sz t k ∧ ∀ m y : Nat, m < n → (kidsL t a)[m]? = some y → y + sz t y ≤ i := by
      have hex : ∃ n : Nat, ∃ k : Nat, (kidsL t a)[n]? = some k ∧ i < k + sz t k := by
        apply Classical.byContradiction
        intro hc
        refine hit (fun x hx => ?_)
        obtain ⟨m, hm⟩ := List.mem_iff_getElem?.1 hx
        apply Classical.byContradiction
        intro h'
        exact hc ⟨m, x, hm, by omega⟩
      obtain ⟨n, hn⟩ := hex
      induction n using Nat.strongRecOn with
      | _ n ih =>
        by_cases hs : ∃ m : Nat, m < n ∧ ∃ k : Nat, (kidsL t a)[m]? = some k ∧ i < k + sz t k
        · obtain ⟨m, hm, hk⟩ := hs
          exact ih m hm hk
        · obtain ⟨k, hk, hik⟩ := hn
          refine ⟨n, k, hk, hik, fun m y hm hy => ?_⟩
          apply Classical.byContradiction
          intro h'
          exact hs ⟨m, hm, y, hy, by omega⟩
    obtain ⟨n, k, hk, hik, hall⟩ := this
    obtain ⟨k', hk', hle, hak, hkl, _⟩ := kids_at ht ha hlt h1 hall (by have := (List.getElem?_eq_some_iff.1 hk).1; omega)
    rw [hk] at hk'
    cases hk'
    refine ⟨a, n, h, hlt, ?_⟩
    by_cases e : k = i
    · rw [hk, e]
    · have := h2 k hak (by omega)
      omega
theorem path_len {t : List Node} (i : Nat) : (pathN t i).length ≤ i := by
  induction i using Nat.strongRecOn with
  | _ i ih =>
    rcases upN_cases t i i with h | ⟨k, h⟩
    · rw [pathN, dif_neg (by omega)]; exact Nat.zero_le _
    · have hk := upN_lt i h
      have := ih k hk
      rw [path_some h, List.length_append]
      simp
      omega
end Go.Proofs.YtdbbjlphlbndkaaGreat.T
