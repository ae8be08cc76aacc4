/-
  Trees of which the nodes have as many kids, in their order: their nodes stand alike.
-/
import Derived.Test.YtbjheaiiajpifaaTrailP
namespace Go.Proofs.Ytbjheaiiajpifaa.T
open Go.RowKit Go.Shelf

theorem kidsFrom_sorted {t : List Node} {e : Nat} : ∀ n k, e - k ≤ n → (kidsFrom t e k).Pairwise (· < ·) := by
  intro n
  induction n with
  | zero => intro k h; rw [kidsFrom_ge (by omega)]; exact List.Pairwise.nil
  | succ n ih =>
    intro k h
    rw [kidsFrom]
    split
    · refine List.pairwise_cons.2 ⟨fun x hx => ?_, ih _ (by omega)⟩
      have := kidsFrom_ge_all _ _ (Nat.le_refl _) _ hx
      omega
    · exact List.Pairwise.nil
theorem len_le_of_sub : ∀ (l m : List Nat), l.Nodup → (∀ x ∈ l, x ∈ m) → l.length ≤ m.length := by
  intro l
  induction l with
  | nil => intro m _ _; exact Nat.zero_le _
  | cons y l ih =>
    intro m hn hs
    obtain ⟨h1, h2⟩ := List.nodup_cons.1 hn
    have hy := hs y (by simp)
    have := ih (m.erase y) h2 (fun x hx => (List.mem_erase_of_ne (fun e => by subst e; exact h1 hx)).2 (hs x (by simp [hx])))
    rw [List.length_erase_of_mem hy] at this
    have hp : 0 < m.length := List.length_pos_of_mem hy
    rw [List.length_cons]
    omega
theorem len_eq_of_mem {l m : List Nat} (hl : l.Nodup) (hm : m.Nodup) (h : ∀ x, x ∈ l ↔ x ∈ m) : l.length = m.length :=
  Nat.le_antisymm (len_le_of_sub l m hl (fun x hx => (h x).1 hx)) (len_le_of_sub m l hm (fun x hx => (h x).2 hx))

/-- Those below i that stand right beneath u. -/
def kidsLow (t : List Node) (u i : Nat) : List Nat := (List.range i).filter fun j => decide (upN t j j = (u : Int))
theorem kidsLow_nodup (t : List Node) (u i : Nat) : (kidsLow t u i).Nodup := List.Nodup.sublist List.filter_sublist List.nodup_range
theorem mem_kidsLow {t : List Node} {u i x : Nat} : x ∈ kidsLow t u i ↔ x < i ∧ upN t x x = (u : Int) := by
  unfold kidsLow
  rw [List.mem_filter, List.mem_range, decide_eq_true_iff]
theorem up_zero (t : List Node) : upN t 0 0 = -1 := rfl
theorem mem_kids {t : List Node} (ht : Tree t) {u x : Nat} (hx : x < t.length) (hu : u < t.length) : x ∈ kidsL t u ↔ upN t x x = (u : Int) := by
  refine ⟨fun h => ?_, fun h => ?_⟩
  · have := (kid_up ht hu h).1
    rwa [upOf_in ht hx] at this
  · by_cases h0 : x = 0
    · subst h0; rw [up_zero] at h; omega
    · obtain ⟨a, n, h1, _, h2⟩ := up_kid ht (by omega) hx
      rw [h1] at h
      have : a = u := by omega
      subst this
      exact List.mem_of_getElem? h2
/-- All kids below i: as many as the node has. -/
theorem low_all {t : List Node} (ht : Tree t) {u i : Nat} (hu : u < t.length) (hi : i ≤ t.length) (h : u + sz t u ≤ i) : (kidsLow t u i).length = (kidsL t u).length := by
  refine len_eq_of_mem (kidsLow_nodup _ _ _) (kidsL_nodup _ _) (fun x => ?_)
  rw [mem_kidsLow]
  refine ⟨fun ⟨h1, h2⟩ => (mem_kids ht (by omega) hu).2 h2, fun hx => ?_⟩
  obtain ⟨_, h2, h3⟩ := kid_up ht hu hx
  exact ⟨by omega, (mem_kids ht (by omega) hu).1 hx⟩
/-- The kid at n: n kids are below it. -/
theorem low_at {t : List Node} (ht : Tree t) {u n i : Nat} (hu : u < t.length) (hn : (kidsL t u)[n]? = some i) : (kidsLow t u i).length = n := by
  obtain ⟨hlt, e⟩ := List.getElem?_eq_some_iff.1 hn
  have hi := (kid_up ht hu (List.mem_of_getElem? hn)).2
  have hnode := tree_node ht hu
  have hs : (kidsL t u).Pairwise (· < ·) := kidsFrom_sorted _ _ (Nat.le_refl _)
  have : (kidsLow t u i).length = ((kidsL t u).take n).length := by
    refine len_eq_of_mem (kidsLow_nodup _ _ _) (List.Nodup.sublist (List.take_sublist _ _) (kidsL_nodup _ _)) (fun x => ?_)
    rw [mem_kidsLow]
    refine ⟨fun ⟨h1, h2⟩ => ?_, fun hx => ?_⟩
    · have hm := (mem_kids ht (by omega) hu).2 h2
      obtain ⟨m, hm1, hm2⟩ := List.mem_iff_getElem.1 hm
      have : m < n := by
        apply Classical.byContradiction
        intro hc
        by_cases e2 : m = n
        · subst e2; omega
        · have := List.pairwise_iff_getElem.1 hs n m hlt hm1 (by omega)
          omega
      exact List.mem_iff_getElem.2 ⟨m, by rw [List.length_take]; omega, by rw [List.getElem_take]; exact hm2⟩
    · obtain ⟨m, hm1, hm2⟩ := List.mem_iff_getElem.1 hx
      rw [List.length_take] at hm1
      rw [List.getElem_take] at hm2
      have := List.pairwise_iff_getElem.1 hs m n (by omega) hlt (by omega)
      refine ⟨by omega, (mem_kids ht (by omega) hu).1 (List.mem_iff_getElem.2 ⟨m, by omega, hm2⟩)⟩
  rw [this, List.length_take]
  omega
theorem kidsLow_eq {s t : List Node} {i : Nat} (h : ∀ j, j < i → upN s j j = upN t j j) (u : Nat) : kidsLow s u i = kidsLow t u i := by
  unfold kidsLow
  exact List.filter_congr (fun j hj => by rw [h j (List.mem_range.1 hj)])

/-- How many kids a node has. -/
def arity (t : List Node) (i : Nat) : Nat := (kidsL t i).length
/-- Where the nodes ahead have as many kids, a node stands beneath the same one. -/
theorem up_alike {s t : List Node} (hs : Tree s) (ht : Tree t) {N : Nat} (h : ∀ j, j < N → arity s j = arity t j) : ∀ i, i ≤ N → i < s.length → i < t.length → upN s i i = upN t i i ∧ (0 < i → ∃ a n : Nat, a < i ∧ (kidsL s a)[n]? = some i ∧ (kidsL t a)[n]? = some i) := by
  intro i
  induction i using Nat.strongRecOn with
  | _ i ih =>
    intro hN h1 h2
    by_cases h0 : i = 0
    · subst h0; exact ⟨rfl, fun h => by omega⟩
    · obtain ⟨a, n, ha, hai, hn⟩ := up_kid hs (by omega) h1
      obtain ⟨b, m, hb, hbi, hm⟩ := up_kid ht (by omega) h2
      have hlow := kidsLow_eq (s := s) (t := t) (i := i) (fun j hj => (ih j hj (by omega) (by omega) (by omega)).1)
      have la := low_at hs (by omega) hn
      have lb := low_at ht (by omega) hm
      have hn1 := (List.getElem?_eq_some_iff.1 hn).1
      have hm1 := (List.getElem?_eq_some_iff.1 hm).1
      have hab : a = b := by
        apply Classical.byContradiction
        intro hne
        rcases Nat.lt_or_ge a b with hlt | hge
        · have h3 := (upN_spec i a ha).2 b hlt hbi
          have h4 := low_all hs (u := b) (i := i) (by omega) (by omega) h3
          rw [hlow] at h4
          have := h b (by omega)
          unfold arity at this
          omega
        · have h3 := (upN_spec i b hb).2 a (by omega) hai
          have h4 := low_all ht (u := a) (i := i) (by omega) (by omega) h3
          rw [← hlow] at h4
          have := h a (by omega)
          unfold arity at this
          omega
      subst hab
      have hnm : n = m := by rw [hlow] at la; omega
      subst hnm
      exact ⟨by rw [ha, hb], fun _ => ⟨a, n, hai, hn, hm⟩⟩
/-- And has the same path. -/
theorem path_alike {s t : List Node} (hs : Tree s) (ht : Tree t) {N : Nat} (h : ∀ j, j < N → arity s j = arity t j) : ∀ i, i ≤ N → i < s.length → i < t.length → pathN s i = pathN t i := by
  intro i
  induction i using Nat.strongRecOn with
  | _ i ih =>
    intro hN h1 h2
    by_cases h0 : i = 0
    · subst h0; rw [path_zero, path_zero]
    · obtain ⟨a, n, ha, hn, hm⟩ := (up_alike hs ht h i hN h1 h2).2 (by omega)
      rw [path_kid hs (by omega) hn, path_kid ht (by omega) hm, ih a ha (by omega) (by omega) (by omega)]
/-- As many kids all along: as many nodes. -/
theorem len_alike {s t : List Node} (hs : Tree s) (ht : Tree t) (h : ∀ j, j < min s.length t.length → arity s j = arity t j) : s.length = t.length := by
  have key : ∀ {s t : List Node}, Tree s → Tree t → (∀ j, j < min s.length t.length → arity s j = arity t j) → ¬ s.length < t.length := by
    intro s t hs ht h hlt
    have hl := tree_len hs
    obtain ⟨b, m, hb, hbi, hm⟩ := up_kid ht (i := s.length) hl hlt
    have hlow := kidsLow_eq (s := s) (t := t) (i := s.length) (fun j hj => (up_alike hs ht (N := s.length) (fun j hj => h j (by omega)) j (by omega) hj (by omega)).1)
    have hnode := tree_node hs hbi
    have h4 := low_all hs (u := b) (i := s.length) hbi (Nat.le_refl _) hnode.2.1
    have lb := low_at ht (by omega) hm
    have hm1 := (List.getElem?_eq_some_iff.1 hm).1
    rw [hlow] at h4
    have := h b (by omega)
    unfold arity at this
    omega
  have k1 := key hs ht h
  have k2 := key ht hs (fun j hj => (h j (by omega)).symm)
  omega
/-- And as large ones. -/
theorem sz_alike {s t : List Node} (hs : Tree s) (ht : Tree t) (h : ∀ j, j < min s.length t.length → arity s j = arity t j) : ∀ i, i < s.length → sz s i = sz t i := by
  have hl := len_alike hs ht h
  have hup : ∀ i, i < s.length → upN s i i = upN t i i := fun i hi => (up_alike hs ht (N := s.length) (fun j hj => h j (by omega)) i (by omega) hi (by omega)).1
  have key : ∀ {s t : List Node}, Tree s → Tree t → s.length = t.length → (∀ i, i < s.length → upN s i i = upN t i i) → ∀ a, a < s.length → (∀ k, a < k → k < s.length → sz s k = sz t k) → ¬ sz s a < sz t a := by
    intro s t hs ht hl hup a ha hk hlt
    have h1 := (tree_node hs ha).1
    refine kids_hit ht (i := a + sz s a) (a := a) (by omega) (by omega) _ (a + 1) (Nat.le_refl _) (by omega) (by omega) (fun x hx => ?_)
    obtain ⟨_, h2, h3⟩ := kid_up ht (by omega) hx
    have hn := tree_node ht (k := a) (by omega)
    have hxs : x ∈ kidsL s a := (mem_kids hs (by omega) ha).2 (by rw [hup x (by omega)]; exact (mem_kids ht (by omega) (by omega)).1 hx)
    obtain ⟨_, h4, h5⟩ := kid_up hs ha hxs
    have := (tree_step hs ha h4 h5).2.2
    rw [← hk x h2 (by omega)]
    exact this
  have main : ∀ n i, s.length - i ≤ n → i < s.length → sz s i = sz t i := by
    intro n
    induction n with
    | zero => intro i h1 h2; omega
    | succ n ih =>
      intro i h1 h2
      have k1 := key hs ht hl hup i h2 (fun k hk1 hk2 => ih k (by omega) hk2)
      have k2 := key ht hs hl.symm (fun j hj => (hup j (by omega)).symm) i (by omega) (fun k hk1 hk2 => (ih k (by omega) (by omega)).symm)
      omega
  exact fun i hi => main _ i (Nat.le_refl _) hi
end Go.Proofs.Ytbjheaiiajpifaa.T
