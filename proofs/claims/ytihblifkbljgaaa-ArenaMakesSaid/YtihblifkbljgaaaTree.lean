/-
  When nodes are a tree: plain laws.
-/
import Derived.Test.YtihblifkbljgaaaNodes
namespace Go.Proofs.Ytihblifkbljgaaa

def openK (k : Int) : Prop := k = 1 ∨ k = 2
def textedK (k : Int) : Prop := k = 3 ∨ k = 4
instance (k : Int) : Decidable (openK k) := inferInstanceAs (Decidable (_ ∨ _))
instance (k : Int) : Decidable (textedK k) := inferInstanceAs (Decidable (_ ∨ _))

/-- A node by itself is as it must be. -/
def Local (x : Node) : Prop := 1 ≤ x.kind ∧ x.kind ≤ 6 ∧ 1 ≤ x.size ∧ (¬ openK x.kind → x.size = 1) ∧ (¬ textedK x.kind → x.lead = [] ∧ x.text = ⟨#[]⟩)

/-- How many nodes the node at a place and all beneath it are. -/
def sz (t : List Node) (i : Nat) : Nat := match t[i]? with | some x => x.size.toNat | none => 0
/-- The node at m is as it must be, and what lies within its stretch ends there. -/
def Ok (t : List Node) (m : Nat) : Prop := (∃ x, t[m]? = some x ∧ Local x) ∧ ∀ k, m < k → k < m + sz t m → k + sz t k ≤ m + sz t m
/-- The stretch of the node at i is a part of a tree that ends at e. -/
def Good (t : List Node) (i e : Nat) : Prop := 1 ≤ sz t i ∧ i + sz t i ≤ e ∧ ∀ m, i ≤ m → m < i + sz t i → Ok t m ∧ m + sz t m ≤ i + sz t i
/-- Nodes are a tree. -/
def Tree (t : List Node) : Prop := (∃ x : Node, t[0]? = some x ∧ x.size = (t.length : Int)) ∧ Good t 0 t.length

noncomputable def treeB (t : List Node) : Bool := @decide (Tree t) (Classical.propDecidable _)
noncomputable def goodB (t : List Node) (i e : Nat) : Bool := @decide (Good t i e) (Classical.propDecidable _)
theorem treeB_iff {t : List Node} : treeB t = true ↔ Tree t := by unfold treeB; exact @decide_eq_true_iff _ (Classical.propDecidable _)
theorem goodB_iff {t : List Node} {i e : Nat} : goodB t i e = true ↔ Good t i e := by unfold goodB; exact @decide_eq_true_iff _ (Classical.propDecidable _)
theorem treeB_false {t : List Node} (h : ¬ Tree t) : treeB t = false := by rw [Bool.eq_false_iff]; exact fun e => h (treeB_iff.1 e)
theorem goodB_false {t : List Node} {i e : Nat} (h : ¬ Good t i e) : goodB t i e = false := by rw [Bool.eq_false_iff]; exact fun e => h (goodB_iff.1 e)

theorem sz_of {t : List Node} {i : Nat} {x : Node} (h : t[i]? = some x) : sz t i = x.size.toNat := by unfold sz; rw [h]

theorem Good.local {t : List Node} {i e : Nat} {x : Node} (h : Good t i e) (hx : t[i]? = some x) : Local x := by
  obtain ⟨h1, _, h3⟩ := h
  obtain ⟨⟨⟨y, hy, hl⟩, _⟩, _⟩ := h3 i (Nat.le_refl _) (by omega)
  rw [hx] at hy; cases hy; exact hl
/-- Each node within a good stretch has a good one. -/
theorem Good.inner {t : List Node} {i e k : Nat} (h : Good t i e) (h1 : i < k) (h2 : k < i + sz t i) : Good t k (i + sz t i) := by
  obtain ⟨_, _, h3⟩ := h
  obtain ⟨⟨⟨x, hx, hl⟩, ho⟩, hk⟩ := h3 k (by omega) h2
  refine ⟨by rw [sz_of hx]; have := hl.2.2.1; omega, hk, fun m a b => ?_⟩
  obtain ⟨h4, _⟩ := h3 m (by omega) (by omega)
  refine ⟨h4, ?_⟩
  by_cases e : m = k
  · subst e; exact Nat.le_refl _
  · exact ho m (by omega) b
theorem Good.mono {t : List Node} {i e e' : Nat} (h : Good t i e) (he : e ≤ e') : Good t i e' := ⟨h.1, Nat.le_trans h.2.1 he, h.2.2⟩

/-- All the kids before k of the node at i are good. -/
def KidsTo (t : List Node) (i k : Nat) : Prop := ∀ m, i < m → m < k → Ok t m ∧ m + sz t m ≤ i + sz t i
theorem KidsTo.start (t : List Node) (i : Nat) : KidsTo t i (i + 1) := fun m h1 h2 => by omega
theorem KidsTo.next {t : List Node} {i k : Nat} (h : KidsTo t i k) (hg : Good t k (i + sz t i)) : KidsTo t i (k + sz t k) := fun m h1 h2 => by
  by_cases e : m < k
  · exact h m h1 e
  · obtain ⟨a, b⟩ := hg.2.2 m (by omega) h2
    exact ⟨a, by have := hg.2.1; omega⟩
theorem KidsTo.good {t : List Node} {i e : Nat} {x : Node} (hx : t[i]? = some x) (hl : Local x) (he : i + sz t i ≤ e) (h : KidsTo t i (i + sz t i)) : Good t i e := by
  have h1 : 1 ≤ sz t i := by rw [sz_of hx]; have := hl.2.2.1; omega
  refine ⟨h1, he, fun m a b => ?_⟩
  by_cases em : m = i
  · subst em
    exact ⟨⟨⟨x, hx, hl⟩, fun k c d => (h k c d).2⟩, Nat.le_refl _⟩
  · exact h m (by omega) b

theorem Tree.good {t : List Node} (h : Tree t) : Good t 0 t.length := h.2
theorem tree_len {t : List Node} (h : Tree t) : 0 < t.length := by
  obtain ⟨⟨x, hx, _⟩, _⟩ := h
  exact (List.getElem?_eq_some_iff.1 hx).1
theorem tree_sz0 {t : List Node} (h : Tree t) : sz t 0 = t.length := by
  obtain ⟨⟨x, hx, hs⟩, _⟩ := h
  rw [sz_of hx, hs]; simp

/-! ### The same by a walk with a stack of ends. -/
/-- Before node i comes up: the ends that are still open, the innermost first. -/
structure Stack (t : List Node) (i : Nat) (st : List Nat) : Prop where
  ok : ∀ m, m < i → (∃ x, t[m]? = some x ∧ Local x) ∧ m + sz t m ≤ t.length
  lam : ∀ m k, m < k → k < i → k < m + sz t m → k + sz t k ≤ m + sz t m
  has : ∀ m, m < i → i < m + sz t m → m + sz t m ∈ st
  from_ : ∀ e ∈ st, e = t.length ∨ ∃ m, m < i ∧ e = m + sz t m
  sorted : st.Pairwise (· ≤ ·)
  ge : ∀ e ∈ st, i ≤ e
  top : t.length ∈ st

theorem Stack.start (t : List Node) : Stack t 0 [t.length] :=
  ⟨fun m h => by omega, fun m k h1 h2 => by omega, fun m h => by omega, fun e he => by simp at he; exact .inl he, by simp, fun e _ => Nat.zero_le _, by simp⟩
/-- An end that is come to is struck. -/
theorem Stack.pop {t : List Node} {i : Nat} {st : List Nat} (h : Stack t i (i :: st)) (hi : i < t.length) : Stack t i st :=
  ⟨h.ok, h.lam, fun m a b => by
    have := h.has m a b
    rw [List.mem_cons] at this
    rcases this with e | e
    · omega
    · exact e, fun e he => h.from_ e (by simp [he]), (List.pairwise_cons.1 h.sorted).2, fun e he => h.ge e (by simp [he]), by
    have := h.top
    rw [List.mem_cons] at this
    rcases this with e | e
    · omega
    · exact e⟩
/-- The node at i, of which all was found right, is put upon it. -/
theorem Stack.push {t : List Node} {i top : Nat} {st : List Nat} {x : Node} (h : Stack t i (top :: st)) (hne : top ≠ i) (hx : t[i]? = some x) (hl : Local x) (hs : i + sz t i ≤ top) : Stack t (i + 1) ((i + sz t i) :: top :: st) := by
  have h1 : 1 ≤ sz t i := by rw [sz_of hx]; have := hl.2.2.1; omega
  have hgt : ∀ e ∈ top :: st, i < e := by
    intro e he
    have hp := List.pairwise_cons.1 h.sorted
    rw [List.mem_cons] at he
    have := h.ge top (by simp)
    rcases he with rfl | he
    · omega
    · have := hp.1 e he; omega
  have htop : top ≤ t.length := by
    have hp := List.pairwise_cons.1 h.sorted
    have := h.top
    rw [List.mem_cons] at this
    rcases this with e | e
    · omega
    · exact hp.1 _ e
  refine ⟨fun m hm => ?_, fun m k a b c => ?_, fun m a b => ?_, fun e he => ?_, ?_, fun e he => ?_, by simp [h.top]⟩
  · by_cases e : m = i
    · subst e; exact ⟨⟨x, hx, hl⟩, by omega⟩
    · exact h.ok m (by omega)
  · by_cases e : k = i
    · subst e
      have hm := h.has m (by omega) c
      have hp := List.pairwise_cons.1 h.sorted
      rw [List.mem_cons] at hm
      rcases hm with e | e
      · omega
      · have := hp.1 _ e; omega
    · exact h.lam m k a (by omega) c
  · by_cases e : m = i
    · subst e; simp
    · have := h.has m (by omega) (by omega)
      simp only [List.mem_cons] at this ⊢
      exact .inr this
  · rw [List.mem_cons] at he
    rcases he with rfl | he
    · exact .inr ⟨i, by omega, rfl⟩
    · rcases h.from_ e he with h | ⟨m, a, b⟩
      · exact .inl h
      · exact .inr ⟨m, by omega, b⟩
  · refine List.pairwise_cons.2 ⟨fun e he => ?_, h.sorted⟩
    have hp := List.pairwise_cons.1 h.sorted
    rw [List.mem_cons] at he
    rcases he with rfl | he
    · exact hs
    · have := hp.1 e he; omega
  · rw [List.mem_cons] at he
    rcases he with rfl | he
    · omega
    · exact hgt e he
theorem Stack.tree {t : List Node} {st : List Nat} {x : Node} (h : Stack t t.length st) (hx : t[0]? = some x) (hs : x.size = (t.length : Int)) : Tree t := by
  have h0 : sz t 0 = t.length := by rw [sz_of hx, hs]; simp
  have hl : 0 < t.length := (List.getElem?_eq_some_iff.1 hx).1
  refine ⟨⟨x, hx, hs⟩, by omega, by omega, fun m a b => ?_⟩
  have hm := h.ok m (by omega)
  exact ⟨⟨hm.1, fun k c d => h.lam m k c (by have := hm.2; omega) d⟩, by have := hm.2; omega⟩
/-- Where the node at i is found wrong, it is no tree. -/
theorem Stack.wrong {t : List Node} {i top : Nat} {st : List Nat} {x : Node} (h : Stack t i (top :: st)) (hne : top ≠ i) (hx : t[i]? = some x) (hbad : ¬ (Local x ∧ (i : Int) + x.size ≤ top)) : ¬ Tree t := by
  intro ht
  apply hbad
  have hi : i < t.length := (List.getElem?_eq_some_iff.1 hx).1
  have hg := ht.good
  have h0 := tree_sz0 ht
  obtain ⟨⟨⟨y, hy, hl⟩, _⟩, hle⟩ := hg.2.2 i (Nat.zero_le _) (by omega)
  rw [hx] at hy; cases hy
  refine ⟨hl, ?_⟩
  have hs := sz_of hx
  have hp := hl.2.2.1
  have htop := h.ge top (by simp)
  rcases h.from_ top (by simp) with e | ⟨m, a, e⟩
  · omega
  · obtain ⟨⟨_, hlam⟩, _⟩ := hg.2.2 m (Nat.zero_le _) (by omega)
    have := hlam i a (by omega)
    omega
end Go.Proofs.Ytihblifkbljgaaa
