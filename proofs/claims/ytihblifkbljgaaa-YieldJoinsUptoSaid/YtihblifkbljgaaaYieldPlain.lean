/-
  The words of a tree: where each one's bytes begin and end. Plain.
-/
import Derived.Test.YtihblifkbljgaaaNodesFit
import Derived.Test.YtihblifkbljgaaaTreeStep
namespace Go.Proofs.Ytihblifkbljgaaa
open Go.RowKit Go.Shelf

def leafAt (t : List Node) (i : Nat) : Node := (t[i]?).getD ⟨0, 0, 0, [], ⟨#[]⟩⟩
def leadSum (ps : List Piece) : Nat := (ps.map fun p => p.text.size).sum
def wordLen (x : Node) : Nat := leadSum x.lead + x.text.size
/-- Where the k-th word's bytes begin. -/
def fromY (t : List Node) (L : List Nat) (k : Nat) : Nat := ((L.take k).map fun i => wordLen (leafAt t i)).sum
theorem fromY_zero (t : List Node) (L : List Nat) : fromY t L 0 = 0 := rfl
theorem fromY_succ {t : List Node} {L : List Nat} {k i : Nat} (h : L[k]? = some i) : fromY t L (k + 1) = fromY t L k + wordLen (leafAt t i) := by
  obtain ⟨hk, e⟩ := List.getElem?_eq_some_iff.1 h
  unfold fromY
  rw [List.take_succ_eq_append_getElem hk, e, List.map_append, List.sum_append]
  simp
theorem leafAt_of {t : List Node} {i : Nat} {x : Node} (h : t[i]? = some x) : leafAt t i = x := by unfold leafAt; rw [h]; rfl
theorem leadSum_take {ps : List Piece} {j : Nat} {p : Piece} (h : ps[j]? = some p) : leadSum (ps.take (j + 1)) = leadSum (ps.take j) + p.text.size := by
  obtain ⟨hj, e⟩ := List.getElem?_eq_some_iff.1 h
  unfold leadSum
  rw [List.take_succ_eq_append_getElem hj, e, List.map_append, List.sum_append]
  simp
theorem leadSum_bulk (ps : List Piece) : leadSum ps + ps.length ≤ bulkP ps := by
  unfold leadSum bulkP
  induction ps with
  | nil => simp
  | cons p ps ih => simp only [List.map_cons, List.sum_cons, List.length_cons]; omega
theorem leadSum_le (ps : List Piece) (j : Nat) : leadSum (ps.take j) ≤ leadSum ps := by
  unfold leadSum
  conv => rhs; rw [← List.take_append_drop j ps]
  rw [List.map_append, List.sum_append]
  omega
theorem wordLen_bulk (x : Node) : wordLen x + x.lead.length ≤ bulkN x := by
  have := leadSum_bulk x.lead
  unfold wordLen bulkN
  omega
theorem sum_filter_le (f : Nat → Nat) (p : Nat → Bool) (l : List Nat) : ((l.filter p).map f).sum ≤ (l.map f).sum := by
  induction l with
  | nil => simp
  | cons x l ih =>
    rw [List.filter_cons]
    split
    · simp only [List.map_cons, List.sum_cons]; omega
    · simp only [List.map_cons, List.sum_cons]; omega
theorem sum_all (t : List Node) (f : Node → Nat) : ((List.range t.length).map fun i => f (leafAt t i)).sum = (t.map f).sum := by
  congr 1
  apply List.ext_getElem?
  intro i
  rw [List.getElem?_map, List.getElem?_map]
  by_cases hi : i < t.length
  · rw [List.getElem?_range hi, List.getElem?_eq_getElem hi, Option.map_some, Option.map_some, leafAt_of (List.getElem?_eq_getElem hi)]
  · rw [List.getElem?_eq_none (by simp; omega), List.getElem?_eq_none (by omega)]; rfl
theorem wordLen_all (t : List Node) : (t.map wordLen).sum ≤ bulkT t := by
  unfold bulkT
  induction t with
  | nil => simp
  | cons x t ih =>
    simp only [List.map_cons, List.sum_cons]
    have := wordLen_bulk x
    omega
theorem mem_sum {l : List Nat} {x : Nat} (h : x ∈ l) : x ≤ l.sum := by
  induction l with
  | nil => cases h
  | cons y l ih =>
    rw [List.sum_cons]
    rcases List.mem_cons.1 h with rfl | h
    · omega
    · have := ih h; omega
theorem fromY_all (t : List Node) : fromY t (leavesOf t) (leavesOf t).length ≤ bulkT t := by
  unfold fromY
  rw [List.take_length]
  unfold leavesOf leavesTo
  split
  · unfold texts
    refine Nat.le_trans (sum_filter_le _ _ _) ?_
    rw [sum_all t wordLen]
    exact wordLen_all t
  · simp
theorem fromY_mono (t : List Node) (L : List Nat) {j k : Nat} (h : j ≤ k) : fromY t L j ≤ fromY t L k := by
  induction k with
  | zero => rw [show j = 0 by omega]; exact Nat.le_refl _
  | succ k ih =>
    by_cases hj : j = k + 1
    · rw [hj]; exact Nat.le_refl _
    · refine Nat.le_trans (ih (by omega)) ?_
      cases hk : L[k]? with
      | some i => rw [fromY_succ hk]; omega
      | none =>
        have := List.getElem?_eq_none_iff.1 hk
        unfold fromY
        rw [List.take_of_length_le (by omega), List.take_of_length_le (by omega)]
        exact Nat.le_refl _
theorem fromY_le (t : List Node) {k : Nat} (h : k ≤ (leavesOf t).length) : fromY t (leavesOf t) k ≤ bulkT t := Nat.le_trans (fromY_mono t _ h) (fromY_all t)
theorem bulk_len (t : List Node) : t.length ≤ bulkT t := by
  unfold bulkT
  induction t with
  | nil => simp
  | cons x t ih => simp only [List.map_cons, List.sum_cons, List.length_cons]; unfold bulkN at *; omega
theorem bulk_at {t : List Node} {i : Nat} {x : Node} (h : t[i]? = some x) : bulkN x ≤ bulkT t := by
  unfold bulkT
  exact mem_sum (List.mem_map.2 ⟨x, List.mem_of_getElem? h, rfl⟩)
end Go.Proofs.Ytihblifkbljgaaa
