/-
  The document's answer for a selector (plain): a rising list of numbers, step by step, is what the marks say.
-/
import Derived.Test.YtdbbjlphlbndkaaGreatFindLP
import Derived.Test.YtdbbjlphlbndkaaGreatTrailP
namespace Go.Proofs.YtdbbjlphlbndkaaGreat.T
open Go.RowKit Go.Shelf

theorem kids_up {t : List Node} (ht : Tree t) {u x : Nat} (hx : x < t.length) (hu : u < t.length) : x ∈ kidsL t u ↔ 0 < x ∧ upN t x x = (u : Int) := by
  constructor
  · intro h
    obtain ⟨h1, h2, _⟩ := kid_up ht hu h
    unfold upOf at h1
    rw [if_pos (placeB_iff.2 ⟨by omega, by omega, ht⟩), Int.toNat_natCast] at h1
    exact ⟨by omega, h1⟩
  · rintro ⟨h0, h⟩
    obtain ⟨a, n, h1, h2, h3⟩ := up_kid ht h0 hx
    rw [h] at h1
    have : u = a := by omega
    subst this
    exact List.mem_of_getElem? h3
/-- Does a step lead from a node to another one? -/
def beneathR (t : List Node) (al : Bool) (a i : Nat) : Bool := (decide (a < i) && decide (i < a + sz t a)) && (al || decide (upN t i i = (a : Int)))
theorem beneath_row {t : List Node} (ht : Tree t) {al : Bool} {a i : Nat} (ha : a < t.length) (hi : i < t.length) : beneathR t al a i = true ↔ i ∈ rowO t al a := by
  unfold beneathR rowO
  cases al
  · rw [if_neg (by decide), kidsOf_at ht ha, Bool.and_eq_true, Bool.and_eq_true, decide_eq_true_iff, decide_eq_true_iff, Bool.false_or, decide_eq_true_iff, kids_up ht hi ha]
    constructor
    · rintro ⟨⟨h1, h2⟩, h3⟩; exact ⟨by omega, h3⟩
    · rintro ⟨h1, h3⟩
      have hk := (kids_up ht hi ha).2 ⟨h1, h3⟩
      have := kid_up ht ha hk
      exact ⟨⟨this.2.1, this.2.2⟩, h3⟩
  · rw [if_pos rfl, List.mem_range'_1, Bool.true_or, Bool.and_true, Bool.and_eq_true, decide_eq_true_iff, decide_eq_true_iff]
    have := tree_node ht ha
    omega
/-- What a step finds, as the document writes it down: each node once for each that it lies beneath. -/
def nextR (g : Gram) (t : List Node) (x : ByteArray × Bool) (l : List Nat) (n : Nat) : List Nat := (List.range n).flatMap fun i => (l.filter fun a => beneathR t x.2 a i && isN g t x.1 i).map fun _ => i
theorem nextR_mem {g : Gram} {t : List Node} {x : ByteArray × Bool} {l : List Nat} {n i : Nat} : i ∈ nextR g t x l n ↔ i < n ∧ ∃ a ∈ l, beneathR t x.2 a i = true ∧ isN g t x.1 i = true := by
  unfold nextR
  simp only [List.mem_flatMap, List.mem_map, List.mem_filter, List.mem_range, Bool.and_eq_true]
  constructor
  · rintro ⟨j, h1, a, ⟨h2, h3, h4⟩, rfl⟩; exact ⟨h1, a, h2, h3, h4⟩
  · rintro ⟨h1, a, h2, h3, h4⟩; exact ⟨i, h1, a, ⟨h2, h3, h4⟩, rfl⟩
/-- The document's next list is the marks' one. -/
theorem next_marks {g : Gram} {t : List Node} (ht : Tree t) {s : List Bool} (hs : s.length = t.length) (x : ByteArray × Bool) : setOf (castL (nextR g t x (foundO s) t.length)) = castL (foundO (passO g t s x)) := by
  refine asc_ext (asc_setOf _) (castL_rise (found_rise _)) (fun z => ?_)
  rw [mem_setOf]
  unfold castL
  simp only [List.mem_map, nextR_mem, found_mem]
  unfold passO
  simp only [passK_on]
  constructor
  · rintro ⟨i, ⟨h1, a, h2, h3, h4⟩, rfl⟩
    have ha := onAt_lt h2
    rw [hs] at ha
    exact ⟨i, ⟨a, ha, h2, (beneath_row ht ha h1).1 h3, h1, h4⟩, rfl⟩
  · rintro ⟨i, ⟨a, ha, h2, h3, h1, h4⟩, rfl⟩
    exact ⟨i, ⟨h1, a, h2, (beneath_row ht ha h1).2 h3, h4⟩, rfl⟩
/-- The list with which the document begins. -/
theorem start_marks {n : Nat} (h : 0 < n) : foundO ((List.replicate n false).set 0 true) = [0] := by
  obtain ⟨m, rfl⟩ : ∃ m, n = m + 1 := ⟨n - 1, by omega⟩
  unfold foundO foundK
  rw [List.length_set, List.length_replicate, List.range_succ_eq_map, List.filter_cons]
  have h1 : (((List.replicate (m + 1) false).set 0 true)[0]?.getD false) = true := by simp
  rw [h1, if_pos rfl, List.filter_map]
  have h2 : (List.range m).filter ((fun i => ((List.replicate (m + 1) false).set 0 true)[i]?.getD false) ∘ Nat.succ) = [] := by
    refine List.filter_eq_nil_iff.2 (fun i _ => ?_)
    simp [List.getElem?_replicate, List.replicate_succ]
    split <;> simp
  rw [h2]
  rfl
end Go.Proofs.YtdbbjlphlbndkaaGreat.T
