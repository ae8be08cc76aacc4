/-
  The places of leaves, plainly: the gap is the largest of those whose first leaf it is, the depth the sum on the way up.
-/
import Derived.Test.YtbjheaiiajpifaaLayA
import Derived.Test.YtbjheaiiajpifaaLayD
import Derived.Test.YtbjheaiiajpifaaShape
namespace Go.Proofs.Ytbjheaiiajpifaa.T
open Go.RowKit Go.Shelf

/-- No leaf in [a, b). -/
def noLeaf (t : List Node) (a b : Nat) : Bool := ((List.range' a (b - a)).filter (isText t)).isEmpty
theorem noLeaf_iff {t : List Node} {a b : Nat} : noLeaf t a b = true ↔ ∀ k, a ≤ k → k < b → isText t k = false := by
  unfold noLeaf
  rw [List.isEmpty_iff, List.filter_eq_nil_iff]
  constructor
  · intro h k h1 h2
    have := h k (by rw [List.mem_range'_1]; omega)
    simpa using this
  · intro h k hk
    rw [List.mem_range'_1] at hk
    rw [h k hk.1 (by omega)]
    decide
theorem noLeaf_self (t : List Node) (a : Nat) : noLeaf t a a = true := noLeaf_iff.2 fun k h1 h2 => by omega
theorem noLeaf_split {t : List Node} {a b c : Nat} (h1 : a ≤ b) (h2 : b ≤ c) : noLeaf t a c = (noLeaf t a b && noLeaf t b c) := by
  rw [Bool.eq_iff_iff, Bool.and_eq_true, noLeaf_iff, noLeaf_iff, noLeaf_iff]
  constructor
  · exact fun h => ⟨fun k a b => h k a (by omega), fun k a b => h k (by omega) b⟩
  · rintro ⟨h, h'⟩ k a _
    by_cases e : k < b
    · exact h k a e
    · exact h' k (by omega) (by omega)

def gapIt (g : Gram) (t : List Node) (i : Nat) : Int := (itemD (itemOf g t i)).gap
def inIt (g : Gram) (t : List Node) (i : Nat) : Int := (itemD (itemOf g t i)).in_
/-- The largest gap of the items of k and those above it whose parts have no leaf ahead of b. -/
def gapUp (g : Gram) (t : List Node) (b : Nat) (k : Nat) : Int :=
  max (if noLeaf t k b = true then gapIt g t k else 0) (if _h : 0 ≤ upN t k k ∧ (upN t k k).toNat < k then gapUp g t b (upN t k k).toNat else 0)
/-- The depths of the items of k and those above it. -/
def inUp (g : Gram) (t : List Node) (k : Nat) : Int :=
  inIt g t k + if _h : 0 ≤ upN t k k ∧ (upN t k k).toNat < k then inUp g t (upN t k k).toNat else 0
theorem gapUp_none {g : Gram} {t : List Node} {b k : Nat} (h : upN t k k = -1) : gapUp g t b k = max (if noLeaf t k b = true then gapIt g t k else 0) 0 := by
  rw [gapUp, dif_neg (by omega)]
theorem gapUp_some {g : Gram} {t : List Node} {b k a : Nat} (h : upN t k k = (a : Int)) : gapUp g t b k = max (if noLeaf t k b = true then gapIt g t k else 0) (gapUp g t b a) := by
  have := upN_lt k h
  rw [gapUp, dif_pos (by rw [h]; simp; omega), h, Int.toNat_natCast]
theorem inUp_none {g : Gram} {t : List Node} {k : Nat} (h : upN t k k = -1) : inUp g t k = inIt g t k := by
  rw [inUp, dif_neg (by omega)]; omega
theorem inUp_some {g : Gram} {t : List Node} {k a : Nat} (h : upN t k k = (a : Int)) : inUp g t k = inIt g t k + inUp g t a := by
  have := upN_lt k h
  rw [inUp, dif_pos (by rw [h]; simp; omega), h, Int.toNat_natCast]
theorem gapUp_nonneg (g : Gram) (t : List Node) (b : Nat) : ∀ k, 0 ≤ gapUp g t b k := by
  intro k
  induction k using Nat.strongRecOn with
  | _ k ih =>
    rcases upN_cases t k k with h | ⟨a, h⟩
    · rw [gapUp_none h]; exact Int.le_max_right _ _
    · rw [gapUp_some h]
      exact Int.le_trans (ih a (upN_lt k h)) (Int.le_max_right _ _)
/-- What holds for a kid's gap. -/
theorem gapUp_cut {g : Gram} {t : List Node} {i b : Nat} (hib : i ≤ b) : ∀ j, j ≤ i → gapUp g t b j = if noLeaf t i b = true then gapUp g t i j else 0 := by
  intro j
  induction j using Nat.strongRecOn with
  | _ j ih =>
    intro hj
    have hs := noLeaf_split (t := t) hj hib
    rcases upN_cases t j j with h | ⟨a, h⟩
    · rw [gapUp_none h, gapUp_none h, hs]
      cases noLeaf t i b <;> simp
    · have hlt := upN_lt j h
      rw [gapUp_some h, gapUp_some h, hs, ih a hlt (by omega)]
      cases noLeaf t i b <;> simp
/-- A kid's style, of its node's. -/
theorem gapUp_kid {g : Gram} {t : List Node} {i k : Nat} (h : upN t k k = (i : Int)) : gapUp g t k k = max (gapIt g t k) (if noLeaf t i k = true then gapUp g t i i else 0) := by
  have := upN_lt k h
  rw [gapUp_some h, noLeaf_self, if_pos rfl, gapUp_cut (by omega) i (Nat.le_refl _)]

/-- The places of the leaves in [a, b). -/
def placeAt (g : Gram) (t : List Node) (k : Nat) : Plc := ⟨k, gapUp g t k k, inUp g t k⟩
def placesIn (g : Gram) (t : List Node) (a b : Nat) : List Plc := ((List.range' a (b - a)).filter (isText t)).map (placeAt g t)
theorem placesIn_nil {g : Gram} {t : List Node} (a : Nat) : placesIn g t a a = [] := by unfold placesIn; simp
theorem placesIn_split {g : Gram} {t : List Node} {a b c : Nat} (h1 : a ≤ b) (h2 : b ≤ c) : placesIn g t a c = placesIn g t a b ++ placesIn g t b c := by
  unfold placesIn
  rw [← List.map_append, ← List.filter_append]
  congr 2
  have e := List.range'_append_1 (s := a) (m := b - a) (n := c - b)
  rw [show a + (b - a) = b by omega, show b - a + (c - b) = c - a by omega] at e
  exact e.symm
theorem placesIn_one {g : Gram} {t : List Node} {a : Nat} : placesIn g t a (a + 1) = if isText t a = true then [placeAt g t a] else [] := by
  unfold placesIn
  rw [show a + 1 - a = 1 by omega]
  by_cases h : isText t a = true
  · rw [if_pos h]; simp [List.range'_succ, h]
  · rw [if_neg h]; simp [List.range'_succ, h]
theorem placesIn_len {g : Gram} {t : List Node} {a b : Nat} : (placesIn g t a b).length = 0 ↔ noLeaf t a b = true := by
  unfold placesIn noLeaf
  rw [List.length_map, List.isEmpty_iff, List.length_eq_zero_iff]
theorem placesIn_le {g : Gram} {t : List Node} {a b : Nat} : (placesIn g t a b).length ≤ b - a := by
  unfold placesIn
  rw [List.length_map]
  have := List.length_filter_le (isText t) (List.range' a (b - a))
  rw [List.length_range'] at this
  exact this
noncomputable def placesOf (g : Gram) (t : List Node) : List Plc := if rightB g = true then (leavesOf t).map (placeAt g t) else []
theorem placesOf_in {g : Gram} {t : List Node} (hg : rightB g = true) (ht : Tree t) : placesOf g t = placesIn g t 0 t.length := by
  unfold placesOf leavesOf leavesTo texts placesIn
  rw [if_pos hg, if_pos (treeB_iff.2 ht), List.range_eq_range', Nat.sub_zero]
theorem placesOf_out {g : Gram} {t : List Node} (h : ¬ (rightB g = true ∧ treeB t = true)) : placesOf g t = [] := by
  unfold placesOf leavesOf leavesTo
  by_cases hg : rightB g = true
  · rw [if_pos hg, if_neg (fun e => h ⟨hg, e⟩)]; rfl
  · rw [if_neg hg]

/-- The bounds of a grammar's items that is right. -/
theorem right_items {g : Gram} (h : rightB g = true) {i : Nat} {p : Prod} (hp : g.prods[i]? = some p) {x : Item} (hx : x ∈ p.right) : 0 ≤ x.gap ∧ x.gap ≤ 2 ∧ 0 ≤ x.in_ ∧ x.in_ ≤ 8 := by
  unfold rightB at h
  rw [decide_eq_true_iff] at h
  have h1 := (right_iff g).1 h
  have h2 := h1.prod i (List.getElem?_eq_some_iff.1 hp).1
  unfold prodD at h2
  rw [hp] at h2
  dsimp only at h2
  unfold prodErr at h2
  split at h2
  · cases h2
  split at h2
  · cases h2
  obtain ⟨k, hk, e⟩ := List.mem_iff_getElem.1 hx
  have h3 := first0_kind.1 h2 k hk
  unfold Go.Proofs.Ytbjheaiiajpifaa.itemD at h3
  rw [List.getElem?_eq_getElem hk, e] at h3
  dsimp only at h3
  split at h3
  · rename_i hne
    exact absurd h3 hne
  · rename_i hne
    have hz : itemErr g x = 0 := by omega
    unfold itemErr at hz
    repeat' split at hz
    all_goals omega
theorem itemOf_mem {g : Gram} {t : List Node} {i : Nat} {x : Item} (h : itemOf g t i = some x) : ∃ (n : Nat) (p : Prod), g.prods[n]? = some p ∧ x ∈ p.right := by
  unfold itemOf at h
  split at h
  · cases h
  split at h
  · rename_i p hp
    unfold prodAt at hp
    split at hp
    · split at hp
      · exact ⟨_, p, hp, List.mem_of_getElem? h⟩
      · cases hp
    · cases hp
  · cases h
theorem it_bounds {g : Gram} (h : rightB g = true) (t : List Node) (i : Nat) : 0 ≤ gapIt g t i ∧ gapIt g t i ≤ 2 ∧ 0 ≤ inIt g t i ∧ inIt g t i ≤ 8 := by
  unfold gapIt inIt
  cases he : itemOf g t i with
  | none => simp [itemD, zeroIt]
  | some x =>
    obtain ⟨n, p, hp, hx⟩ := itemOf_mem he
    exact right_items h hp hx
theorem inUp_bounds {g : Gram} (h : rightB g = true) (t : List Node) : ∀ k, 0 ≤ inUp g t k ∧ inUp g t k ≤ 8 * (k + 1 : Nat) := by
  intro k
  have hb := it_bounds h t k
  induction k using Nat.strongRecOn with
  | _ k ih =>
    have hb := it_bounds h t k
    rcases upN_cases t k k with e | ⟨a, e⟩
    · rw [inUp_none e]; omega
    · rw [inUp_some e]
      have hlt := upN_lt k e
      have := ih a hlt (it_bounds h t a)
      omega
end Go.Proofs.Ytbjheaiiajpifaa.T
