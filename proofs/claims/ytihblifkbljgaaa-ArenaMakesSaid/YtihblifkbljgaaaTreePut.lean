/-
  Other nodes in the place of a part: plain laws.
-/
import Derived.Test.YtihblifkbljgaaaTreeParts
namespace Go.Proofs.Ytihblifkbljgaaa
open Go.RowKit Go.Shelf

/-- The node at k, its size turned by d where its stretch goes past i, if k is past a. -/
def bump (i : Nat) (d : Int) (a : Int) (k : Nat) (x : Node) : Node := if a < k ∧ (i : Int) < k + x.size then { x with size := x.size + d } else x
/-- What stands ahead of the place, so turned. -/
def bumps (t : List Node) (i : Nat) (d : Int) (a : Int) : List Node := (t.take i).mapIdx (bump i d a)
def putL (t : List Node) (i : Nat) (s : List Node) : List Node := bumps t i ((s.length : Int) - sz t i) (-1) ++ s ++ t.drop (i + sz t i)
noncomputable def putB (t : List Node) (i : Int) (s : List Node) : Bool := placeB t i && treeB s
noncomputable def putOf (t : List Node) (i : Int) (s : List Node) : List Node := if putB t i s then putL t i.toNat s else []

theorem bumps_len (t : List Node) (i : Nat) (d a : Int) (hi : i ≤ t.length) : (bumps t i d a).length = i := by unfold bumps; simp; omega
theorem bumps_at {t : List Node} {i : Nat} {d a : Int} {k : Nat} (hi : i ≤ t.length) (hk : k < i) : (bumps t i d a)[k]? = some (bump i d a k (t[k]'(by omega))) := by
  unfold bumps
  rw [List.getElem?_mapIdx, List.getElem?_take_of_lt hk, List.getElem?_eq_getElem (show k < t.length by omega)]
  rfl
theorem upN_none {t : List Node} {i : Nat} : ∀ (j k : Nat), upN t i j < (k : Int) → k < j → ¬ i < k + sz t k := by
  intro j
  induction j with
  | zero => intro k _ h; omega
  | succ j ih =>
    intro k h hk
    unfold upN at h
    by_cases hc : i < j + sz t j
    · rw [if_pos hc] at h; omega
    · rw [if_neg hc] at h
      by_cases e : k = j
      · subst e; exact hc
      · exact ih k h (by omega)
theorem upN_hit {t : List Node} {i : Nat} {a : Nat} : ∀ j, upN t i j = (a : Int) → i < a + sz t a := by
  intro j
  induction j with
  | zero => intro h; unfold upN at h; omega
  | succ j ih =>
    intro h
    unfold upN at h
    by_cases hc : i < j + sz t j
    · rw [if_pos hc] at h
      obtain rfl : j = a := by omega
      exact hc
    · rw [if_neg hc] at h; exact ih h
/-- Nothing between a node and the one above it goes past the node. -/
theorem bumps_start {t : List Node} (h : Tree t) {i : Nat} (hi : i < t.length) (d : Int) : bumps t i d (upN t i i) = t.take i := by
  apply List.ext_getElem?
  intro k
  by_cases hk : k < i
  · rw [bumps_at (by omega) hk, List.getElem?_take_of_lt hk, List.getElem?_eq_getElem (show k < t.length by omega)]
    unfold bump
    rw [if_neg]
    rintro ⟨h1, h2⟩
    have hn := (tree_node h (show k < t.length by omega)).2.2
    exact upN_none i k h1 hk (by omega)
  · rw [List.getElem?_eq_none (by rw [bumps_len _ _ _ _ (by omega)]; omega), List.getElem?_eq_none (by simp; omega)]
/-- The next one above. -/
theorem bumps_next {t : List Node} (h : Tree t) {i : Nat} (hi : i < t.length) (d : Int) {a : Nat} (ha : a < i) (hs : i < a + sz t a) : bumps t i d (upN t a a) = (bumps t i d a).set a { (t[a]'(by omega)) with size := (sz t a : Int) + d } := by
  have hla : (bumps t i d (a : Int)).length = i := bumps_len _ _ _ _ (by omega)
  apply List.ext_getElem?
  intro k
  by_cases hk : k < i
  · have hn := (tree_node h (show k < t.length by omega)).2.2
    rw [bumps_at (by omega) hk]
    by_cases e : k = a
    · subst e
      rw [List.getElem?_set_self (by omega)]
      unfold bump
      rw [if_pos, hn]
      have hlt : upN t k k < k := by
        rcases upN_cases t k k with h1 | ⟨m, h1⟩
        · omega
        · have := upN_lt k h1; omega
      exact ⟨hlt, by omega⟩
    · rw [List.getElem?_set_ne (by omega), bumps_at (by omega) hk]
      unfold bump
      by_cases hka : k < a
      · have hno : ¬ (upN t a a < (k : Int) ∧ (i : Int) < k + t[k].size) := by
          rintro ⟨h1, h2⟩
          exact upN_none a k h1 hka (by omega)
        rw [if_neg hno, if_neg (fun h => by omega)]
      · have hlt : upN t a a < a := by
          rcases upN_cases t a a with h1 | ⟨m, h1⟩
          · omega
          · have := upN_lt a h1; omega
        by_cases hc : (i : Int) < k + t[k].size
        · rw [if_pos ⟨by omega, hc⟩, if_pos ⟨by omega, hc⟩]
        · rw [if_neg (fun h => hc h.2), if_neg (fun h => hc h.2)]
  · rw [List.getElem?_eq_none (by rw [bumps_len _ _ _ _ (by omega)]; omega), List.getElem?_eq_none (by rw [List.length_set]; omega)]
/-- The one above goes past the place too. -/
theorem up_past {t : List Node} (h : Tree t) {i a b : Nat} (hi : i < t.length) (ha : a < i) (hs : i < a + sz t a) (hb : upN t a a = (b : Int)) : b < a ∧ i < b + sz t b := by
  have h1 := upN_lt a hb
  have h2 := upN_hit a hb
  obtain ⟨_, h4, h5⟩ := tree_step h (show b < t.length by omega) h1 h2
  exact ⟨h1, by omega⟩
end Go.Proofs.Ytihblifkbljgaaa
