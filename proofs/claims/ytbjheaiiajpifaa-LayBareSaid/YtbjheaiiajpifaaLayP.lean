/-
  What holds of places, plainly: beneath a kid each leaf lies at least as deep as its item says; its first leaf has at least the item's gap.
-/
import Derived.Test.YtbjheaiiajpifaaLayI
namespace Go.Proofs.Ytbjheaiiajpifaa.T
open Go.RowKit Go.Shelf

/-- A node beneath k (or k itself) that is not k has its upper node beneath k. -/
theorem up_within {t : List Node} {k l : Nat} (h1 : k < l) (h2 : l < k + sz t k) : ∃ a : Nat, upN t l l = (a : Int) ∧ k ≤ a ∧ a < l := by
  rcases upN_cases t l l with h | ⟨a, h⟩
  · have := upN_none l h k h1
    omega
  · have hlt := upN_lt l h
    refine ⟨a, h, ?_, hlt⟩
    apply Classical.byContradiction
    intro hn
    have := (upN_spec l a h).2 k (by omega) h1
    omega
theorem in_within {g : Gram} (hg : rightB g = true) {t : List Node} {k : Nat} : ∀ l, k ≤ l → l < k + sz t k → inIt g t k ≤ inUp g t l := by
  intro l
  induction l using Nat.strongRecOn with
  | _ l ih =>
    intro h1 h2
    by_cases e : k = l
    · subst e
      have hb := inUp_bounds hg t
      rcases upN_cases t k k with h | ⟨a, h⟩
      · rw [inUp_none h]; exact Int.le_refl _
      · rw [inUp_some h]
        have := (hb a).1
        omega
    · obtain ⟨a, h, h3, h4⟩ := up_within (t := t) (by omega) h2
      rw [inUp_some h]
      have h5 := ih a h4 h3 (by omega)
      have := (it_bounds hg t l).2.2.1
      omega
theorem gap_within {g : Gram} {t : List Node} {k b : Nat} (hn : noLeaf t k b = true) : ∀ l, k ≤ l → l < k + sz t k → gapIt g t k ≤ gapUp g t b l := by
  intro l
  induction l using Nat.strongRecOn with
  | _ l ih =>
    intro h1 h2
    by_cases e : k = l
    · subst e
      rcases upN_cases t k k with h | ⟨a, h⟩
      · rw [gapUp_none h, hn, if_pos rfl]; exact Int.le_max_left _ _
      · rw [gapUp_some h, hn, if_pos rfl]; exact Int.le_max_left _ _
    · obtain ⟨a, h, h3, h4⟩ := up_within (t := t) (by omega) h2
      rw [gapUp_some h]
      exact Int.le_trans (ih a h4 h3 (by omega)) (Int.le_max_right _ _)

theorem leaves_sorted (t : List Node) (n : Nat) : (texts t n).Pairwise (· < ·) := List.Pairwise.sublist List.filter_sublist List.pairwise_lt_range
theorem places_at {g : Gram} {t : List Node} (hg : rightB g = true) (hT : Tree t) : placesOf g t = (texts t t.length).map (placeAt g t) := by
  unfold placesOf leavesOf leavesTo
  rw [if_pos hg, if_pos (treeB_iff.2 hT)]
/-- What the j-th place is. -/
theorem place_at {g : Gram} {t : List Node} (hg : rightB g = true) (hT : Tree t) {j : Nat} {p : Plc} (h : (placesOf g t)[j]? = some p) :
    ∃ l : Nat, (texts t t.length)[j]? = some l ∧ l < t.length ∧ p = placeAt g t l := by
  rw [places_at hg hT, List.getElem?_map] at h
  cases e : (texts t t.length)[j]? with
  | none => rw [e] at h; cases h
  | some l =>
    rw [e] at h
    have := List.mem_of_getElem? e
    unfold texts at this
    rw [List.mem_filter, List.mem_range] at this
    exact ⟨l, rfl, this.1, (Option.some.inj h).symm⟩
/-- Where no place ahead of the j-th lies in a part, no leaf of the part lies ahead of it. -/
theorem none_ahead {t : List Node} {j l k e : Nat} (h : (texts t t.length)[j]? = some l) (hle : l < e) (hn : ∀ m q, m < j → (texts t t.length)[m]? = some q → ¬ (k ≤ q ∧ q < e)) : noLeaf t k l = true := by
  rw [noLeaf_iff]
  intro q h1 h2
  cases hq : isText t q with
  | false => rfl
  | true =>
    exfalso
    have hlt : l < t.length := by
      have := List.mem_of_getElem? h
      unfold texts at this
      rw [List.mem_filter, List.mem_range] at this
      exact this.1
    have hm : q ∈ texts t t.length := by unfold texts; rw [List.mem_filter, List.mem_range]; exact ⟨by omega, hq⟩
    obtain ⟨m, hm'⟩ := List.mem_iff_getElem?.1 hm
    obtain ⟨a1, e1⟩ := List.getElem?_eq_some_iff.1 hm'
    obtain ⟨a2, e2⟩ := List.getElem?_eq_some_iff.1 h
    by_cases hmj : m < j
    · exact hn m q hmj hm' ⟨h1, by omega⟩
    · by_cases he : m = j
      · subst he; omega
      · have := List.pairwise_iff_getElem.1 (leaves_sorted t t.length) j m a2 a1 (by omega)
        omega

/-- Other leads and texts of leaves make no difference. -/
def bareN (s : ByteArray) (x : Node) : Node := if textedK x.kind then ⟨x.kind, x.n, x.size, [], s⟩ else x
theorem bare_get {t : List Node} {s : ByteArray} (i : Nat) : (t.map (bareN s))[i]? = (t[i]?).map (bareN s) := List.getElem?_map
theorem bare_same (s : ByteArray) (x : Node) : (bareN s x).kind = x.kind ∧ (bareN s x).n = x.n ∧ (bareN s x).size = x.size := by
  unfold bareN
  split <;> exact ⟨rfl, rfl, rfl⟩
theorem bare_sz (t : List Node) (s : ByteArray) : sz (t.map (bareN s)) = sz t := by
  funext i
  unfold sz
  rw [bare_get]
  cases t[i]? with
  | none => rfl
  | some x => show (bareN s x).size.toNat = _; rw [(bare_same s x).2.2]
theorem bare_text (t : List Node) (s : ByteArray) : isText (t.map (bareN s)) = isText t := by
  funext i
  unfold isText
  rw [bare_get]
  cases t[i]? with
  | none => rfl
  | some x => show decide (textedK (bareN s x).kind) = _; rw [(bare_same s x).1]
theorem bare_bad (t : List Node) (s : ByteArray) : badAt (t.map (bareN s)) = badAt t := by
  funext i
  unfold badAt
  rw [bare_get]
  cases t[i]? with
  | none => rfl
  | some x => show decide ((bareN s x).kind = 4) = _; rw [(bare_same s x).1]
theorem bare_prod (g : Gram) (t : List Node) (s : ByteArray) : prodAt g (t.map (bareN s)) = prodAt g t := by
  funext i
  unfold prodAt
  rw [bare_get]
  cases t[i]? with
  | none => rfl
  | some x =>
    show (if (bareN s x).kind = 2 ∧ 0 ≤ (bareN s x).n then g.prods[(bareN s x).n.toNat]? else none) = _
    rw [(bare_same s x).1, (bare_same s x).2.1]
theorem bare_up (t : List Node) (s : ByteArray) (i : Nat) : ∀ k, upN (t.map (bareN s)) i k = upN t i k := by
  intro k
  induction k with
  | zero => rfl
  | succ k ih => unfold upN; rw [bare_sz, ih]
theorem bare_kidsFrom (t : List Node) (s : ByteArray) (e : Nat) : ∀ n k, e - k ≤ n → kidsFrom (t.map (bareN s)) e k = kidsFrom t e k := by
  intro n
  induction n with
  | zero => intro k h; rw [kidsFrom_ge (by omega), kidsFrom_ge (by omega)]
  | succ n ih =>
    intro k h
    by_cases hk : k < e
    · rw [kidsFrom, if_pos hk, ih _ (by omega), bare_sz]
      conv => rhs; rw [kidsFrom, if_pos hk]
    · rw [kidsFrom_ge hk, kidsFrom_ge hk]
theorem bare_kids (t : List Node) (s : ByteArray) (i : Nat) : kidsL (t.map (bareN s)) i = kidsL t i := by
  unfold kidsL
  rw [bare_sz]
  exact bare_kidsFrom t s _ _ _ (Nat.le_refl _)
theorem bare_item (g : Gram) (t : List Node) (s : ByteArray) : itemOf g (t.map (bareN s)) = itemOf g t := by
  funext i
  unfold itemOf cntTo
  rw [bare_up, bare_bad, bare_prod]
  rw [bare_kids]
theorem bare_noLeaf (t : List Node) (s : ByteArray) : noLeaf (t.map (bareN s)) = noLeaf t := by
  funext a b
  unfold noLeaf
  rw [bare_text]
theorem bare_gap (g : Gram) (t : List Node) (s : ByteArray) (b : Nat) : ∀ k, gapUp g (t.map (bareN s)) b k = gapUp g t b k := by
  intro k
  induction k using Nat.strongRecOn with
  | _ k ih =>
    rcases upN_cases t k k with h | ⟨a, h⟩
    · rw [gapUp_none h, gapUp_none (by rw [bare_up]; exact h), bare_noLeaf]
      unfold gapIt
      rw [bare_item]
    · rw [gapUp_some h, gapUp_some (a := a) (by rw [bare_up]; exact h), bare_noLeaf, ih a (upN_lt k h)]
      unfold gapIt
      rw [bare_item]
theorem bare_in (g : Gram) (t : List Node) (s : ByteArray) : ∀ k, inUp g (t.map (bareN s)) k = inUp g t k := by
  intro k
  induction k using Nat.strongRecOn with
  | _ k ih =>
    rcases upN_cases t k k with h | ⟨a, h⟩
    · rw [inUp_none h, inUp_none (by rw [bare_up]; exact h)]
      unfold inIt
      rw [bare_item]
    · rw [inUp_some h, inUp_some (a := a) (by rw [bare_up]; exact h), ih a (upN_lt k h)]
      unfold inIt
      rw [bare_item]
theorem bare_local (s : ByteArray) (x : Node) : Local (bareN s x) ↔ Local x := by
  unfold bareN
  by_cases h : textedK x.kind
  · rw [if_pos h]
    unfold Local
    dsimp only
    exact ⟨fun ⟨a, b, c, d, _⟩ => ⟨a, b, c, d, fun h' => absurd h h'⟩, fun ⟨a, b, c, d, _⟩ => ⟨a, b, c, d, fun h' => absurd h h'⟩⟩
  · rw [if_neg h]
theorem bare_tree (t : List Node) (s : ByteArray) : treeB (t.map (bareN s)) = treeB t := by
  have hO : ∀ m, Ok (t.map (bareN s)) m ↔ Ok t m := fun m => by
    unfold Ok
    rw [bare_sz, bare_get]
    cases t[m]? with
    | none => simp
    | some x => simp [bare_local]
  rw [Bool.eq_iff_iff, treeB_iff, treeB_iff]
  unfold Tree Good
  rw [bare_sz, List.length_map]
  have h0 : (∃ x, (t.map (bareN s))[0]? = some x ∧ x.size = (t.length : Int)) ↔ (∃ x, t[0]? = some x ∧ x.size = (t.length : Int)) := by
    rw [bare_get]
    cases t[0]? with
    | none => simp
    | some x => simp [(bare_same s x).2.2]
  rw [h0]
  simp only [hO]
theorem bare_places (g : Gram) (t : List Node) (s : ByteArray) : placesOf g (t.map (bareN s)) = placesOf g t := by
  unfold placesOf leavesOf leavesTo texts
  rw [bare_tree, List.length_map, bare_text]
  split
  · congr 1
    funext k
    unfold placeAt
    rw [bare_gap, bare_in]
  · rfl
end Go.Proofs.Ytbjheaiiajpifaa.T
