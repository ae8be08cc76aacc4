/-
  In what two trees differ, plainly: turned it is the same, at the same place; they differ in nothing just if they are the same.
-/
import Derived.Test.YtbjheaiiajpifaaSameL
import Derived.Test.YtbjheaiiajpifaaShape
namespace Go.Proofs.Ytbjheaiiajpifaa.T
open Go.RowKit Go.Shelf

theorem eqB_comm {α : Type} (x y : α) : eqB x y = eqB y x := by
  by_cases h : x = y
  · rw [h]
  · rw [eqB_false h, eqB_false (fun e => h e.symm)]
theorem diffD_comm (ts : List Token) (a b : List Node) (h i : Nat) : diffD ts a b h i = diffD ts b a h i := by
  have hn : nodesD a b i = nodesD b a i := by
    unfold nodesD
    cases ha : a[i]? <;> cases hb : b[i]? <;> try rfl
    rename_i x y
    dsimp only
    rw [bne_comm (a := x.kind), bne_comm (a := x.n), bne_comm (a := (kidsOf a i).length)]
  have ht : textsD a b i = textsD b a i := by
    unfold textsD
    cases ha : a[i]? <;> cases hb : b[i]? <;> try rfl
    dsimp only
    rw [eqB_comm]
  have ho : notesD ts a b i = notesD ts b a i := by
    unfold notesD
    cases ha : a[i]? <;> cases hb : b[i]? <;> try rfl
    dsimp only
    rw [eqB_comm]
  have hl : blanksD a b i = blanksD b a i := by
    unfold blanksD
    cases ha : a[i]? <;> cases hb : b[i]? <;> try rfl
    dsimp only
    rw [eqB_comm]
  unfold diffD
  split
  · exact hn
  · exact ht
  · exact ho
  · exact hl
theorem firstFrom_comm (ts : List Token) (a b : List Node) (h : Nat) : firstFrom ts a b h = firstFrom ts b a h := by
  induction h with
  | zero => rfl
  | succ h ih =>
    unfold firstFrom
    rw [ih, Nat.min_comm, show diffD ts a b (h + 1) = diffD ts b a (h + 1) from funext (diffD_comm ts a b (h + 1))]
theorem first_comm (ts : List Token) (a b : List Node) : firstD40 ts a b = firstD40 ts b a := firstFrom_comm ts a b 4
theorem both_comm (a b : List Node) : bothB a b = bothB b a := Bool.and_comm _ _
theorem dHow_comm (ts : List Token) (a b : List Node) : dHow ts a b = dHow ts b a := by unfold dHow; rw [both_comm, first_comm]
theorem changed_comm (a b : List Node) (i : Nat) : changedD a b i = changedD b a i := by
  unfold changedD
  rw [show textsD a b i = textsD b a i from diffD_comm [] a b 3 i, show blanksD a b i = blanksD b a i from diffD_comm [] a b 1 i]
theorem dCount_comm (ts : List Token) (a b : List Node) : dCount ts a b = dCount ts b a := by
  unfold dCount
  rw [both_comm, first_comm, Nat.min_comm, show changedD a b = changedD b a from funext (changed_comm a b)]

/-- The first at which they differ: none, or one ahead of which they do not differ so, nor worse anywhere. -/
theorem first_spec (ts : List Token) (a b : List Node) : ∀ h, (firstFrom ts a b h = (0, -1) ∧ ∀ g, 1 ≤ g → g ≤ h → ∀ i, i < min a.length b.length → diffD ts a b g i = false) ∨
    ∃ g i : Nat, 1 ≤ g ∧ g ≤ h ∧ i < min a.length b.length ∧ firstFrom ts a b h = ((g : Int), (i : Int)) ∧ diffD ts a b g i = true ∧ (∀ j, j < i → diffD ts a b g j = false) ∧ ∀ g', g < g' → g' ≤ h → ∀ j, j < min a.length b.length → diffD ts a b g' j = false := by
  intro h
  induction h with
  | zero => exact .inl ⟨rfl, fun g h1 h2 => by omega⟩
  | succ h ih =>
    by_cases hex : ∃ i, i < min a.length b.length ∧ diffD ts a b (h + 1) i = true
    · have hleast : ∃ i, i < min a.length b.length ∧ diffD ts a b (h + 1) i = true ∧ ∀ j, j < i → diffD ts a b (h + 1) j = false := by
        obtain ⟨i, hi⟩ := hex
        induction i using Nat.strongRecOn with
        | _ i ihi =>
          by_cases hs : ∃ j, j < i ∧ diffD ts a b (h + 1) j = true
          · obtain ⟨j, hj, hd⟩ := hs
            exact ihi j hj ⟨by omega, hd⟩
          · refine ⟨i, hi.1, hi.2, fun j hj => ?_⟩
            cases hd : diffD ts a b (h + 1) j with
            | false => rfl
            | true => exact absurd ⟨j, hj, hd⟩ hs
      obtain ⟨i, hi, hd, hall⟩ := hleast
      exact .inr ⟨h + 1, i, by omega, by omega, hi, firstFrom_hit hi hd hall, hd, hall, fun g' h1 h2 => by omega⟩
    · have hall : ∀ i, i < min a.length b.length → diffD ts a b (h + 1) i = false := fun i hi => by
        cases hd : diffD ts a b (h + 1) i with
        | false => rfl
        | true => exact absurd ⟨i, hi, hd⟩ hex
      have he := firstFrom_miss hall
      rcases ih with ⟨h1, h2⟩ | ⟨g, i, h1, h2, h3, h4, h5, h6, h7⟩
      · refine .inl ⟨he.trans h1, fun g hg1 hg2 i hi => ?_⟩
        by_cases e : g = h + 1
        · subst e; exact hall i hi
        · exact h2 g hg1 (by omega) i hi
      · refine .inr ⟨g, i, h1, by omega, h3, he.trans h4, h5, h6, fun g' hg1 hg2 j hj => ?_⟩
        by_cases e : g' = h + 1
        · subst e; exact hall j hj
        · exact h7 g' hg1 (by omega) j hj

theorem arity_of {a b : List Node} (ha : Tree a) (hb : Tree b) {i : Nat} (hi : i < min a.length b.length) (h : nodesD a b i = false) : arity a i = arity b i ∧ (a[i]'(by omega)).kind = (b[i]'(by omega)).kind ∧ (a[i]'(by omega)).n = (b[i]'(by omega)).n := by
  unfold nodesD at h
  rw [List.getElem?_eq_getElem (by omega : i < a.length), List.getElem?_eq_getElem (by omega : i < b.length)] at h
  simp only [Bool.or_eq_false_iff, bne_eq_false_iff_eq] at h
  obtain ⟨h1, h2, h3⟩ := h
  rw [kidsOf_in ha (by omega), kidsOf_in hb (by omega)] at h3
  exact ⟨h3, h1, h2⟩
theorem place_neg (a : List Node) : pathOf a (-1) = [] := by unfold pathOf placeB; simp
theorem pathOf_in {a : List Node} (ha : Tree a) {i : Nat} (hi : i < a.length) : pathOf a (i : Int) = pathN a i := by
  unfold pathOf
  rw [placeB_iff.2 ⟨by omega, by omega, ha⟩, if_pos rfl, Int.toNat_natCast]
theorem dPath_comm (ts : List Token) (a b : List Node) : dPath ts a b = dPath ts b a := by
  unfold dPath
  rw [both_comm b a, first_comm ts b a]
  by_cases hbo : bothB a b = true
  · rw [if_pos hbo, if_pos hbo]
    unfold bothB at hbo
    rw [Bool.and_eq_true, treeB_iff, treeB_iff] at hbo
    obtain ⟨ha, hb⟩ := hbo
    rcases first_spec ts a b 4 with ⟨h1, _⟩ | ⟨g, i, h1, h2, h3, h4, _, h6, h7⟩
    · rw [show firstD40 ts a b = (0, -1) from h1]
      exact (place_neg a).trans (place_neg b).symm
    · rw [show firstD40 ts a b = ((g : Int), (i : Int)) from h4]
      show pathOf a (i : Int) = pathOf b (i : Int)
      rw [pathOf_in ha (by omega), pathOf_in hb (by omega)]
      refine path_alike ha hb (N := i) (fun j hj => (arity_of ha hb (by omega) ?_).1) i (Nat.le_refl _) (by omega) (by omega)
      by_cases e : g = 4
      · subst e; exact h6 j hj
      · exact h7 4 (by omega) (by omega) j (by omega)
  · rw [if_neg hbo, if_neg hbo]

theorem self_diff (ts : List Token) (a : List Node) (h i : Nat) : diffD ts a a h i = false := by
  unfold diffD
  split
  · unfold nodesD; cases a[i]? <;> simp
  · unfold textsD; cases a[i]? <;> simp [eqB_self]
  · unfold notesD; cases a[i]? <;> simp [eqB_self]
  · unfold blanksD; cases a[i]? <;> simp [eqB_self]
theorem self_first (ts : List Token) (a : List Node) : firstD40 ts a a = (0, -1) := by
  rcases first_spec ts a a 4 with ⟨h1, _⟩ | ⟨g, i, _, _, _, _, h5, _⟩
  · exact h1
  · rw [self_diff] at h5; cases h5
/-- They differ in nothing just if they are the same. -/
theorem first_zero {ts : List Token} {a b : List Node} (ha : Tree a) (hb : Tree b) : (firstD40 ts a b).1 = 0 ↔ a = b := by
  refine ⟨fun h => ?_, fun h => by subst h; rw [self_first]⟩
  rcases first_spec ts a b 4 with ⟨_, h2⟩ | ⟨g, i, h1, _, _, h4, _⟩
  · have hn : ∀ i, i < min a.length b.length → nodesD a b i = false := fun i hi => h2 4 (by omega) (by omega) i hi
    have hl := len_alike ha hb (fun j hj => (arity_of ha hb hj (hn j hj)).1)
    have hz := sz_alike ha hb (fun j hj => (arity_of ha hb hj (hn j hj)).1)
    refine List.ext_getElem hl (fun i hi1 hi2 => ?_)
    have hi : i < min a.length b.length := by omega
    obtain ⟨_, hk, hnn⟩ := arity_of ha hb hi (hn i hi)
    have ht : textsD a b i = false := h2 3 (by omega) (by omega) i hi
    have hle : blanksD a b i = false := h2 1 (by omega) (by omega) i hi
    unfold textsD at ht
    unfold blanksD at hle
    rw [List.getElem?_eq_getElem hi1, List.getElem?_eq_getElem hi2] at ht hle
    simp only [Bool.not_eq_false'] at ht hle
    replace ht := eqB_iff.1 ht
    replace hle := eqB_iff.1 hle
    have hs : a[i].size = b[i].size := by rw [(tree_node ha hi1).2.2, (tree_node hb hi2).2.2, hz i hi1]
    generalize a[i] = x at *
    generalize b[i] = y at *
    obtain ⟨k1, n1, s1, l1, t1⟩ := x
    obtain ⟨k2, n2, s2, l2, t2⟩ := y
    dsimp only at hk hnn ht hle hs
    subst hk hnn ht hle hs
    rfl
  · rw [show firstD40 ts a b = ((g : Int), (i : Int)) from h4] at h
    dsimp only at h
    omega
theorem countN_zero {f : Nat → Bool} {n : Nat} : countN f n = 0 ↔ ∀ i, i < n → f i = false := by
  induction n with
  | zero => exact ⟨fun _ i hi => by omega, fun _ => rfl⟩
  | succ n ih =>
    unfold countN
    refine ⟨fun h i hi => ?_, fun h => ?_⟩
    · by_cases e : i = n
      · subst e
        cases hf : f i with
        | false => rfl
        | true => rw [hf] at h; simp at h
      · exact ih.1 (by omega) i (by omega)
    · rw [ih.2 (fun i hi => h i (by omega)), h n (by omega)]; rfl
/-- None is counted just if they are the same; less than none, just if the nodes differ. -/
theorem count_spec {ts : List Token} {a b : List Node} (h : bothB a b = true) : (dHow ts a b = 0 ↔ dCount ts a b = 0) ∧ (dHow ts a b = 4 ↔ dCount ts a b < 0) := by
  unfold dHow dCount
  rw [if_pos h, if_pos h]
  rcases first_spec ts a b 4 with ⟨h1, h2⟩ | ⟨g, i, h1, h2, h3, h4, h5, _⟩
  · rw [show firstD40 ts a b = (0, -1) from h1, if_neg (by decide), countN_zero.2 (fun i hi => by
      rw [changed_three ts, h2 3 (by omega) (by omega) i hi, h2 2 (by omega) (by omega) i hi, h2 1 (by omega) (by omega) i hi]; rfl)]
    simp
  · rw [show firstD40 ts a b = ((g : Int), (i : Int)) from h4]
    dsimp only
    by_cases e : g = 4
    · subst e
      rw [if_pos (by rfl)]
      simp
    · rw [if_neg (by omega)]
      have hc : changedD a b i = true := by
        rw [changed_three ts]
        obtain rfl | rfl | rfl : g = 1 ∨ g = 2 ∨ g = 3 := by omega
        · rw [h5]; simp
        · rw [h5]; simp
        · rw [h5]; rfl
      have hne : countN (changedD a b) (min a.length b.length) ≠ 0 := fun h0 => by
        have := countN_zero.1 h0 i h3
        rw [hc] at this
        cases this
      omega
end Go.Proofs.Ytbjheaiiajpifaa.T
