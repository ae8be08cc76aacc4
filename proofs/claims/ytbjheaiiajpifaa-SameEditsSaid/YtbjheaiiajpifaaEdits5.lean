/-
  law40.SameEdits.
-/
import Derived.Test.YtbjheaiiajpifaaEdits4
namespace Go.Proofs.Ytbjheaiiajpifaa.T
open Go.RowKit Go.Shelf

theorem editAt_none {a b : List Node} {i : Nat} (h : editAt a b i = []) : textsD a b i = false ∧ blanksD a b i = false := by
  unfold editAt at h
  cases ht : textsD a b i with
  | true => rw [ht, if_pos rfl] at h; cases h
  | false =>
    rw [ht, if_neg (by decide)] at h
    cases hb : blanksD a b i with
    | true => rw [hb, if_pos rfl] at h; cases h
    | false => exact ⟨rfl, rfl⟩
theorem editsTo_pre (a b : List Node) {k n : Nat} (h : k ≤ n) : ∃ r, editsTo a b n = editsTo a b k ++ r := by
  induction n with
  | zero => obtain rfl : k = 0 := by omega
            exact ⟨[], by simp⟩
  | succ n ih =>
    by_cases e : k = n + 1
    · subst e; exact ⟨[], by simp⟩
    · obtain ⟨r, hr⟩ := ih (by omega)
      exact ⟨r ++ editAt a b n, by rw [editsTo_succ, hr, List.append_assoc]⟩
/-- The next place at which there is something to be done. -/
theorem next_edit {a b : List Node} (h : Alike a b) : ∀ m k, a.length - k ≤ m → k ≤ a.length → (editsTo a b k).length < (editsTo a b a.length).length → ∃ (i : Nat) (x : Edit), k ≤ i ∧ i < a.length ∧ mix a b k = mix a b i ∧ editAt a b i = [x] ∧ (editsTo a b a.length)[(editsTo a b k).length]? = some x ∧ (editsTo a b (i + 1)).length = (editsTo a b k).length + 1 := by
  intro m
  induction m with
  | zero => intro k h1 h2 h3; obtain rfl : k = a.length := by omega
            omega
  | succ m ih =>
    intro k h1 h2 h3
    by_cases hk : k = a.length
    · subst hk; omega
    · by_cases he : editAt a b k = []
      · obtain ⟨ht, hb⟩ := editAt_none he
        have hs : editsTo a b (k + 1) = editsTo a b k := by rw [editsTo_succ, he, List.append_nil]
        obtain ⟨i, x, p1, p2, p3, p4, p5, p6⟩ := ih (k + 1) (by omega) (by omega) (by rw [hs]; exact h3)
        rw [hs] at p5 p6
        exact ⟨i, x, by omega, p2, by rw [← p3, mix_same h (by omega) ht hb], p4, p5, p6⟩
      · have hl := editAt_len a b k
        obtain ⟨x, hx⟩ : ∃ x, editAt a b k = [x] := by
          match hh : editAt a b k, he, hl with
          | [x], _, _ => exact ⟨x, rfl⟩
          | [], he, _ => exact absurd rfl he
          | _ :: _ :: _, _, hl => simp at hl
        obtain ⟨r, hr⟩ := editsTo_pre a b (k := k + 1) (n := a.length) (by omega)
        refine ⟨k, x, Nat.le_refl _, by omega, rfl, hx, ?_, by rw [editsTo_succ, hx, List.length_append]; rfl⟩
        rw [hr, editsTo_succ, hx, List.append_assoc, List.getElem?_append_right (Nat.le_refl _), Nat.sub_self]
        rfl
theorem no_edit {a b : List Node} (h : Alike a b) : ∀ m k, a.length - k ≤ m → k ≤ a.length → (editsTo a b k).length = (editsTo a b a.length).length → mix a b k = b := by
  intro m
  induction m with
  | zero => intro k h1 h2 _; obtain rfl : k = a.length := by omega
            exact mix_all h
  | succ m ih =>
    intro k h1 h2 h3
    by_cases hk : k = a.length
    · subst hk; exact mix_all h
    · obtain ⟨r, hr⟩ := editsTo_pre a b (k := k + 1) (n := a.length) (by omega)
      have he : editAt a b k = [] := by
        rw [hr, editsTo_succ] at h3
        simp only [List.length_append] at h3
        exact List.eq_nil_of_length_eq_zero (by omega)
      obtain ⟨ht, hb⟩ := editAt_none he
      rw [← mix_same h (by omega) ht hb]
      exact ih (k + 1) (by omega) (by omega) (by rw [editsTo_succ, he, List.append_nil]; exact h3)
theorem count_edits (a b : List Node) (n : Nat) : countN (changedD a b) n = (editsTo a b n).length := by
  induction n with
  | zero => rfl
  | succ n ih =>
    rw [editsTo_succ, List.length_append]
    unfold countN
    rw [ih]
    congr 1
    unfold editAt changedD
    cases textsD a b n
    · cases blanksD a b n <;> rfl
    · rfl
theorem leaf_tree {t : List Node} (ht : Tree t) {j : Nat} (hj : j < t.length) (hk : textedK t[j].kind) : Tree [t[j]] := by
  have h1 := leaf_size ht hj hk
  have hl := (tree_good_at ht hj).local (List.getElem?_eq_getElem hj)
  generalize t[j] = x at *
  have hs : sz [x] 0 = 1 := by rw [sz_of (x := x) rfl, h1.2]; rfl
  refine ⟨⟨_, rfl, h1.2⟩, by rw [hs]; exact Nat.le_refl 1, by rw [hs]; exact Nat.le_refl 1, fun m _ hm => ?_⟩
  rw [hs] at hm ⊢
  obtain rfl : m = 0 := by omega
  exact ⟨⟨⟨_, rfl, hl⟩, fun k h1 h2 => by rw [hs] at h2; omega⟩, by rw [hs]; exact Nat.le_refl _⟩
theorem bump_none (i : Nat) (k : Nat) (x : Node) : bump i 0 (-1) k x = x := by
  unfold bump
  split
  · obtain ⟨a, b, c, d, e⟩ := x
    simp
  · rfl
theorem put_mix {a b : List Node} (h : Alike a b) {i : Nat} (hi : i < a.length) (hib : i < b.length) (hk : textedK b[i].kind) : putB (mix a b i) (i : Int) [b[i]] = true ∧ putOf (mix a b i) (i : Int) [b[i]] = mix a b (i + 1) := by
  have hm := mix_tree h (k := i) (by omega)
  have hl := mix_len h (k := i) (by omega)
  have hs : sz (mix a b i) i = 1 := by rw [mix_sz h (by omega), ← h.sz]; exact (leaf_size h.tb hib hk).1
  have hp : putB (mix a b i) (i : Int) [b[i]] = true := by
    unfold putB
    rw [placeB_iff.2 ⟨by omega, by omega, hm⟩, treeB_iff.2 (leaf_tree h.tb hib hk)]; rfl
  refine ⟨hp, ?_⟩
  unfold putOf
  rw [hp, if_pos rfl, Int.toNat_natCast]
  unfold putL bumps
  rw [hs, mix_next h hi]
  have : ([b[i]].length : Int) - ((1 : Nat) : Int) = 0 := by simp
  rw [this]
  congr 2
  apply List.ext_getElem?
  intro m
  rw [List.getElem?_mapIdx]
  cases (List.take i (mix a b i))[m]? with
  | none => rfl
  | some x => simp [bump_none]
/-- What a place's edit puts: the other tree's node. -/
theorem edit_at {a b : List Node} (h : Alike a b) {i : Nat} (hi : i < a.length) (hib : i < b.length) {x : Edit} (hx : editAt a b i = [x]) : x.path = pathN a i ∧ textedK b[i].kind ∧ ((x.op = 1 ∧ x.sub = [b[i]] ∧ x.lead = []) ∨ (x.op = 4 ∧ x.sub = [] ∧ x.lead = b[i].lead ∧ b[i] = { a[i] with lead := b[i].lead })) := by
  unfold editAt at hx
  cases ht : textsD a b i with
  | true =>
    have hk := differ_leaf h.ta h.tb hi hib (h.same i hi) (.inl ht)
    rw [ht, if_pos rfl, sub_one h.tb hib hk] at hx
    obtain rfl := (List.cons.inj hx).1
    exact ⟨rfl, hk, .inl ⟨rfl, rfl, rfl⟩⟩
  | false =>
    rw [ht, if_neg (by decide)] at hx
    cases hb : blanksD a b i with
    | false => rw [hb, if_neg (by decide)] at hx; cases hx
    | true =>
      have hk := differ_leaf h.ta h.tb hi hib (h.same i hi) (.inr hb)
      have hld : leadAt b i = b[i].lead := by unfold leadAt; rw [List.getElem?_eq_getElem hib]
      rw [hb, if_pos rfl, hld] at hx
      obtain rfl := (List.cons.inj hx).1
      refine ⟨rfl, hk, .inr ⟨rfl, rfl, rfl, ?_⟩⟩
      unfold textsD at ht
      rw [List.getElem?_eq_getElem hi, List.getElem?_eq_getElem hib] at ht
      simp only [Bool.not_eq_false'] at ht
      replace ht := eqB_iff.1 ht
      obtain ⟨_, h1, h2⟩ := arity_of h.ta h.tb (i := i) (by omega) (h.same i hi)
      have h3 := (tree_node h.ta hi).2.2
      have h4 := (tree_node h.tb hib).2.2
      rw [h.sz i] at h4
      generalize a[i] = p at *
      generalize b[i] = q at *
      obtain ⟨k1, n1, s1, l1, t1⟩ := p
      obtain ⟨k2, n2, s2, l2, t2⟩ := q
      dsimp only at *
      subst h1 h2 ht h3 h4
      rfl
end Go.Proofs.Ytbjheaiiajpifaa.T
