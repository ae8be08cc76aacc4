/-
  Of a grammar that is right: each name is found; each production is of one rule. Plain.
-/
import Derived.Test.YtaagkbgbghleiaaGramPlain
import Derived.Test.YtaagkbgbghleiaaSets
namespace Go.Proofs.Ytaagkbgbghleiaa
open Go.RowKit Go.Shelf

def allOf (g : Gram) : Nat → List Int
  | 0 => []
  | k + 1 => allOf g k ++ ofRule g k
/-- What is right of a grammar that is. -/
structure RightG (g : Gram) : Prop where
  sizes : sizesOf g = D0
  tok : ∀ i, i < g.toks.length → (tokD g i).kind = 0
  rule : ∀ i, i < g.rules.length → (ruleD g i).kind = 0
  prod : ∀ i, i < g.prods.length → (prodD g i).kind = 0
  start : (startD g).kind = 0
  none_ : ∀ i, i < g.rules.length → (noneD g i).kind = 0
theorem right_iff (g : Gram) : (checkOf g).kind = 0 ↔ RightG g := by
  constructor
  · intro h
    unfold checkOf at h
    obtain ⟨h1, h2⟩ := orD_kind.1 h
    obtain ⟨h3, h4⟩ := orD_kind.1 h2
    obtain ⟨h5, h6⟩ := orD_kind.1 h4
    obtain ⟨h7, h8⟩ := orD_kind.1 h6
    unfold wholeD at h8
    obtain ⟨h9, h10⟩ := orD_kind.1 h8
    exact ⟨sizes_clean g h1, first0_kind.1 h3, first0_kind.1 h5, first0_kind.1 h7, h9, first0_kind.1 h10⟩
  · intro h
    unfold checkOf wholeD
    rw [orD_kind, orD_kind, orD_kind, orD_kind, orD_kind]
    exact ⟨by rw [h.sizes]; rfl, first0_kind.2 h.tok, first0_kind.2 h.rule, first0_kind.2 h.prod, h.start, first0_kind.2 h.none_⟩
theorem nameErr_zero {s : ByteArray} {l : List ByteArray} (h : nameErr s l = 0) : nameB s = true ∧ s ∉ l := by
  unfold nameErr at h
  split at h
  · cases h
  · rename_i h1
    split at h
    · cases h
    · rename_i h2
      exact ⟨by simpa using h1, fun hm => h2 (holdsB_true hm)⟩
theorem nameErr_ok {s : ByteArray} {l : List ByteArray} (h1 : nameB s = true) (h2 : s ∉ l) : nameErr s l = 0 := by
  unfold nameErr
  rw [if_neg (by rw [h1]; decide), if_neg (by rw [holdsB_false h2]; decide)]
theorem RightG.tokName {g : Gram} (h : RightG g) {i : Nat} {t : Token} (ht : g.toks[i]? = some t) : nameB t.name = true ∧ t.name ∉ (tokNames g).take i := by
  have hi := (List.getElem?_eq_some_iff.1 ht).1
  have h1 := h.tok i hi
  unfold tokD at h1
  rw [ht] at h1
  dsimp only at h1
  unfold tokErr at h1
  dsimp only at h1
  by_cases e : nameErr t.name ((allNames g).take i) = 0
  · have := nameErr_zero e
    have e2 : (allNames g).take i = (tokNames g).take i := by
      unfold allNames
      rw [List.take_append_of_le_length (by simp [tokNames]; omega)]
    rw [e2] at this
    exact this
  · rw [if_pos e] at h1
    exact absurd h1 e
theorem RightG.ruleName {g : Gram} (h : RightG g) {i : Nat} {s : ByteArray} (hs : g.rules[i]? = some s) : nameB s = true ∧ s ∉ tokNames g ∧ s ∉ g.rules.take i := by
  have hi := (List.getElem?_eq_some_iff.1 hs).1
  have h1 := h.rule i hi
  unfold ruleD at h1
  rw [hs] at h1
  dsimp only at h1
  by_cases e : nameErr s ((allNames g).take (g.toks.length + i)) = 0
  · have := nameErr_zero e
    have e2 : (allNames g).take (g.toks.length + i) = tokNames g ++ g.rules.take i := by
      unfold allNames
      rw [show g.toks.length = (tokNames g).length by simp [tokNames], List.take_length_add_append]
    rw [e2, List.mem_append] at this
    exact ⟨this.1, fun hm => this.2 (.inl hm), fun hm => this.2 (.inr hm)⟩
  · rw [if_pos e] at h1
    exact absurd h1 e
theorem find_first {l : List ByteArray} {i : Nat} {s : ByteArray} (h : l[i]? = some s) (hn : s ∉ l.take i) : findOf l s = (i : Int) := find_hit h (fun m hm he => hn (List.mem_of_getElem? (i := m) (by rw [List.getElem?_take_of_lt hm]; exact he)))
theorem find_not {l : List ByteArray} {s : ByteArray} (hn : s ∉ l) : findOf l s = -1 := find_miss (fun _ _ he => hn (List.mem_of_getElem? he))
theorem RightG.findTok {g : Gram} (h : RightG g) {i : Nat} {t : Token} (ht : g.toks[i]? = some t) : isRule g t.name = false ∧ findNo g t.name = i := by
  have e : findOf (tokNames g) t.name = (i : Int) := find_first (by simp [tokNames, ht]) (h.tokName ht).2
  unfold isRule findNo
  rw [e, if_pos (by omega), decide_eq_false (by omega)]
  exact ⟨rfl, rfl⟩
theorem RightG.findRule {g : Gram} (h : RightG g) {i : Nat} {s : ByteArray} (hs : g.rules[i]? = some s) : isRule g s = true ∧ findNo g s = i := by
  obtain ⟨_, h1, h2⟩ := h.ruleName hs
  have e1 := find_not h1
  have e2 := find_first hs h2
  unfold isRule findNo
  rw [e1, e2, if_neg (by omega), decide_eq_true (by omega), decide_eq_true (by omega)]
  exact ⟨rfl, rfl⟩
theorem RightG.someOf {g : Gram} (h : RightG g) {i : Nat} (hi : i < g.rules.length) : (ofRule g i).length ≠ 0 := by
  have := h.none_ i hi
  unfold noneD at this
  split at this
  · cases this
  · assumption
theorem mem_ofRule {g : Gram} {r x : Int} : x ∈ ofRule g r ↔ ∃ (j : Nat) (p : Prod), g.prods[j]? = some p ∧ p.left = r ∧ x = j := by
  unfold ofRule ofUpto
  rw [List.mem_map]
  constructor
  · rintro ⟨j, hj, rfl⟩
    rw [List.mem_filter, List.mem_range] at hj
    obtain ⟨h1, h2⟩ := hj
    have hx := List.getElem?_eq_getElem h1
    unfold isOf at h2
    rw [hx] at h2
    exact ⟨j, _, hx, by simpa using h2, rfl⟩
  · rintro ⟨j, p, h1, h2, rfl⟩
    refine ⟨j, ?_, rfl⟩
    rw [List.mem_filter, List.mem_range]
    refine ⟨(List.getElem?_eq_some_iff.1 h1).1, ?_⟩
    unfold isOf
    rw [h1]
    simpa using h2
theorem ofRule_nodup (g : Gram) (r : Int) : (ofRule g r).Nodup := by
  unfold ofRule ofUpto List.Nodup
  rw [List.pairwise_map]
  refine (List.Pairwise.filter _ List.pairwise_lt_range).imp ?_
  intro a b h
  omega
theorem RightG.left {g : Gram} (h : RightG g) {j : Nat} {p : Prod} (hp : g.prods[j]? = some p) : 0 ≤ p.left ∧ p.left < g.rules.length := by
  have := h.prod j (List.getElem?_eq_some_iff.1 hp).1
  unfold prodD at this
  rw [hp] at this
  dsimp only at this
  unfold prodErr at this
  split at this
  · cases this
  · omega
theorem mem_allOf {g : Gram} {x : Int} : ∀ k : Nat, x ∈ allOf g k ↔ ∃ (j : Nat) (p : Prod), g.prods[j]? = some p ∧ (0 ≤ p.left ∧ p.left < k) ∧ x = j := by
  intro k
  induction k with
  | zero => exact ⟨(fun h => by cases h), (fun ⟨j, p, _, h, _⟩ => by omega)⟩
  | succ k ih =>
    unfold allOf
    rw [List.mem_append, ih, mem_ofRule]
    constructor
    · rintro (⟨j, p, h1, h2, h3⟩ | ⟨j, p, h1, h2, h3⟩)
      · exact ⟨j, p, h1, by omega, h3⟩
      · exact ⟨j, p, h1, by omega, h3⟩
    · rintro ⟨j, p, h1, h2, h3⟩
      by_cases e : p.left = k
      · exact .inr ⟨j, p, h1, e, h3⟩
      · exact .inl ⟨j, p, h1, by omega, h3⟩
theorem allOf_nodup (g : Gram) : ∀ k : Nat, (allOf g k).Nodup := by
  intro k
  induction k with
  | zero => exact List.nodup_nil
  | succ k ih =>
    unfold allOf
    rw [List.nodup_append]
    refine ⟨ih, ofRule_nodup g k, fun a ha b hb e => ?_⟩
    subst e
    rw [mem_allOf] at ha
    rw [mem_ofRule] at hb
    obtain ⟨j, p, h1, h2, rfl⟩ := ha
    obtain ⟨j', p', h1', h2', h3'⟩ := hb
    obtain rfl : j = j' := by omega
    rw [h1] at h1'; cases h1'
    omega
theorem RightG.allLen {g : Gram} (h : RightG g) : (allOf g g.rules.length).length = g.prods.length := by
  have hn : ((List.range g.prods.length).map (fun (i : Nat) => (i : Int))).Nodup := by
    unfold List.Nodup
    rw [List.pairwise_map]
    exact List.pairwise_lt_range.imp (fun h => by omega)
  have hp : (allOf g g.rules.length).Perm ((List.range g.prods.length).map (fun (i : Nat) => (i : Int))) := by
    rw [List.perm_ext_iff_of_nodup (allOf_nodup g _) hn]
    intro x
    rw [mem_allOf, List.mem_map]
    constructor
    · rintro ⟨j, p, h1, _, rfl⟩
      exact ⟨j, List.mem_range.2 (List.getElem?_eq_some_iff.1 h1).1, rfl⟩
    · rintro ⟨j, hj, rfl⟩
      have hx := List.getElem?_eq_getElem (List.mem_range.1 hj)
      exact ⟨j, _, hx, h.left hx, rfl⟩
  rw [hp.length_eq, List.length_map, List.length_range]
theorem mem_putOf {l : List Int} {n x : Int} : x ∈ putOf l n ↔ x ∈ l ∨ x = n := by
  unfold putOf
  split
  · rename_i h
    have := holdsB_iff.1 h
    exact ⟨.inl, fun h => h.elim id (fun e => e ▸ this)⟩
  · rw [List.mem_append, List.mem_cons]
    constructor
    · rintro (h | h | h)
      · exact .inl (List.takeWhile_subset _ h)
      · exact .inr h
      · exact .inl (List.dropWhile_subset _ h)
    · rintro (h | h)
      · rw [← List.takeWhile_append_dropWhile (p := fun x => decide (x < n)) (l := l), List.mem_append] at h
        exact h.elim .inl (fun h => .inr (.inr h))
      · exact .inr (.inl h)
theorem putOf_new {l : List Int} {n : Int} (h : n ∉ l) : (putOf l n).length = l.length + 1 := by
  unfold putOf
  rw [if_neg (by rw [holdsB_false h]; decide)]
  have := List.takeWhile_append_dropWhile (p := fun x => decide (x < n)) (l := l)
  have h2 := congrArg List.length this
  rw [List.length_append] at h2
  rw [List.length_append, List.length_cons]
  omega
theorem fold_put_nodup : ∀ (l acc : List Int), l.Nodup → (∀ x ∈ l, x ∉ acc) → (l.foldl putOf acc).length = acc.length + l.length := by
  intro l
  induction l with
  | nil => intro acc _ _; simp
  | cons x l ih =>
    intro acc hn hd
    rw [List.nodup_cons] at hn
    rw [List.foldl_cons, ih (putOf acc x) hn.2 (fun y hy hm => by
      rw [mem_putOf] at hm
      rcases hm with hm | rfl
      · exact hd y (List.mem_cons_of_mem _ hy) hm
      · exact hn.1 hy), putOf_new (hd x (List.mem_cons_self ..)), List.length_cons]
    omega
theorem setOf_nodup {l : List Int} (h : l.Nodup) : (setOf l).length = l.length := by
  unfold setOf
  rw [fold_put_nodup l [] h (fun _ _ h => by cases h)]
  simp
theorem nodup_sub_len : ∀ (l m : List Int), l.Nodup → (∀ x ∈ l, x ∈ m) → l.length ≤ m.length := by
  intro l
  induction l with
  | nil => intro m _ _; simp
  | cons x l ih =>
    intro m hn hs
    rw [List.nodup_cons] at hn
    have hx := hs x (List.mem_cons_self ..)
    have := ih (m.erase x) hn.2 (fun y hy => by
      have hne : y ≠ x := fun e => hn.1 (e ▸ hy)
      exact (List.mem_erase_of_ne hne).2 (hs y (List.mem_cons_of_mem _ hy)))
    rw [List.length_erase_of_mem hx] at this
    have := List.length_pos_of_mem hx
    rw [List.length_cons]
    omega
theorem allOf_len_le (g : Gram) (k : Nat) : (allOf g k).length ≤ g.prods.length := by
  have hsub : ∀ x ∈ allOf g k, x ∈ (List.range g.prods.length).map (fun (i : Nat) => (i : Int)) := by
    intro x hx
    rw [mem_allOf] at hx
    obtain ⟨j, p, h1, _, rfl⟩ := hx
    exact List.mem_map.2 ⟨j, List.mem_range.2 (List.getElem?_eq_some_iff.1 h1).1, rfl⟩
  have := nodup_sub_len _ _ (allOf_nodup g k) hsub
  rwa [List.length_map, List.length_range] at this
end Go.Proofs.Ytaagkbgbghleiaa
