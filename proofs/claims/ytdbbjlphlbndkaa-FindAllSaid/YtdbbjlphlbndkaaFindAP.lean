/-
  FindAll, plainly: each node that has a name of its own has one of the grammar's names, and these are distinct.
-/
import Derived.Test.YtdbbjlphlbndkaaFindLP
import Derived.Test.YtdbbjlphlbndkaaG4
namespace Go.Proofs.Ytdbbjlphlbndkaa.T
open Go.RowKit Go.Shelf

abbrev star41 : ByteArray := ⟨#[47, 47, 42]⟩
abbrev all41 : ByteArray := ⟨#[42]⟩
theorem names_are {g : Gram} (h : rightB g = true) {k : Nat} {s : ByteArray} (hs : (allNames g)[k]? = some s) : nameB s = true ∧ s ∉ (allNames g).take k := by
  have hr := (right_iff g).1 (by unfold rightB at h; simpa using h)
  unfold allNames at hs ⊢
  by_cases hk : k < (tokNames g).length
  · rw [List.getElem?_append_left hk] at hs
    have hl : k < g.toks.length := by unfold tokNames at hk; simpa using hk
    obtain ⟨h1, h2⟩ := hr.tokName (List.getElem?_eq_getElem hl)
    have e : s = g.toks[k].name := by
      unfold tokNames at hs
      rw [List.getElem?_map, List.getElem?_eq_getElem hl] at hs
      exact (Option.some.inj hs).symm
    subst e
    rw [List.take_append_of_le_length (Nat.le_of_lt hk)]
    exact ⟨h1, h2⟩
  · rw [List.getElem?_append_right (by omega)] at hs
    obtain ⟨h1, h2, h3⟩ := hr.ruleName hs
    rw [List.take_append]
    refine ⟨h1, fun hm => ?_⟩
    rcases List.mem_append.1 hm with hm | hm
    · exact h2 (List.mem_of_mem_take hm)
    · exact h3 hm
theorem own_in {g : Gram} {x : Node} {o : ByteArray} (h : ownOf g x = some o) : o ∈ allNames g := by
  unfold ownOf at h
  unfold allNames
  split at h
  · cases h
  · split at h
    · split at h
      · exact List.mem_append_right _ (List.mem_of_getElem? h)
      · cases h
    · split at h
      · split at h
        · rename_i t ht
          cases h
          unfold tokNames
          exact List.mem_append_left _ (List.mem_map.2 ⟨t, List.mem_of_getElem? ht, rfl⟩)
        · cases h
      · cases h
/-- What a node at a place is named. -/
def ownAt (g : Gram) (t : List Node) (i : Nat) : Option ByteArray := match t[i]? with | some x => ownOf g x | none => none
theorem isN_own {g : Gram} {t : List Node} {nm : ByteArray} {i : Nat} : isN g t nm i = match ownAt g t i with | none => false | some o => (nm.toList == [42]) || (nm.toList == o.toList) := by
  unfold isN ownAt namedD
  cases t[i]? <;> rfl
theorem isN_all {g : Gram} {t : List Node} {i : Nat} : isN g t all41 i = (ownAt g t i).isSome := by
  rw [isN_own]
  cases ownAt g t i with
  | none => rfl
  | some o => simp
theorem no_star {s : ByteArray} (h : nameB s = true) : (s.toList == [42]) = false ∧ s.size ≠ 0 ∧ s.size ≤ 32 ∧ ∀ c ∈ s.data.toList, c ≠ 47 := by
  obtain ⟨h1, h2, h3⟩ := holdsB_iff.1 h
  have hc : ∀ i (c : UInt8), s.data.toList[i]? = some c → okAt (c.toNat : Int) i := fun i c hi => by
    obtain ⟨hl, e⟩ := List.getElem?_eq_some_iff.1 hi
    rw [dataL] at hl
    have := h3 i hl
    have e2 : s[i]'hl = c := e
    rwa [e2] at this
  have hno : ∀ c : UInt8, (c = 47 ∨ c = 42) → ∀ i, ¬ okAt (c.toNat : Int) i := by
    rintro c (rfl | rfl) i hh
    · have e : partOf (((47 : UInt8).toNat : Nat) : Int) = 0 := by decide
      unfold okAt at hh
      rw [e] at hh
      omega
    · have e : partOf (((42 : UInt8).toNat : Nat) : Int) = 0 := by decide
      unfold okAt at hh
      rw [e] at hh
      omega
  refine ⟨?_, by omega, h2, fun c hm e => ?_⟩
  · rw [Bool.eq_false_iff]
    intro e
    rw [ByteArray.toList_eq, beq_iff_eq] at e
    exact hno 42 (.inr rfl) 0 (hc 0 42 (by rw [e]; rfl))
  · obtain ⟨i, hi⟩ := List.mem_iff_getElem?.1 hm
    exact hno c (.inl e) i (hc i c hi)
theorem isN_name {g : Gram} {t : List Node} {nm : ByteArray} (h : nameB nm = true) {i : Nat} : isN g t nm i = true ↔ ownAt g t i = some nm := by
  rw [isN_own]
  have h1 := (no_star h).1
  cases ownAt g t i with
  | none => simp
  | some o =>
    dsimp only
    rw [h1, Bool.false_or, beq_iff_eq, Option.some_inj]
    exact ⟨fun e => (toList_inj e).symm, fun e => by rw [e]⟩
theorem endOf_none : ∀ l : List UInt8, (∀ c ∈ l, c ≠ 47) → endOf l = l.length := by
  intro l
  induction l with
  | nil => intro _; rfl
  | cons x l ih => intro h; rw [endOf_cons, if_neg (h x List.mem_cons_self), ih (fun c hc => h c (List.mem_cons_of_mem _ hc)), List.length_cons]
theorem steps_one {nm : ByteArray} (h : ∀ c ∈ nm.data.toList, c ≠ 47) : stepsL ((⟨#[47, 47]⟩ : ByteArray) ++ nm).data.toList = [(nm, true)] := by
  have hd : ((⟨#[47, 47]⟩ : ByteArray) ++ nm).data.toList = 47 :: 47 :: nm.data.toList := by simp
  rw [hd, stepsL_cons (by simp)]
  have hg : goesAll (47 :: 47 :: nm.data.toList) = true := by simp [goesAll, Lib.hasPrefix, List.isPrefixOf]
  have ht : tailOf (47 :: 47 :: nm.data.toList) = nm.data.toList := by unfold tailOf; rw [if_pos hg]; rfl
  rw [hg, ht, endOf_none _ h, List.take_length, List.drop_length, stepsL_nil]
theorem check_one {g : Gram} {nm : ByteArray} (hr : rightB g = true) (h1 : ∀ c ∈ nm.data.toList, c ≠ 47) (h2 : nm.size ≤ 32) (h3 : badStep g nm = 0) : checkF g ((⟨#[47, 47]⟩ : ByteArray) ++ nm) = 0 := by
  have hz : ((⟨#[47, 47]⟩ : ByteArray) ++ nm).size = 2 + nm.size := by rw [ByteArray.size_append]; rfl
  have hd : ((⟨#[47, 47]⟩ : ByteArray) ++ nm).data.toList = 47 :: 47 :: nm.data.toList := by simp
  unfold checkF
  rw [hr, if_neg (by decide), if_neg (by omega), if_neg (by rw [hd]; simp [Lib.hasPrefix]), steps_one h1]
  exact checkL_ok (by intro x hx; simp at hx; subst hx; exact h3)
theorem row_one {g : Gram} {t : List Node} {nm : ByteArray} (ht : Tree t) (hr : rightB g = true) (h1 : ∀ c ∈ nm.data.toList, c ≠ 47) (h2 : nm.size ≤ 32) (h3 : badStep g nm = 0) :
    ofErr g t ((⟨#[47, 47]⟩ : ByteArray) ++ nm) = 0 ∧ ofRow g t ((⟨#[47, 47]⟩ : ByteArray) ++ nm) = (List.range t.length).filter fun i => decide (0 < i) && isN g t nm i := by
  have hc := check_one hr h1 h2 h3
  have he : ofErr g t ((⟨#[47, 47]⟩ : ByteArray) ++ nm) = 0 := by
    unfold ofErr
    rw [if_neg (by rw [hc]; decide), if_neg (by rw [treeB_iff.2 ht]; decide)]
  refine ⟨he, ?_⟩
  have hpos : 0 < t.length := by obtain ⟨⟨x, hx, _⟩, _⟩ := ht; exact (List.getElem?_eq_some_iff.1 hx).1
  have hz0 := tree_sz0 ht
  unfold ofRow
  rw [if_neg (by rw [he]; decide), steps_one h1]
  unfold foundO foundK
  rw [nowO_len]
  refine List.filter_congr fun i hi => ?_
  have hil := List.mem_range.1 hi
  rw [Bool.eq_iff_iff, onAt_iff, now_on hpos, Bool.and_eq_true, decide_eq_true_iff]
  constructor
  · rintro ⟨b, h4, h5, h6, h7⟩
    cases h7
    exact ⟨(row_in ht hpos h4).1, h6⟩
  · rintro ⟨h4, h5⟩
    refine ⟨i, ?_, hil, h5, rfl⟩
    unfold rowO
    rw [if_pos rfl, List.mem_range'_1]
    omega
/-- How many nodes have one of these names. -/
noncomputable def cntA (g : Gram) (t : List Node) (l : List ByteArray) : Nat := ((List.range t.length).filter fun i => decide (0 < i) && (match ownAt g t i with | some o => holdsB (o ∈ l) | none => false)).length
theorem filter_or {l : List Nat} {p q r : Nat → Bool} (h : ∀ i ∈ l, p i = (q i || r i)) (hd : ∀ i ∈ l, q i = true → r i = true → False) : (l.filter p).length = (l.filter q).length + (l.filter r).length := by
  induction l with
  | nil => rfl
  | cons x l ih =>
    have h1 := ih (fun i hi => h i (List.mem_cons_of_mem _ hi)) (fun i hi => hd i (List.mem_cons_of_mem _ hi))
    have h2 := h x List.mem_cons_self
    have h3 := hd x List.mem_cons_self
    rw [List.filter_cons, List.filter_cons, List.filter_cons]
    cases hq : q x <;> cases hr : r x <;> rw [hq, hr] at h2 <;> simp only [Bool.or_self, Bool.or_false, Bool.or_true] at h2 <;> rw [h2] <;> simp <;> first | omega | exact absurd hr (fun e => h3 hq e)
theorem cnt_step {g : Gram} {t : List Node} (hr : rightB g = true) {k : Nat} {nm : ByteArray} (hk : (allNames g)[k]? = some nm) :
    cntA g t ((allNames g).take (k + 1)) = cntA g t ((allNames g).take k) + ((List.range t.length).filter fun i => decide (0 < i) && isN g t nm i).length := by
  obtain ⟨h1, h2⟩ := names_are hr hk
  unfold cntA
  refine filter_or (fun i _ => ?_) (fun i _ ha hb => ?_)
  · rw [Bool.eq_iff_iff, Bool.or_eq_true, Bool.and_eq_true, Bool.and_eq_true, Bool.and_eq_true, isN_name h1]
    cases ownAt g t i with
    | none => simp
    | some o =>
      simp only [decide_eq_true_iff, holdsB_iff, Option.some_inj]
      rw [List.take_add_one, hk, List.mem_append]
      simp only [Option.toList_some, List.mem_singleton]
      constructor
      · rintro ⟨a, b | b⟩
        · exact .inl ⟨a, b⟩
        · exact .inr ⟨a, b⟩
      · rintro (⟨a, b⟩ | ⟨a, b⟩)
        · exact ⟨a, .inl b⟩
        · exact ⟨a, .inr b⟩
  · rw [Bool.and_eq_true] at ha hb
    have := (isN_name h1).1 hb.2
    rw [this] at ha
    exact h2 (holdsB_iff.1 ha.2)
theorem cnt_all {g : Gram} {t : List Node} : cntA g t (allNames g) = ((List.range t.length).filter fun i => decide (0 < i) && isN g t all41 i).length := by
  unfold cntA
  congr 1
  refine List.filter_congr fun i _ => ?_
  rw [isN_all]
  cases h : ownAt g t i with
  | none => rfl
  | some o =>
    have : o ∈ allNames g := by
      unfold ownAt at h
      split at h
      · exact own_in h
      · cases h
    simp [holdsB_true this]
theorem bad_all (g : Gram) : badStep g all41 = 0 := by
  unfold badStep
  rw [show (all41.toList == [42]) = true from by kernel_rfl, if_pos rfl]
theorem bad_name {g : Gram} {k : Nat} {nm : ByteArray} (hr : rightB g = true) (hk : (allNames g)[k]? = some nm) : badStep g nm = 0 := by
  obtain ⟨h1, h2⟩ := names_are hr hk
  obtain ⟨h3, h4, _⟩ := no_star h1
  unfold badStep
  rw [h3, if_neg (by decide)]
  have he : nm.toList.isEmpty = false := by
    rw [emptyL]; simpa using h4
  rw [he, if_neg (by decide), h1, if_neg (by decide)]
  have hm := List.mem_of_getElem? hk
  unfold allNames at hm
  have : ¬ findNo g nm < 0 := by
    rcases List.mem_append.1 hm with hm | hm
    · have := (find_mem (tokNames g) nm).2 hm
      unfold findNo
      rw [if_pos this]
      omega
    · have := (find_mem g.rules nm).2 hm
      unfold findNo
      split <;> omega
  rw [if_neg this]
/-- FindAll, plainly. -/
theorem all_laws {g : Gram} {t : List Node} (ht : Tree t) (hr : rightB g = true) :
    ofErr g t star41 = 0 ∧ (∀ i, i ∈ ofRow g t star41 ↔ 0 < i ∧ i < t.length ∧ isN g t all41 i = true) ∧ (ofRow g t star41).Pairwise (· < ·) ∧ (ofRow g t star41).length = cntA g t (allNames g) ∧
    ∀ (k : Nat) (nm : ByteArray), (allNames g)[k]? = some nm → nm.size ≤ 32 ∧ ofErr g t ((⟨#[47, 47]⟩ : ByteArray) ++ nm) = 0 ∧ cntA g t ((allNames g).take (k + 1)) = cntA g t ((allNames g).take k) + (ofRow g t ((⟨#[47, 47]⟩ : ByteArray) ++ nm)).length ∧
      ∀ i ∈ ofRow g t ((⟨#[47, 47]⟩ : ByteArray) ++ nm), i < t.length ∧ i ∈ ofRow g t star41 ∧ isN g t nm i = true := by
  have e : star41 = (⟨#[47, 47]⟩ : ByteArray) ++ all41 := by
    apply ByteArray.ext
    apply Array.toList_inj.1
    simp
  have hs : ∀ c ∈ all41.data.toList, c ≠ 47 := by intro c hc; simp at hc; subst hc; decide
  obtain ⟨a1, a2⟩ := row_one (g := g) ht hr hs (by decide) (bad_all g)
  rw [← e] at a1 a2
  have hmem : ∀ i, i ∈ ofRow g t star41 ↔ 0 < i ∧ i < t.length ∧ isN g t all41 i = true := fun i => by
    rw [a2, List.mem_filter, List.mem_range, Bool.and_eq_true, decide_eq_true_iff]
    exact ⟨fun h => ⟨h.2.1, h.1, h.2.2⟩, fun h => ⟨h.2.1, h.1, h.2.2⟩⟩
  refine ⟨a1, hmem, ?_, by rw [a2, cnt_all], fun k nm hk => ?_⟩
  · rw [a2]
    exact List.Pairwise.sublist List.filter_sublist List.pairwise_lt_range
  · obtain ⟨h1, _⟩ := names_are hr hk
    obtain ⟨_, _, h3, h4⟩ := no_star h1
    obtain ⟨b1, b2⟩ := row_one (g := g) ht hr h4 h3 (bad_name hr hk)
    refine ⟨h3, b1, by rw [cnt_step hr hk, b2], fun i hi => ?_⟩
    rw [b2, List.mem_filter, List.mem_range, Bool.and_eq_true, decide_eq_true_iff] at hi
    refine ⟨hi.1, (hmem i).2 ⟨hi.2.1, hi.1, ?_⟩, hi.2.2⟩
    rw [isN_all, (isN_name h1).1 hi.2.2]
    rfl
end Go.Proofs.Ytdbbjlphlbndkaa.T
