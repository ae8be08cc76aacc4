/-
  What two selectors put together find (plain): first the one, then the other beneath.
-/
import Derived.Test.YtdbbjlphlbndkaaGreatFindX
import Derived.Test.YtdbbjlphlbndkaaGreatT3
import Derived.Test.YtdbbjlphlbndkaaGreatAscU
import Derived.Test.YtdbbjlphlbndkaaGreatSetsT
namespace Go.Proofs.YtdbbjlphlbndkaaGreat.T
open Go.RowKit Go.Shelf

def onAt (s : List Bool) (i : Nat) : Prop := s[i]? = some true
theorem onAt_iff {s : List Bool} {i : Nat} : s[i]?.getD false = true ↔ onAt s i := by
  unfold onAt
  cases h : s[i]? with
  | none => simp
  | some b => cases b <;> simp
theorem onAt_lt {s : List Bool} {i : Nat} (h : onAt s i) : i < s.length := (List.getElem?_eq_some_iff.1 h).1
theorem takeF_on {g : Gram} {t : List Node} {nm : ByteArray} {s : List Bool} {i j : Nat} : onAt (takeF g t nm s i) j ↔ onAt s j ∨ (j = i ∧ j < s.length ∧ isN g t nm j = true) := by
  unfold takeF
  by_cases e : i = j
  · subst e
    by_cases hl : i < s.length
    · have h1 : onAt (s.set i (s[i]?.getD false || isN g t nm i)) i ↔ (s[i]?.getD false || isN g t nm i) = true := by
        unfold onAt
        rw [List.getElem?_set_self hl]
        exact Option.some_inj
      rw [h1, Bool.or_eq_true, onAt_iff]
      exact ⟨fun h => h.imp id (fun h => ⟨rfl, hl, h⟩), fun h => h.imp id (fun h => h.2.2)⟩
    · have h1 : s.set i (s[i]?.getD false || isN g t nm i) = s := List.set_eq_of_length_le (by omega)
      rw [h1]
      exact ⟨.inl, fun h => h.elim id (fun h => absurd h.2.1 hl)⟩
  · have h1 : onAt (s.set i (s[i]?.getD false || isN g t nm i)) j ↔ onAt s j := by
      unfold onAt
      rw [List.getElem?_set_ne e]
    rw [h1]
    exact ⟨.inl, fun h => h.elim id (fun h => absurd h.1.symm e)⟩
theorem takes_on {g : Gram} {t : List Node} {nm : ByteArray} {j : Nat} : ∀ (l : List Nat) (s : List Bool), onAt (l.foldl (takeF g t nm) s) j ↔ onAt s j ∨ (j ∈ l ∧ j < s.length ∧ isN g t nm j = true) := by
  intro l
  induction l with
  | nil => intro s; simp
  | cons x l ih =>
    intro s
    rw [List.foldl_cons, ih, takeF_on, takeF_len, List.mem_cons]
    constructor
    · rintro ((h | ⟨rfl, h⟩) | ⟨h1, h2⟩)
      · exact .inl h
      · exact .inr ⟨.inl rfl, h⟩
      · exact .inr ⟨.inr h1, h2⟩
    · rintro (h | ⟨rfl | h1, h2⟩)
      · exact .inl (.inl h)
      · exact .inl (.inr ⟨rfl, h2⟩)
      · exact .inr ⟨h1, h2⟩
theorem oneO_on {g : Gram} {t : List Node} {x : ByteArray × Bool} {s : List Bool} {a j : Nat} {b : Bool} : onAt (oneO g t x s a b) j ↔ onAt s j ∨ (b = true ∧ j ∈ rowO t x.2 a ∧ j < s.length ∧ isN g t x.1 j = true) := by
  unfold oneO
  cases b
  · simp
  · rw [if_pos rfl, takes_on]
    simp
theorem passK_on {g : Gram} {t : List Node} {x : ByteArray × Bool} {now : List Bool} {j : Nat} : ∀ k, onAt (passK g t x now k) j ↔ ∃ a, a < k ∧ onAt now a ∧ j ∈ rowO t x.2 a ∧ j < t.length ∧ isN g t x.1 j = true := by
  intro k
  induction k with
  | zero =>
    constructor
    · intro h
      exfalso
      unfold passK onAt at h
      simp [List.getElem?_replicate] at h
    · rintro ⟨a, h, _⟩; omega
  | succ k ih =>
    rw [passK_succ, oneO_on, ih, passK_len, onAt_iff]
    constructor
    · rintro (⟨a, h1, h2⟩ | ⟨h1, h2⟩)
      · exact ⟨a, by omega, h2⟩
      · exact ⟨k, by omega, h1, h2⟩
    · rintro ⟨a, h1, h2⟩
      by_cases e : a = k
      · subst e; exact .inr h2
      · exact .inl ⟨a, by omega, h2⟩
/-- What is come to from a node, step by step. -/
def reachO (g : Gram) (t : List Node) : List (ByteArray × Bool) → Nat → Nat → Prop
  | [], a, i => a = i
  | x :: xs, a, i => ∃ b, b ∈ rowO t x.2 a ∧ b < t.length ∧ isN g t x.1 b = true ∧ reachO g t xs b i
theorem run_on {g : Gram} {t : List Node} {i : Nat} : ∀ (xs : List (ByteArray × Bool)) (s : List Bool), s.length = t.length → (onAt (xs.foldl (passO g t) s) i ↔ ∃ a, a < t.length ∧ onAt s a ∧ reachO g t xs a i) := by
  intro xs
  induction xs with
  | nil =>
    intro s hs
    constructor
    · intro h
      exact ⟨i, by rw [← hs]; exact onAt_lt h, h, rfl⟩
    · rintro ⟨a, _, h, e⟩
      cases e
      exact h
  | cons x xs ih =>
    intro s hs
    rw [List.foldl_cons, ih (passO g t s x) (show (passO g t s x).length = t.length from passK_len _ _ _ _ _)]
    constructor
    · rintro ⟨b, h1, h2, h3⟩
      obtain ⟨a, h4, h5, h6, h7, h8⟩ := (passK_on _).1 h2
      exact ⟨a, h4, h5, b, h6, h7, h8, h3⟩
    · rintro ⟨a, h4, h5, b, h6, h7, h8, h3⟩
      exact ⟨b, h7, (passK_on _).2 ⟨a, h4, h5, h6, h7, h8⟩, h3⟩
theorem now_on {g : Gram} {t : List Node} {i : Nat} (h : 0 < t.length) (xs : List (ByteArray × Bool)) : onAt (nowO g t xs) i ↔ reachO g t xs 0 i := by
  unfold nowO
  rw [run_on _ _ (by simp)]
  constructor
  · rintro ⟨a, h1, h2, h3⟩
    have : a = 0 := by
      unfold onAt at h2
      by_cases e : a = 0
      · exact e
      · rw [List.getElem?_set_ne (fun e' => e e'.symm), List.getElem?_replicate] at h2
        split at h2 <;> simp at h2
    subst this
    exact h3
  · intro h3
    exact ⟨0, h, by unfold onAt; rw [List.getElem?_set_self (by simpa using h)], h3⟩
theorem reach_append {g : Gram} {t : List Node} {i : Nat} (ys : List (ByteArray × Bool)) : ∀ (xs : List (ByteArray × Bool)) (a : Nat), reachO g t (xs ++ ys) a i ↔ ∃ b, reachO g t xs a b ∧ reachO g t ys b i := by
  intro xs
  induction xs with
  | nil =>
    intro a
    exact ⟨fun h => ⟨a, rfl, h⟩, fun ⟨b, h1, h2⟩ => by cases h1; exact h2⟩
  | cons x xs ih =>
    intro a
    constructor
    · rintro ⟨b, h1, h2, h3, h4⟩
      obtain ⟨c, h5, h6⟩ := (ih b).1 h4
      exact ⟨c, ⟨b, h1, h2, h3, h5⟩, h6⟩
    · rintro ⟨c, ⟨b, h1, h2, h3, h5⟩, h6⟩
      exact ⟨b, h1, h2, h3, (ih b).2 ⟨c, h5, h6⟩⟩

theorem kidsOf_at {t : List Node} (ht : Tree t) {a : Nat} (ha : a < t.length) : kidsOf t (a : Int) = kidsL t a := by
  unfold kidsOf
  rw [if_pos (placeB_iff.2 ⟨by omega, by omega, ht⟩), Int.toNat_natCast]
theorem row_in {t : List Node} (ht : Tree t) {al : Bool} {p b : Nat} (hp : p < t.length) (h : b ∈ rowO t al p) : p < b ∧ b < p + sz t p := by
  have hn := tree_node ht hp
  unfold rowO at h
  cases al
  · rw [if_neg (by decide), kidsOf_at ht hp] at h
    have := kidsFrom_in _ _ (Nat.le_refl _) b h
    omega
  · rw [if_pos rfl, List.mem_range'_1] at h
    omega
theorem kids_sub {t : List Node} {a m : Nat} : ∀ n k e, e - k ≤ n → e ≤ sz t a → (m ∈ kidsFrom (subL t a) e k ↔ a + m ∈ kidsFrom t (a + e) (a + k)) := by
  intro n
  induction n with
  | zero => intro k e h he; rw [kidsFrom_ge (by omega), kidsFrom_ge (by omega)]; simp
  | succ n ih =>
    intro k e h he
    by_cases hk : k < e
    · have e1 : kidsFrom (subL t a) e k = k :: kidsFrom (subL t a) e (k + max 1 (sz (subL t a) k)) := by rw [kidsFrom, if_pos hk]
      have e2 : kidsFrom t (a + e) (a + k) = (a + k) :: kidsFrom t (a + e) (a + k + max 1 (sz t (a + k))) := by rw [kidsFrom, if_pos (show a + k < a + e by omega)]
      rw [e1, e2, List.mem_cons, List.mem_cons, subL_sz (by omega), ih _ _ (by omega) he, Nat.add_assoc]
      constructor
      · rintro (h | h)
        · exact .inl (by omega)
        · exact .inr h
      · rintro (h | h)
        · exact .inl (by omega)
        · exact .inr h
    · rw [kidsFrom_ge hk, kidsFrom_ge (by omega)]; simp
theorem row_sub {t : List Node} (ht : Tree t) {al : Bool} {a c k : Nat} (ha : a < t.length) (hc : c < sz t a) : k ∈ rowO (subL t a) al c ↔ a + k ∈ rowO t al (a + c) := by
  have hn := tree_node ht ha
  have hl := subL_len ht ha
  unfold rowO
  cases al
  · rw [if_neg (by decide), if_neg (by decide), kidsOf_at (sub_tree ht ha) (by omega), kidsOf_at ht (by omega)]
    have hb := sub_tree ht ha
    have h2 := tree_node hb (k := c) (by omega)
    have h3 := kids_sub (t := t) (a := a) (m := k) _ (c + 1) (c + sz (subL t a) c) (Nat.le_refl _) (by omega)
    unfold kidsL
    rw [h3, subL_sz hc]
    rw [show a + (c + sz t (a + c)) = a + c + sz t (a + c) by omega, show a + (c + 1) = a + c + 1 by omega]
  · rw [if_pos rfl, if_pos rfl, List.mem_range'_1, List.mem_range'_1, subL_sz hc]
    omega
theorem isN_sub {g : Gram} {t : List Node} {nm : ByteArray} {a k : Nat} (hk : k < sz t a) : isN g (subL t a) nm k = isN g t nm (a + k) := by unfold isN; rw [subL_at hk]
theorem node_in {t : List Node} (ht : Tree t) {a c : Nat} (ha : a < t.length) (hc : c < sz t a) : a + c + sz t (a + c) ≤ a + sz t a := by
  have hl := subL_len ht ha
  obtain ⟨_, h2, _⟩ := tree_node (sub_tree ht ha) (k := c) (by omega)
  rw [subL_sz hc] at h2
  omega
theorem reach_sub {g : Gram} {t : List Node} (ht : Tree t) {a : Nat} (ha : a < t.length) : ∀ (ys : List (ByteArray × Bool)) (c i : Nat), c < sz t a → (reachO g t ys (a + c) i ↔ ∃ k, i = a + k ∧ k < sz t a ∧ reachO g (subL t a) ys c k) := by
  intro ys
  induction ys with
  | nil =>
    intro c i hc
    constructor
    · intro h; exact ⟨c, h.symm, hc, rfl⟩
    · rintro ⟨k, rfl, _, h⟩; cases h; rfl
  | cons x ys ih =>
    intro c i hc
    have hn := node_in ht ha hc
    have hta := tree_node ht ha
    constructor
    · rintro ⟨b, h1, h2, h3, h4⟩
      have hr := row_in ht (by omega) h1
      obtain ⟨m, rfl⟩ : ∃ m, b = a + m := ⟨b - a, by omega⟩
      obtain ⟨k, rfl, hk, h5⟩ := (ih m i (by omega)).1 h4
      exact ⟨k, rfl, hk, m, (row_sub ht ha hc).2 h1, by rw [subL_len ht ha]; omega, by rw [isN_sub (by omega)]; exact h3, h5⟩
    · rintro ⟨k, rfl, hk, m, h1, h2, h3, h5⟩
      rw [subL_len ht ha] at h2
      exact ⟨a + m, (row_sub ht ha hc).1 h1, by omega, by rw [← isN_sub h2]; exact h3, (ih m _ h2).2 ⟨k, rfl, hk, h5⟩⟩

theorem found_mem {s : List Bool} {i : Nat} : i ∈ foundO s ↔ onAt s i := by
  unfold foundO foundK
  rw [List.mem_filter, List.mem_range, onAt_iff]
  exact ⟨fun h => h.2, fun h => ⟨onAt_lt h, h⟩⟩
theorem found_rise (s : List Bool) : (foundO s).Pairwise (· < ·) := List.Pairwise.sublist List.filter_sublist List.pairwise_lt_range
def castL (l : List Nat) : List Int := l.map fun (n : Nat) => (n : Int)
theorem castL_rise {l : List Nat} (h : l.Pairwise (· < ·)) : Asc (castL l) := by
  unfold castL
  exact List.pairwise_map.2 (h.imp (fun h => by omega))
/-- All that the second selector finds beneath what the first one finds. -/
noncomputable def beneathO (g : Gram) (t : List Node) (ys : List (ByteArray × Bool)) (l : List Nat) : List Nat := l.flatMap fun p => (foundO (nowO g (subL t p) ys)).map (p + ·)
theorem both_all {g : Gram} {t : List Node} (ht : Tree t) (xs ys : List (ByteArray × Bool)) : castL (foundO (nowO g t (xs ++ ys))) = setOf (castL (beneathO g t ys (foundO (nowO g t xs)))) := by
  have hpos : 0 < t.length := by obtain ⟨⟨x, hx, _⟩, _⟩ := ht; exact (List.getElem?_eq_some_iff.1 hx).1
  refine asc_ext (castL_rise (found_rise _)) (asc_setOf _) (fun z => ?_)
  rw [mem_setOf]
  unfold castL beneathO
  simp only [List.mem_map, List.mem_flatMap, found_mem, now_on hpos]
  constructor
  · rintro ⟨i, h, rfl⟩
    obtain ⟨p, h1, h2⟩ := (reach_append ys xs 0).1 h
    have hp : p < t.length := by
      have := onAt_lt ((now_on hpos xs).2 h1)
      rwa [nowO_len] at this
    have hn := tree_node ht hp
    obtain ⟨k, rfl, hk, h3⟩ := (reach_sub ht hp ys 0 i (by omega)).1 h2
    exact ⟨_, ⟨p, h1, k, (now_on (by rw [subL_len ht hp]; omega) ys).2 h3, rfl⟩, rfl⟩
  · rintro ⟨i, ⟨p, h1, k, h3, rfl⟩, rfl⟩
    have hp : p < t.length := by
      have := onAt_lt ((now_on hpos xs).2 h1)
      rwa [nowO_len] at this
    have hn := tree_node ht hp
    have hk := onAt_lt h3
    rw [nowO_len, subL_len ht hp] at hk
    exact ⟨p + k, (reach_append ys xs 0).2 ⟨p, h1, (reach_sub ht hp ys 0 _ (by omega)).2 ⟨k, rfl, hk, (now_on (by rw [subL_len ht hp]; omega) ys).1 h3⟩⟩, rfl⟩

theorem endOf_nil : endOf [] = 0 := rfl
theorem endOf_cons (x : UInt8) (l : List UInt8) : endOf (x :: l) = if x = 47 then 0 else endOf l + 1 := by
  unfold endOf
  rw [Lib.indexByte]
  by_cases h : x = 47
  · subst h
    simp
  · have hx : (x == 47) = false := by simpa using h
    rw [hx]
    simp only [Bool.false_eq_true, if_false]
    rw [if_neg h]
    have hg := Lib.indexByte_ge l 47
    by_cases h2 : Lib.indexByte l 47 = -1
    · rw [h2]
      rfl
    · have h3 : (Lib.indexByte l 47 == -1) = false := by simpa using h2
      rw [h3]
      simp only [Bool.false_eq_true, if_false]
      rw [if_neg (by omega), if_neg h2]
      omega
theorem endOf_app (r : List UInt8) : ∀ l : List UInt8, endOf (l ++ 47 :: r) = endOf l := by
  intro l
  induction l with
  | nil => rw [List.nil_append, endOf_cons, if_pos rfl, endOf_nil]
  | cons x l ih => rw [List.cons_append, endOf_cons, endOf_cons, ih]
theorem goes_app {l r : List UInt8} (h : l.drop 1 ≠ []) : goesAll (l ++ 47 :: r) = goesAll l := by
  unfold goesAll
  cases l with
  | nil => simp at h
  | cons x l =>
    cases l with
    | nil => simp at h
    | cons y l => simp [Lib.hasPrefix, List.isPrefixOf]
theorem tail_app {l r : List UInt8} (h : l.drop 1 ≠ []) : tailOf (l ++ 47 :: r) = tailOf l ++ 47 :: r := by
  unfold tailOf
  rw [goes_app h]
  cases l with
  | nil => simp at h
  | cons x l =>
    cases l with
    | nil => simp at h
    | cons y l =>
      split
      · simp
      · simp
/-- The steps of two selectors put together. -/
theorem steps_app (r : List UInt8) : ∀ (n : Nat) (l : List UInt8), l.length ≤ n → (∀ x ∈ stepsL l, x.1.size ≠ 0) → stepsL (l ++ 47 :: r) = stepsL l ++ stepsL (47 :: r) := by
  intro n
  induction n with
  | zero =>
    intro l hl _
    have : l = [] := List.eq_nil_of_length_eq_zero (by omega)
    subst this
    rw [stepsL_nil, List.nil_append, List.nil_append]
  | succ n ih =>
    intro l hl hx
    by_cases h : l = []
    · subst h
      rw [stepsL_nil, List.nil_append, List.nil_append]
    · rw [stepsL_cons h] at hx ⊢
      have h0 := hx _ List.mem_cons_self
      rw [mkS] at h0
      have htl := tailOf_le l
      have hd : l.drop 1 ≠ [] := by
        intro e
        apply h0
        unfold tailOf goesAll
        rw [e]
        simp
      have hp : 0 < l.length := List.length_pos_iff.2 h
      rw [stepsL_cons (by simp), goes_app hd, tail_app hd, endOf_app, List.take_append_of_le_length (endOf_le _), List.drop_append_of_le_length (endOf_le _),
        ih _ (by rw [List.length_drop]; omega) (fun x hxx => hx x (List.mem_cons_of_mem _ hxx)), List.cons_append]
theorem badStep_ne {g : Gram} {s : ByteArray} (h : badStep g s = 0) : s.size ≠ 0 := by
  intro e
  have h1 : s.toList = [] := by
    rw [ByteArray.toList_eq]
    exact List.length_eq_zero_iff.1 (by rw [dataL]; exact e)
  unfold badStep at h
  rw [h1] at h
  have e1 : (([] : List UInt8) == [42]) = false := rfl
  have e2 : ([] : List UInt8).isEmpty = true := rfl
  rw [e1, if_neg (by decide), e2, if_pos rfl] at h
  cases h
theorem checkL_all {g : Gram} : ∀ (l : List (ByteArray × Bool)), checkL g l = 0 → ∀ x ∈ l, badStep g x.1 = 0 := by
  intro l
  induction l with
  | nil => intro _ x hx; cases hx
  | cons y l ih =>
    intro h x hx
    rw [checkL] at h
    split at h
    · rename_i hy
      rcases List.mem_cons.1 hx with rfl | hx
      · exact hy
      · exact ih h x hx
    · rename_i hy; exact absurd h hy
theorem checkF_ok {g : Gram} {s : ByteArray} (h : checkF g s = 0) : rightB g = true ∧ s.size ≤ 256 ∧ Lib.hasPrefix s.data.toList [47] = true ∧ checkL g (stepsL s.data.toList) = 0 := by
  obtain ⟨h1, h2⟩ := checkF_right h
  unfold checkF at h
  rw [h1, if_neg (by decide), if_neg (by omega)] at h
  split at h
  · cases h
  · rename_i h3
    exact ⟨h1, h2, by simpa using h3, h⟩
theorem slash_of {l : List UInt8} (h : Lib.hasPrefix l [47] = true) : ∃ r, l = 47 :: r := by
  cases l with
  | nil => simp [Lib.hasPrefix] at h
  | cons x l => simp [Lib.hasPrefix] at h; exact ⟨l, by rw [h]⟩
/-- Two selectors that are right, put together, are right, and their steps are the one's and the other's. -/
theorem check_app {g : Gram} {a b : ByteArray} (ha : checkF g a = 0) (hb : checkF g b = 0) (hl : a.size + b.size ≤ 200) : checkF g (a ++ b) = 0 ∧ stepsL (a ++ b).data.toList = stepsL a.data.toList ++ stepsL b.data.toList := by
  obtain ⟨h1, h2, h3, h4⟩ := checkF_ok ha
  obtain ⟨_, g2, g3, g4⟩ := checkF_ok hb
  obtain ⟨ra, ea⟩ := slash_of h3
  obtain ⟨rb, eb⟩ := slash_of g3
  have hd : (a ++ b).data.toList = a.data.toList ++ b.data.toList := by simp
  have hs : stepsL (a ++ b).data.toList = stepsL a.data.toList ++ stepsL b.data.toList := by
    rw [hd, eb]
    exact steps_app rb _ _ (Nat.le_refl _) (fun x hx => badStep_ne (checkL_all _ h4 x hx))
  refine ⟨?_, hs⟩
  have hz : (a ++ b).size = a.size + b.size := by simp
  unfold checkF
  rw [h1, if_neg (by decide), if_neg (by omega), if_neg (by rw [hd, ea]; simp [Lib.hasPrefix]), hs]
  have := checkL_all _ h4
  have h5 := checkL_all _ g4
  exact checkL_ok (fun x hx => (List.mem_append.1 hx).elim (this x) (h5 x))
/-- FindSteps, plainly. -/
theorem find_app {g : Gram} {t : List Node} {a b : ByteArray} (ht : Tree t) (ha : checkF g a = 0) (hb : checkF g b = 0) (hl : a.size + b.size ≤ 200) :
    ofErr g t a = 0 ∧ ofErr g t (a ++ b) = 0 ∧ (∀ p, p < t.length → ofErr g (subL t p) b = 0) ∧ castL (ofRow g t (a ++ b)) = setOf (castL ((ofRow g t a).flatMap fun p => (ofRow g (subL t p) b).map (p + ·))) := by
  obtain ⟨h1, h2⟩ := check_app ha hb hl
  have e0 : ∀ (u : List Node) (s : ByteArray), Tree u → checkF g s = 0 → ofErr g u s = 0 := fun u s hu hs => by
    unfold ofErr
    rw [if_neg (by rw [hs]; decide), if_neg (by rw [treeB_iff.2 hu]; decide)]
  have e1 : ∀ (u : List Node) (s : ByteArray), Tree u → checkF g s = 0 → ofRow g u s = foundO (nowO g u (stepsL s.data.toList)) := fun u s hu hs => by
    unfold ofRow
    rw [if_neg (by rw [e0 u s hu hs]; decide)]
  refine ⟨e0 t a ht ha, e0 t _ ht h1, fun p hp => e0 _ b (sub_tree ht hp) hb, ?_⟩
  rw [e1 t _ ht h1, h2, both_all ht, e1 t a ht ha]
  congr 2
  unfold beneathO
  rw [List.flatMap_def, List.flatMap_def]
  congr 1
  refine List.map_congr_left fun p hp => ?_
  · have hpl : p < t.length := by
      have := found_lt hp
      rwa [nowO_len] at this
    rw [e1 _ b (sub_tree ht hpl) hb]
end Go.Proofs.YtdbbjlphlbndkaaGreat.T
