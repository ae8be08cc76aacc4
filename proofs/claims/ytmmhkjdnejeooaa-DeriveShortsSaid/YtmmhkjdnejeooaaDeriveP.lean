/-
  Which trees are a grammar's, plainly.
-/
import Derived.Test.YtmmhkjdnejeooaaT3
import Derived.Test.YtmmhkjdnejeooaaNullG
namespace Go.Proofs.Ytmmhkjdnejeooaa.T
open Go.RowKit Go.Shelf

/-- The rule that a node is of. -/
noncomputable def ruleD (g : Gram) (x : Node) : Int :=
  if x.kind = 2 ∧ 0 ≤ x.n ∧ x.n < g.prods.length then (match g.prods[x.n.toNat]? with | some p => p.left | none => -1)
  else if x.kind = 6 ∧ 0 ≤ x.n ∧ x.n < g.rules.length then x.n else -1
noncomputable def ruleOf (g : Gram) (x : Node) : Int := if rightB g = true then ruleD g x else -1
/-- May a node be the first one of an item's part? (of a grammar that is right) -/
noncomputable def ofD (g : Gram) (x : Node) (y : Item) : Bool :=
  if y.rule = true then decide (0 ≤ y.n) && decide (ruleD g x = y.n)
  else decide (0 ≤ y.n) && (decide (y.n < g.toks.length) && (decide (x.n = y.n) && (decide (x.kind = 3) || decide (x.kind = 5))))
def kindAt (t : List Node) (k : Nat) : Int := match t[k]? with | some x => x.kind | none => 0
def isBad (t : List Node) (k : Nat) : Bool := decide (kindAt t k = 4)
noncomputable def ofAt (g : Gram) (t : List Node) (k : Nat) (y : Item) : Bool := match t[k]? with | some x => ofD g x y | none => false
/-- Are kids parts of items, with Bads ahead of rules'? What is left of them. -/
noncomputable def rowD (g : Gram) (t : List Node) : List Nat → List Item → Option (List Nat)
  | ks, [] => some ks
  | ks, y :: l => match (if y.rule = true then ks.dropWhile (isBad t) else ks) with
    | [] => none
    | k :: r => if ofAt g t k y = true then rowD g t r l else none
def startIt (g : Gram) : Item := ⟨true, g.start, 0, 0⟩
/-- The end of a whole tree. -/
def endAt (t : List Node) (k : Nat) : Bool := match t[k]? with | some x => decide (x.kind = 3) && (decide (x.n = -2) && decide (x.text = ⟨#[]⟩)) | none => false
noncomputable def docD (g : Gram) (t : List Node) (ks : List Nat) : Bool :=
  match rowD g t ks [startIt g] with
  | none => false
  | some r => match r.dropWhile (isBad t) with
    | [e] => endAt t e
    | _ => false
/-- Does a node fit, by its kids alone? (of a tree) -/
noncomputable def fitsD (g : Gram) (t : List Node) (i : Nat) : Bool :=
  match t[i]? with
  | none => false
  | some x =>
    if x.kind = 1 then decide (i = 0) && (decide (x.n = 0) && docD g t (kidsL t i))
    else if x.kind = 2 then decide (0 ≤ x.n) && (match g.prods[x.n.toNat]? with | some p => decide (rowD g t (kidsL t i) p.right = some []) | none => false)
    else if x.kind = 3 then decide (x.n = -2) || (decide (0 ≤ x.n) && decide (x.n < g.toks.length))
    else if x.kind = 4 then true
    else if x.kind = 5 then decide (0 ≤ x.n) && decide (x.n < g.toks.length)
    else decide (0 ≤ x.n) && decide (x.n < g.rules.length)
/-- The first of n nodes from i on that does not fit. -/
noncomputable def wrongFrom (g : Gram) (t : List Node) : Nat → Nat → Int
  | 0, _ => -1
  | n + 1, i => if fitsD g t i = true then wrongFrom g t n (i + 1) else (i : Int)
noncomputable def wrongAll (g : Gram) (t : List Node) : Int := wrongFrom g t t.length 0
noncomputable def wrongD (g : Gram) (t : List Node) : Int := if rightB g = true then (if treeB t = true ∧ kindAt t 0 = 1 then wrongAll g t else 0) else -1
noncomputable def fitsB (g : Gram) (t : List Node) : Bool := rightB g && decide (wrongD g t < 0)
def outAt (t : List Node) (i : Nat) : Bool := match t[i]? with | some x => decide (x.kind = 3) && decide (x.n = -2) | none => false
noncomputable def partD (g : Gram) (t : List Node) (y : Item) : Bool :=
  rightB g && (treeB t && (ofAt g t 0 y && (decide (wrongAll g t < 0) && decide (∀ i, i < t.length → outAt t i = false))))

theorem wrongFrom_all {g : Gram} {t : List Node} : ∀ n i, (∀ k, i ≤ k → k < i + n → fitsD g t k = true) → wrongFrom g t n i = -1 := by
  intro n
  induction n with
  | zero => intro i h; rfl
  | succ n ih => intro i h; rw [wrongFrom, if_pos (h i (by omega) (by omega))]; exact ih (i + 1) (fun k h1 h2 => h k (by omega) (by omega))
theorem wrongFrom_at {g : Gram} {t : List Node} : ∀ n i j, i ≤ j → j < i + n → (∀ k, i ≤ k → k < j → fitsD g t k = true) → fitsD g t j = false → wrongFrom g t n i = (j : Int) := by
  intro n
  induction n with
  | zero => intro i j h1 h2; omega
  | succ n ih =>
    intro i j h1 h2 h3 h4
    rw [wrongFrom]
    by_cases e : i = j
    · subst e; rw [h4, if_neg (by decide)]
    · rw [if_pos (h3 i (by omega) (by omega))]
      exact ih (i + 1) j (by omega) (by omega) (fun k a b => h3 k (by omega) b) h4
theorem wrong_at {g : Gram} {t : List Node} {j : Nat} (hj : j < t.length) (h : ∀ k, k < j → fitsD g t k = true) (hb : fitsD g t j = false) : wrongAll g t = (j : Int) :=
  wrongFrom_at _ 0 j (by omega) (by omega) (fun k _ h2 => h k h2) hb
theorem wrong_none {g : Gram} {t : List Node} (h : ∀ k, k < t.length → fitsD g t k = true) : wrongAll g t = -1 :=
  wrongFrom_all _ 0 (fun k _ h2 => h k (by omega))
theorem wrong_cases (g : Gram) (t : List Node) : (wrongAll g t = -1 ∧ ∀ k, k < t.length → fitsD g t k = true) ∨ ∃ j, j < t.length ∧ wrongAll g t = (j : Int) ∧ (∀ k, k < j → fitsD g t k = true) ∧ fitsD g t j = false := by
  by_cases h : ∀ k, k < t.length → fitsD g t k = true
  · exact .inl ⟨wrong_none h, h⟩
  · right
    have hex : ∃ k, k < t.length ∧ fitsD g t k = false := by
      apply Classical.byContradiction
      intro hc
      exact h (fun k hk => by
        cases e : fitsD g t k
        · exact absurd ⟨k, hk, e⟩ hc
        · rfl)
    obtain ⟨k, hk⟩ := hex
    induction k using Nat.strongRecOn with
    | _ k ih =>
      by_cases hs : ∃ m, m < k ∧ fitsD g t m = false
      · obtain ⟨m, hm, hf⟩ := hs
        exact ih m hm ⟨by omega, hf⟩
      · have hall : ∀ m, m < k → fitsD g t m = true := fun m hm => by
          cases e : fitsD g t m
          · exact absurd ⟨m, hm, e⟩ hs
          · rfl
        exact ⟨k, hk.1, wrong_at hk.1 hall hk.2, hall, hk.2⟩

/-! ### The document's way of telling a whole tree -/
/-- What stands ahead of the end, without the Bads ahead of that. -/
def dropEnd (t : List Node) (ks : List Nat) : List Nat := (ks.reverse.dropWhile (isBad t)).reverse
noncomputable def docR (g : Gram) (t : List Node) (ks : List Nat) : Bool :=
  match ks.reverse with
  | [] => false
  | e :: r => endAt t e && decide (rowD g t (r.dropWhile (isBad t)).reverse [startIt g] = some [])
theorem end_notBad {t : List Node} {k : Nat} (h : endAt t k = true) : isBad t k = false := by
  unfold endAt at h
  unfold isBad kindAt
  cases e : t[k]? with
  | none => rfl
  | some x =>
    rw [e] at h
    simp only [Bool.and_eq_true, decide_eq_true_eq] at h
    simp only [decide_eq_false_iff_not]
    omega
theorem ruleD_not {g : Gram} {x : Node} (h : x.kind = 3 ∨ x.kind = 4) : ruleD g x = -1 := by
  unfold ruleD
  rw [if_neg (by omega), if_neg (by omega)]
theorem of_notBad {g : Gram} {t : List Node} {k : Nat} (h : ofAt g t k (startIt g) = true) : isBad t k = false ∧ endAt t k = false := by
  unfold ofAt at h
  unfold isBad kindAt endAt
  cases e : t[k]? with
  | none => exact ⟨rfl, rfl⟩
  | some x =>
    rw [e] at h
    have h : 0 ≤ g.start ∧ ruleD g x = g.start := by
      have h1 : (decide (0 ≤ g.start) && decide (ruleD g x = g.start)) = true := h
      rw [Bool.and_eq_true, decide_eq_true_eq, decide_eq_true_eq] at h1
      exact h1
    constructor
    · simp only [decide_eq_false_iff_not]
      intro h4
      rw [ruleD_not (.inr h4)] at h
      omega
    · rw [Bool.eq_false_iff]
      intro h4
      simp only [Bool.and_eq_true, decide_eq_true_eq] at h4
      rw [ruleD_not (.inl h4.1)] at h
      omega
theorem row_one (g : Gram) (t : List Node) (ks : List Nat) : rowD g t ks [startIt g] = match ks.dropWhile (isBad t) with | [] => none | k :: r => if ofAt g t k (startIt g) = true then some r else none := by
  rw [rowD]
  rw [if_pos (show (startIt g).rule = true from rfl)]
  cases ks.dropWhile (isBad t) with
  | nil => rfl
  | cons k r => simp only [rowD]
theorem drop_all {p : Nat → Bool} : ∀ l : List Nat, l.dropWhile p = [] → ∀ x ∈ l, p x = true := by
  intro l
  induction l with
  | nil => intro _ x h; cases h
  | cons a l ih =>
    intro h x hx
    rw [List.dropWhile_cons] at h
    by_cases e : p a = true
    · rw [if_pos e] at h
      rcases List.mem_cons.1 hx with rfl | hx
      · exact e
      · exact ih h x hx
    · rw [if_neg e] at h; cases h
theorem drop_of_all {p : Nat → Bool} : ∀ l m : List Nat, (∀ x ∈ l, p x = true) → (l ++ m).dropWhile p = m.dropWhile p := by
  intro l
  induction l with
  | nil => intro m _; rfl
  | cons a l ih =>
    intro m h
    rw [List.cons_append, List.dropWhile_cons, if_pos (h a List.mem_cons_self)]
    exact ih m (fun x hx => h x (List.mem_cons_of_mem _ hx))
theorem drop_split {p : Nat → Bool} (l : List Nat) : ∃ b, (∀ x ∈ b, p x = true) ∧ l = b ++ l.dropWhile p := by
  induction l with
  | nil => exact ⟨[], fun x h => (List.not_mem_nil h).elim, rfl⟩
  | cons a l ih =>
    rw [List.dropWhile_cons]
    by_cases e : p a = true
    · rw [if_pos e]
      obtain ⟨b, h1, h2⟩ := ih
      refine ⟨a :: b, fun x hx => ?_, by rw [List.cons_append, ← h2]⟩
      rcases List.mem_cons.1 hx with rfl | hx
      · exact e
      · exact h1 x hx
    · rw [if_neg e]
      exact ⟨[], fun x h => (List.not_mem_nil h).elim, rfl⟩
/-- Both ways of telling a whole tree's kids tell the same. -/
theorem doc_same (g : Gram) (t : List Node) (ks : List Nat) : docR g t ks = docD g t ks := by
  rw [Bool.eq_iff_iff]
  constructor
  · intro h
    unfold docR at h
    cases hr : ks.reverse with
    | nil => rw [hr] at h; cases h
    | cons e r =>
      rw [hr] at h
      simp only [Bool.and_eq_true, decide_eq_true_eq] at h
      obtain ⟨h1, h2⟩ := h
      have hks : ks = r.reverse ++ [e] := by rw [← List.reverse_reverse ks, hr, List.reverse_cons]
      obtain ⟨b, hb1, hb2⟩ := drop_split (p := isBad t) r
      generalize r.dropWhile (isBad t) = m at *
      rw [row_one] at h2
      obtain ⟨c, hc1, hc2⟩ := drop_split (p := isBad t) m.reverse
      cases hd : m.reverse.dropWhile (isBad t) with
      | nil => rw [hd] at h2; cases h2
      | cons k q =>
        rw [hd] at h2 hc2
        simp only at h2
        by_cases ho : ofAt g t k (startIt g) = true
        · rw [if_pos ho] at h2
          have hq : q = [] := Option.some.inj h2
          subst hq
          have hks2 : ks = c ++ k :: (b.reverse ++ [e]) := by
            rw [hks, hb2, List.reverse_append, hc2]
            simp
          unfold docD
          rw [row_one, hks2, drop_of_all _ _ hc1, List.dropWhile_cons, if_neg (by rw [(of_notBad ho).1]; decide)]
          simp only
          rw [if_pos ho]
          simp only
          rw [drop_of_all _ _ (fun x hx => hb1 x (List.mem_reverse.1 hx)), List.dropWhile_cons, if_neg (by rw [end_notBad h1]; decide)]
          exact h1
        · rw [if_neg ho] at h2; cases h2
  · intro h
    unfold docD at h
    rw [row_one] at h
    obtain ⟨c, hc1, hc2⟩ := drop_split (p := isBad t) ks
    cases hd : ks.dropWhile (isBad t) with
    | nil => rw [hd] at h; cases h
    | cons k q =>
      rw [hd] at h hc2
      simp only at h
      by_cases ho : ofAt g t k (startIt g) = true
      · rw [if_pos ho] at h
        simp only at h
        obtain ⟨b, hb1, hb2⟩ := drop_split (p := isBad t) q
        cases hd2 : q.dropWhile (isBad t) with
        | nil => rw [hd2] at h; cases h
        | cons e r =>
          rw [hd2] at h hb2
          cases r with
          | cons _ _ => cases h
          | nil =>
            simp only at h
            unfold docR
            have hrev : ks.reverse = e :: (b.reverse ++ (k :: c.reverse)) := by
              rw [hc2, hb2]
              simp
            rw [hrev]
            simp only [Bool.and_eq_true, decide_eq_true_eq]
            refine ⟨h, ?_⟩
            rw [drop_of_all _ _ (fun x hx => hb1 x (List.mem_reverse.1 hx)), List.dropWhile_cons, if_neg (by rw [(of_notBad ho).1]; decide), row_one]
            rw [List.reverse_cons, List.reverse_reverse, drop_of_all _ _ hc1, List.dropWhile_cons, if_neg (by rw [(of_notBad ho).1]; decide)]
            simp only
            rw [if_pos ho]
      · rw [if_neg ho] at h; cases h
end Go.Proofs.Ytmmhkjdnejeooaa.T
