/-
  What is wrong with a grammar; what names are of; which productions a rule has. Plain, no program.
-/
import Derived.Test.YtaagkbgbghleiaaGram
namespace Go.Proofs.Ytaagkbgbghleiaa
open Go.RowKit Go.Shelf

structure Defect where
  kind : Int
  at_ : Int
  more : Int
def D0 : Defect := ⟨0, 0, 0⟩
def orD (a b : Defect) : Defect := if a.kind = 0 then b else a
/-- The first that is something, of n from k on. -/
def firstD (f : Nat → Defect) : Nat → Nat → Defect
  | _, 0 => D0
  | k, n + 1 => orD (f k) (firstD f (k + 1) n)
def Clean (f : Nat → Defect) : Prop := ∀ k, (f k).kind = 0 → f k = D0

theorem orD_zero {a b : Defect} (h : a.kind = 0) : orD a b = b := by unfold orD; rw [if_pos h]
theorem orD_some {a b : Defect} (h : a.kind ≠ 0) : orD a b = a := by unfold orD; rw [if_neg h]
theorem orD_kind {a b : Defect} : (orD a b).kind = 0 ↔ a.kind = 0 ∧ b.kind = 0 := by
  unfold orD
  by_cases h : a.kind = 0 <;> simp [h]
theorem orD_D0 {b : Defect} : orD D0 b = b := orD_zero rfl
theorem orD_right {a : Defect} (h : a.kind = 0 → a = D0) : orD a D0 = a := by
  unfold orD
  by_cases e : a.kind = 0
  · rw [if_pos e, h e]
  · rw [if_neg e]
theorem firstD_hit {f : Nat → Defect} : ∀ (n k j : Nat), j < n → (f (k + j)).kind ≠ 0 → (∀ m, m < j → (f (k + m)).kind = 0) → firstD f k n = f (k + j) := by
  intro n
  induction n with
  | zero => intro k j h; omega
  | succ n ih =>
    intro k j h hp hn
    unfold firstD
    cases j with
    | zero => rw [orD_some (show (f k).kind ≠ 0 from hp)]; rfl
    | succ j =>
      rw [orD_zero (show (f k).kind = 0 from hn 0 (by omega)), ih (k + 1) j (by omega) (by rw [show k + 1 + j = k + (j + 1) by omega]; exact hp) (fun m hm => by
        have := hn (m + 1) (by omega)
        rwa [show k + 1 + m = k + (m + 1) by omega])]
      rw [show k + 1 + j = k + (j + 1) by omega]
theorem firstD_miss {f : Nat → Defect} : ∀ (n k : Nat), (∀ m, m < n → (f (k + m)).kind = 0) → firstD f k n = D0 := by
  intro n
  induction n with
  | zero => intro k _; rfl
  | succ n ih =>
    intro k hn
    unfold firstD
    rw [orD_zero (show (f k).kind = 0 from hn 0 (by omega))]
    exact ih (k + 1) (fun m hm => by
      have := hn (m + 1) (by omega)
      rwa [show k + 1 + m = k + (m + 1) by omega])
theorem firstD_kind {f : Nat → Defect} : ∀ (n k : Nat), (firstD f k n).kind = 0 ↔ ∀ m, m < n → (f (k + m)).kind = 0 := by
  intro n
  induction n with
  | zero => intro k; exact ⟨fun _ m h => by omega, fun _ => rfl⟩
  | succ n ih =>
    intro k
    unfold firstD
    rw [orD_kind, ih]
    constructor
    · rintro ⟨h1, h2⟩ m hm
      cases m with
      | zero => exact h1
      | succ m => have := h2 m (by omega); rwa [show k + 1 + m = k + (m + 1) by omega] at this
    · intro h
      exact ⟨h 0 (by omega), fun m hm => by have := h (m + 1) (by omega); rwa [show k + 1 + m = k + (m + 1) by omega]⟩
theorem firstD_clean {f : Nat → Defect} (n k : Nat) : (firstD f k n).kind = 0 → firstD f k n = D0 := by
  intro h
  exact firstD_miss n k ((firstD_kind n k).1 h)

theorem first0_hit {f : Nat → Defect} {n j : Nat} (h : j < n) (hp : (f j).kind ≠ 0) (hn : ∀ m, m < j → (f m).kind = 0) : firstD f 0 n = f j := by
  have := firstD_hit (f := f) n 0 j h (by rwa [Nat.zero_add]) (fun m hm => by rw [Nat.zero_add]; exact hn m hm)
  rwa [Nat.zero_add] at this
theorem first0_miss {f : Nat → Defect} {n : Nat} (hn : ∀ m, m < n → (f m).kind = 0) : firstD f 0 n = D0 := firstD_miss n 0 (fun m hm => by rw [Nat.zero_add]; exact hn m hm)
theorem first0_kind {f : Nat → Defect} {n : Nat} : (firstD f 0 n).kind = 0 ↔ ∀ m, m < n → (f m).kind = 0 := by
  rw [firstD_kind]
  simp

def tokNames (g : Gram) : List ByteArray := g.toks.map (·.name)
def allNames (g : Gram) : List ByteArray := tokNames g ++ g.rules
def sizesOf (g : Gram) : Defect :=
  if 64 < g.toks.length then ⟨4, 0, 0⟩ else if 64 < g.rules.length then ⟨4, 1, 0⟩ else if 256 < g.prods.length then ⟨4, 2, 0⟩
  else if g.states < 1 ∨ 4096 < g.states then ⟨2, 0, 0⟩ else if g.text < 0 ∨ 65536 < g.text then ⟨2, 1, 0⟩
  else if g.nodes < 1 ∨ 65536 < g.nodes then ⟨2, 2, 0⟩ else if g.pairs < 1 ∨ 1048576 < g.pairs then ⟨2, 3, 0⟩ else D0
noncomputable def nameErr (s : ByteArray) (ahead : List ByteArray) : Int := if nameB s = false then 7 else if holdsB (s ∈ ahead) = true then 8 else 0
noncomputable def tokErr (g : Gram) (i : Nat) (t : Token) : Defect :=
  let e := nameErr t.name ((allNames g).take i)
  if e ≠ 0 then ⟨e, i, 0⟩ else if rxErr t.rex ≠ 0 then ⟨9, i, rxErr t.rex⟩ else if t.cls < 0 ∨ 3 < t.cls then ⟨1, i, 0⟩ else D0
noncomputable def tokD (g : Gram) (i : Nat) : Defect := match g.toks[i]? with
  | some t => tokErr g i t
  | none => D0
noncomputable def ruleD (g : Gram) (i : Nat) : Defect := match g.rules[i]? with
  | some s => if nameErr s ((allNames g).take (g.toks.length + i)) ≠ 0 then ⟨nameErr s ((allNames g).take (g.toks.length + i)), i, 0⟩ else D0
  | none => D0
def clsAt (g : Gram) (n : Int) : Int := match g.toks[n.toNat]? with
  | some t => t.cls
  | none => 0
def itemErr (g : Gram) (x : Item) : Int :=
  if x.n < 0 ∨ (if x.rule then (g.rules.length : Int) else g.toks.length) ≤ x.n then 11 else if x.rule = false ∧ clsAt g x.n ≠ 0 then 12
  else if x.gap < 0 ∨ 2 < x.gap ∨ x.in_ < 0 ∨ 8 < x.in_ then 2 else 0
def itemD (g : Gram) (i : Nat) (r : List Item) (k : Nat) : Defect := match r[k]? with
  | some x => if itemErr g x ≠ 0 then ⟨itemErr g x, i, (k : Int) + 1⟩ else D0
  | none => D0
def prodErr (g : Gram) (i : Nat) (p : Prod) : Defect :=
  if p.left < 0 ∨ (g.rules.length : Int) ≤ p.left then ⟨11, i, 0⟩ else if 16 < p.right.length then ⟨4, i, 0⟩ else firstD (itemD g i p.right) 0 p.right.length
def prodD (g : Gram) (i : Nat) : Defect := match g.prods[i]? with
  | some p => prodErr g i p
  | none => D0
def isOf (g : Gram) (r : Int) (i : Nat) : Bool := match g.prods[i]? with
  | some p => p.left == r
  | none => false
/-- The productions of a rule, of the first k. -/
def ofUpto (g : Gram) (r : Int) (k : Nat) : List Int := ((List.range k).filter (isOf g r)).map (fun (i : Nat) => (i : Int))
def ofRule (g : Gram) (r : Int) : List Int := ofUpto g r g.prods.length
theorem ofUpto_snoc {g : Gram} {r : Int} {k : Nat} {p : Prod} (h : g.prods[k]? = some p) : ofUpto g r (k + 1) = if (p.left == r) = true then ofUpto g r k ++ [(k : Int)] else ofUpto g r k := by
  unfold ofUpto
  rw [List.range_succ, List.filter_append]
  have : isOf g r k = (p.left == r) := by unfold isOf; rw [h]
  cases hb : p.left == r
  · rw [hb] at this; simp [this]
  · rw [hb] at this; simp [this]
theorem ofUpto_len (g : Gram) (r : Int) (k : Nat) : (ofUpto g r k).length ≤ k := by
  unfold ofUpto
  have := List.length_filter_le (isOf g r) (List.range k)
  rw [List.length_range] at this
  rwa [List.length_map]
def noneD (g : Gram) (i : Nat) : Defect := if (ofRule g i).length = 0 then ⟨5, i, 0⟩ else D0
def startD (g : Gram) : Defect := if g.start < 0 ∨ (g.rules.length : Int) ≤ g.start then ⟨11, -1, 0⟩ else D0
def wholeD (g : Gram) : Defect := orD (startD g) (firstD (noneD g) 0 g.rules.length)
noncomputable def checkOf (g : Gram) : Defect :=
  orD (sizesOf g) (orD (firstD (tokD g) 0 g.toks.length) (orD (firstD (ruleD g) 0 g.rules.length) (orD (firstD (prodD g) 0 g.prods.length) (wholeD g))))
noncomputable def rightB (g : Gram) : Bool := decide ((checkOf g).kind = 0)

theorem sizes_clean (g : Gram) : (sizesOf g).kind = 0 → sizesOf g = D0 := by
  unfold sizesOf
  repeat' split
  all_goals first | (intro h; simp at h; done) | (intro _; rfl)
theorem start_clean (g : Gram) : (startD g).kind = 0 → startD g = D0 := by
  unfold startD
  split <;> simp
theorem whole_clean (g : Gram) : (wholeD g).kind = 0 → wholeD g = D0 := by
  unfold wholeD
  intro h
  obtain ⟨h1, h2⟩ := orD_kind.1 h
  rw [orD_zero h1, firstD_clean _ _ h2]
theorem check_clean (g : Gram) : (checkOf g).kind = 0 → checkOf g = D0 := by
  unfold checkOf
  intro h
  obtain ⟨h1, h2⟩ := orD_kind.1 h
  obtain ⟨h3, h4⟩ := orD_kind.1 h2
  obtain ⟨h5, h6⟩ := orD_kind.1 h4
  obtain ⟨h7, h8⟩ := orD_kind.1 h6
  rw [orD_zero h1, orD_zero h3, orD_zero h5, orD_zero h7, whole_clean _ h8]
theorem tok_clean (g : Gram) (i : Nat) : (tokD g i).kind = 0 → tokD g i = D0 := by
  unfold tokD tokErr
  cases g.toks[i]? with
  | none => intro _; rfl
  | some t =>
    dsimp only
    split
    · intro h; exact absurd h (by assumption)
    · split
      · intro h; simp at h
      · split
        · intro h; simp at h
        · intro _; rfl
theorem rule_clean (g : Gram) (i : Nat) : (ruleD g i).kind = 0 → ruleD g i = D0 := by
  unfold ruleD
  cases g.rules[i]? with
  | none => intro _; rfl
  | some t =>
    dsimp only
    split
    · intro h; exact absurd h (by assumption)
    · intro _; rfl
theorem prod_clean (g : Gram) (i : Nat) : (prodD g i).kind = 0 → prodD g i = D0 := by
  unfold prodD prodErr
  cases g.prods[i]? with
  | none => intro _; rfl
  | some t =>
    dsimp only
    split
    · intro h; simp at h
    · split
      · intro h; simp at h
      · exact firstD_clean _ _
/-- Where a name stands among all: as a token's, or a rule's. -/
noncomputable def findTok (g : Gram) (s : ByteArray) : Int := findOf (tokNames g) s
noncomputable def isRule (g : Gram) (s : ByteArray) : Bool := decide (findOf (tokNames g) s < 0) && decide (0 ≤ findOf g.rules s)
noncomputable def findNo (g : Gram) (s : ByteArray) : Int := if 0 ≤ findOf (tokNames g) s then findOf (tokNames g) s else findOf g.rules s
theorem find_append {α : Type} (l m : List α) (s : α) : findOf (l ++ m) s = if 0 ≤ findOf l s then findOf l s else if 0 ≤ findOf m s then l.length + findOf m s else -1 := by
  rcases first_cases (fun k => l[k]? = some s) l.length with ⟨h1, h2⟩ | ⟨j, h1, h2, h3, h4⟩
  · have e1 : findOf l s = -1 := h1
    rw [e1, if_neg (by omega)]
    rcases first_cases (fun k => m[k]? = some s) m.length with ⟨g1, g2⟩ | ⟨j, g1, g2, g3, g4⟩
    · have e2 : findOf m s = -1 := g1
      rw [e2, if_neg (by omega)]
      refine find_miss (fun i hi => ?_)
      rcases Nat.lt_or_ge i l.length with hl | hl
      · rw [List.getElem?_append_left hl]; exact h2 i hl
      · rw [List.getElem?_append_right hl]; exact g2 _ (by rw [List.length_append] at hi; omega)
    · have e2 : findOf m s = (j : Int) := g2
      rw [e2, if_pos (by omega)]
      have := find_hit (l := l ++ m) (s := s) (j := l.length + j) (by rw [List.getElem?_append_right (by omega), Nat.add_sub_cancel_left]; exact g3) (fun i hi => by
        rcases Nat.lt_or_ge i l.length with hl | hl
        · rw [List.getElem?_append_left hl]; exact h2 i hl
        · rw [List.getElem?_append_right hl]; exact g4 _ (by omega))
      rw [this]; omega
  · have e1 : findOf l s = (j : Int) := h2
    rw [e1, if_pos (by omega)]
    exact find_hit (by rw [List.getElem?_append_left h1]; exact h3) (fun i hi => by rw [List.getElem?_append_left (by omega)]; exact h4 i hi)
end Go.Proofs.Ytaagkbgbghleiaa
