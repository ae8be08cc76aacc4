/-
  With which tokens rules begin, plainly; the document's search through the rules, and that it finds just these.
-/
import Derived.Test.YtmlggfapnkhcaaaNullP
namespace Go.Proofs.Ytmlggfapnkhcaaa
open Go.RowKit Go.Shelf

/-- The items with which items may begin: those up to the first one that does not come to nothing. -/
def headsOf (em : List Bool) : List Item → List Item
  | [] => []
  | x :: l => x :: if (x.rule && atB em x.n) = true then headsOf em l else []
/-- A rule begins with a token. -/
inductive Begins (g : Gram) (em : List Bool) (t : Int) : Int → Prop
  | tok {p : Prod} {x : Item} : p ∈ g.prods → x ∈ headsOf em p.right → x.rule = false → x.n = t → Begins g em t p.left
  | rule {p : Prod} {x : Item} : p ∈ g.prods → x ∈ headsOf em p.right → x.rule = true → Begins g em t x.n → Begins g em t p.left
/-- Items begin with a token. -/
def StartsL (g : Gram) (em : List Bool) (t : Int) (l : List Item) : Prop := ∃ x ∈ headsOf em l, (x.rule = false ∧ x.n = t) ∨ (x.rule = true ∧ Begins g em t x.n)
theorem begins_iff {g : Gram} {em : List Bool} {t r : Int} : Begins g em t r ↔ ∃ p ∈ g.prods, p.left = r ∧ StartsL g em t p.right := by
  constructor
  · intro h
    cases h with
    | tok hp hx h1 h2 => exact ⟨_, hp, rfl, _, hx, .inl ⟨h1, h2⟩⟩
    | rule hp hx h1 h2 => exact ⟨_, hp, rfl, _, hx, .inr ⟨h1, h2⟩⟩
  · rintro ⟨p, hp, rfl, x, hx, ⟨h1, h2⟩ | ⟨h1, h2⟩⟩
    · exact .tok hp hx h1 h2
    · exact .rule hp hx h1 h2

def startN (bg : List Bool → Int → Bool × List Bool) (em : List Bool) (t : Int) : List Item → List Bool → Bool × List Bool
  | [], b => (false, b)
  | x :: l, b => if x.rule = false then (decide (x.n = t), b) else if (bg b x.n).1 = true then (true, (bg b x.n).2) else if atB em x.n = true then startN bg em t l (bg b x.n).2 else (false, (bg b x.n).2)
def prodN (st : List Item → List Bool → Bool × List Bool) (r : Int) : List Prod → List Bool → Bool × List Bool
  | [], b => (false, b)
  | p :: ps, b => if p.left = r then (if (st p.right b).1 = true then (true, (st p.right b).2) else prodN st r ps (st p.right b).2) else prodN st r ps b
/-- The document's search: whether a rule begins with a token, by rules that were not gone through; and which have been. -/
def begN (g : Gram) (em : List Bool) (t : Int) : Nat → List Bool → Int → Bool × List Bool
  | 0, b, _ => (false, b)
  | f + 1, b, r => if atB b r = true then (false, b) else prodN (startN (begN g em t f) em t) r g.prods (b.set r.toNat true)

theorem startN_sound {g : Gram} {em : List Bool} {t : Int} {bg : List Bool → Int → Bool × List Bool} (hb : ∀ (b : List Bool) (r : Int), (bg b r).1 = true → Begins g em t r) : ∀ (l : List Item) (b : List Bool), (startN bg em t l b).1 = true → StartsL g em t l := by
  intro l
  induction l with
  | nil => intro b h; cases h
  | cons x l ih =>
    intro b h
    unfold startN at h
    split at h
    · rename_i hr
      exact ⟨x, by simp [headsOf], .inl ⟨hr, of_decide_eq_true h⟩⟩
    · rename_i hr
      have hr : x.rule = true := by simpa using hr
      split at h
      · rename_i hc
        exact ⟨x, by simp [headsOf], .inr ⟨hr, hb _ _ hc⟩⟩
      · split at h
        · rename_i he
          obtain ⟨y, hy, hh⟩ := ih _ h
          exact ⟨y, by unfold headsOf; rw [if_pos (by rw [hr, he]; rfl)]; exact List.mem_cons_of_mem _ hy, hh⟩
        · cases h
theorem prodN_sound {g : Gram} {em : List Bool} {t r : Int} {st : List Item → List Bool → Bool × List Bool} (hs : ∀ (l : List Item) (b : List Bool), (st l b).1 = true → StartsL g em t l) : ∀ (ps : List Prod) (b : List Bool), (∀ p ∈ ps, p ∈ g.prods) → (prodN st r ps b).1 = true → Begins g em t r := by
  intro ps
  induction ps with
  | nil => intro b _ h; cases h
  | cons p ps ih =>
    intro b hp h
    unfold prodN at h
    split at h
    · rename_i hl
      split at h
      · rename_i hc
        exact begins_iff.2 ⟨p, hp p (by simp), hl, hs _ _ hc⟩
      · exact ih _ (fun q hq => hp q (by simp [hq])) h
    · exact ih _ (fun q hq => hp q (by simp [hq])) h
theorem begN_sound {g : Gram} {em : List Bool} {t : Int} : ∀ (f : Nat) (b : List Bool) (r : Int), (begN g em t f b r).1 = true → Begins g em t r := by
  intro f
  induction f with
  | zero => intro b r h; cases h
  | succ f ih =>
    intro b r h
    unfold begN at h
    split at h
    · cases h
    · exact prodN_sound (fun l b => startN_sound ih l b) _ _ (fun p hp => hp) h

/-- The rules of a grammar lie in range. -/
structure InRange (g : Gram) : Prop where
  left : ∀ p ∈ g.prods, 0 ≤ p.left ∧ p.left < g.rules.length
  item : ∀ p ∈ g.prods, ∀ x ∈ p.right, x.rule = true → 0 ≤ x.n ∧ x.n < g.rules.length
def falses (b : List Bool) : Nat := b.length - trues b
/-- What is asked of an item that was gone through. -/
def Through (t : Int) (b : List Bool) (x : Item) : Prop := (x.rule = true → atB b x.n = true) ∧ (x.rule = false → x.n ≠ t)
/-- The rules that were marked from b to c: all that they begin with were gone through. -/
def Clo (g : Gram) (em : List Bool) (t : Int) (b c : List Bool) : Prop := ∀ p ∈ g.prods, atB c p.left = true → atB b p.left = true ∨ ∀ x ∈ headsOf em p.right, Through t c x
theorem Through.mono {t : Int} {b c : List Bool} {x : Item} (h : Through t b x) (hb : leB b c) : Through t c x := ⟨fun hr => atB_mono hb (h.1 hr), h.2⟩
theorem Clo.refl (g : Gram) (em : List Bool) (t : Int) (b : List Bool) : Clo g em t b b := fun _ _ h => .inl h
theorem Clo.trans {g : Gram} {em : List Bool} {t : Int} {b c d : List Bool} (h1 : Clo g em t b c) (h2 : Clo g em t c d) (hb : leB c d) : Clo g em t b d := fun p hp h => by
  rcases h2 p hp h with h | h
  · rcases h1 p hp h with h | h
    · exact .inl h
    · exact .inr fun x hx => (h x hx).mono hb
  · exact .inr h
theorem falses_mono {b c : List Bool} (h : leB b c) : falses c ≤ falses b := by
  have := (trues_mono h).1
  have := h.1
  unfold falses
  omega
/-- What a search says that finds nothing. -/
def Says (g : Gram) (em : List Bool) (t : Int) (b : List Bool) (o : Bool × List Bool) (P : List Bool → Prop) : Prop := leB b o.2 ∧ (o.1 = false → Clo g em t b o.2 ∧ P o.2)

theorem startN_says {g : Gram} {em : List Bool} {t : Int} {bg : List Bool → Int → Bool × List Bool} {f : Nat} (hb : ∀ (b : List Bool) (r : Int), b.length = g.rules.length → falses b ≤ f → 0 ≤ r → r < g.rules.length → Says g em t b (bg b r) (fun c => atB c r = true)) :
    ∀ (l : List Item) (b : List Bool), b.length = g.rules.length → falses b ≤ f → (∀ x ∈ l, x.rule = true → 0 ≤ x.n ∧ x.n < g.rules.length) → Says g em t b (startN bg em t l b) (fun c => ∀ x ∈ headsOf em l, Through t c x) := by
  intro l
  induction l with
  | nil => intro b _ _ _; exact ⟨leB_refl b, fun _ => ⟨Clo.refl _ _ _ _, fun x hx => by cases hx⟩⟩
  | cons x l ih =>
    intro b hl hf hx
    unfold startN
    by_cases hr : x.rule = false
    · rw [if_pos hr]
      refine ⟨leB_refl b, fun h => ⟨Clo.refl _ _ _ _, fun y hy => ?_⟩⟩
      have hne : x.n ≠ t := of_decide_eq_false h
      unfold headsOf at hy
      rw [if_neg (by rw [hr]; simp)] at hy
      have e : y = x := by simpa using hy
      subst e
      exact ⟨fun h' => (by rw [hr] at h'; cases h'), fun _ => hne⟩
    · have hr' : x.rule = true := by simpa using hr
      obtain ⟨h1, h2⟩ := hx x (by simp) hr'
      obtain ⟨s1, s2⟩ := hb b x.n hl hf h1 h2
      rw [if_neg hr]
      by_cases hc : (bg b x.n).1 = true
      · rw [if_pos hc]
        exact ⟨s1, fun h => by cases h⟩
      · rw [if_neg hc]
        have hc' : (bg b x.n).1 = false := by simpa using hc
        obtain ⟨c1, c2⟩ := s2 hc'
        by_cases he : atB em x.n = true
        · rw [if_pos he]
          obtain ⟨t1, t2⟩ := ih (bg b x.n).2 (by rw [← s1.1]; exact hl) (Nat.le_trans (falses_mono s1) hf) (fun y hy => hx y (by simp [hy]))
          refine ⟨leB_trans s1 t1, fun h => ?_⟩
          obtain ⟨d1, d2⟩ := t2 h
          refine ⟨c1.trans d1 t1, fun y hy => ?_⟩
          unfold headsOf at hy
          rw [if_pos (by rw [hr', he]; rfl)] at hy
          rcases List.mem_cons.1 hy with rfl | hy
          · exact ⟨fun _ => atB_mono t1 c2, fun h' => by rw [hr'] at h'; cases h'⟩
          · exact d2 y hy
        · rw [if_neg he]
          refine ⟨s1, fun _ => ⟨c1, fun y hy => ?_⟩⟩
          unfold headsOf at hy
          rw [if_neg (by rw [hr']; simpa using he)] at hy
          have e : y = x := by simpa using hy
          subst e
          exact ⟨fun _ => c2, fun h' => by rw [hr'] at h'; cases h'⟩
theorem prodN_says {g : Gram} (hg : InRange g) {em : List Bool} {t r : Int} {st : List Item → List Bool → Bool × List Bool} {f : Nat} (hs : ∀ (l : List Item) (b : List Bool), b.length = g.rules.length → falses b ≤ f → (∀ x ∈ l, x.rule = true → 0 ≤ x.n ∧ x.n < g.rules.length) → Says g em t b (st l b) (fun c => ∀ x ∈ headsOf em l, Through t c x)) :
    ∀ (ps : List Prod) (b : List Bool), (∀ p ∈ ps, p ∈ g.prods) → b.length = g.rules.length → falses b ≤ f → Says g em t b (prodN st r ps b) (fun c => ∀ p ∈ ps, p.left = r → ∀ x ∈ headsOf em p.right, Through t c x) := by
  intro ps
  induction ps with
  | nil => intro b _ _ _; exact ⟨leB_refl b, fun _ => ⟨Clo.refl _ _ _ _, fun p hp => by cases hp⟩⟩
  | cons p ps ih =>
    intro b hp hl hf
    unfold prodN
    by_cases hr : p.left = r
    · rw [if_pos hr]
      obtain ⟨s1, s2⟩ := hs p.right b hl hf (fun x hx => hg.item p (hp p (by simp)) x hx)
      by_cases hc : (st p.right b).1 = true
      · rw [if_pos hc]
        exact ⟨s1, fun h => by cases h⟩
      · rw [if_neg hc]
        obtain ⟨c1, c2⟩ := s2 (by simpa using hc)
        obtain ⟨t1, t2⟩ := ih (st p.right b).2 (fun q hq => hp q (by simp [hq])) (by rw [← s1.1]; exact hl) (Nat.le_trans (falses_mono s1) hf)
        refine ⟨leB_trans s1 t1, fun h => ?_⟩
        obtain ⟨d1, d2⟩ := t2 h
        refine ⟨c1.trans d1 t1, fun q hq hqr x hx => ?_⟩
        rcases List.mem_cons.1 hq with rfl | hq
        · exact (c2 x hx).mono t1
        · exact d2 q hq hqr x hx
    · rw [if_neg hr]
      obtain ⟨t1, t2⟩ := ih b (fun q hq => hp q (by simp [hq])) hl hf
      refine ⟨t1, fun h => ?_⟩
      obtain ⟨d1, d2⟩ := t2 h
      refine ⟨d1, fun q hq hqr x hx => ?_⟩
      rcases List.mem_cons.1 hq with rfl | hq
      · exact absurd hqr hr
      · exact d2 q hq hqr x hx
theorem set_atB {b : List Bool} {r z : Int} (h0 : 0 ≤ r) (hr : r < b.length) : atB (b.set r.toNat true) z = true ↔ z.toNat = r.toNat ∨ atB b z = true := by
  rw [atB_iff, atB_iff, List.getElem?_set]
  by_cases e : r.toNat = z.toNat
  · rw [if_pos e, if_pos (by omega)]
    exact ⟨fun _ => .inl e.symm, fun _ => rfl⟩
  · rw [if_neg e]
    exact ⟨fun h => .inr h, fun h => h.resolve_left fun e' => e e'.symm⟩
theorem begN_says {g : Gram} (hg : InRange g) {em : List Bool} {t : Int} : ∀ (f : Nat) (b : List Bool) (r : Int), b.length = g.rules.length → falses b ≤ f → 0 ≤ r → r < g.rules.length → Says g em t b (begN g em t f b r) (fun c => atB c r = true) := by
  intro f
  induction f with
  | zero =>
    intro b r hl hf h0 h1
    have hb : atB b r = true := by
      rw [atB_iff]
      have ht : trues b = b.length := by have := trues_le b; unfold falses at hf; omega
      have hr : r.toNat < b.length := by omega
      have := List.countP_eq_length.1 ht b[r.toNat] (List.getElem_mem hr)
      rw [List.getElem?_eq_getElem hr]
      exact congrArg some this
    exact ⟨leB_refl b, fun _ => ⟨Clo.refl _ _ _ _, hb⟩⟩
  | succ f ih =>
    intro b r hl hf h0 h1
    unfold begN
    by_cases hb : atB b r = true
    · rw [if_pos hb]
      exact ⟨leB_refl b, fun _ => ⟨Clo.refl _ _ _ _, hb⟩⟩
    · rw [if_neg hb]
      have hrl : r.toNat < b.length := by omega
      have hle : leB b (b.set r.toNat true) := set_le b r.toNat
      have hfl : falses (b.set r.toNat true) ≤ f := by
        have hne : b ≠ b.set r.toNat true := fun e => hb (by rw [atB_iff, e, List.getElem?_set, if_pos rfl, if_pos hrl])
        have h2 := trues_mono hle
        have h3 : trues b ≠ trues (b.set r.toNat true) := fun e => hne (h2.2 e)
        have h4 := h2.1
        have h5 := trues_le (b.set r.toNat true)
        have h6 : (b.set r.toNat true).length = b.length := by simp
        unfold falses at *
        omega
      obtain ⟨s1, s2⟩ := prodN_says hg (r := r) (fun l b' h1 h2 h3 => startN_says (fun b'' r' a1 a2 a3 a4 => ih b'' r' a1 a2 a3 a4) l b' h1 h2 h3) g.prods (b.set r.toNat true) (fun p hp => hp) (by simpa using hl) hfl
      refine ⟨leB_trans hle s1, fun h => ?_⟩
      obtain ⟨c1, c2⟩ := s2 h
      refine ⟨fun p hp hq => ?_, atB_mono s1 ((set_atB h0 (by omega)).2 (.inl rfl))⟩
      rcases c1 p hp hq with h | h
      · rcases (set_atB h0 (by omega)).1 h with e | h
        · have := (hg.left p hp).1
          exact .inr (c2 p hp (by omega))
        · exact .inl h
      · exact .inr h
theorem closed_none {g : Gram} {em : List Bool} {t : Int} {c : List Bool} (hc : ∀ p ∈ g.prods, atB c p.left = true → ∀ x ∈ headsOf em p.right, Through t c x) {r : Int} (h : Begins g em t r) : ¬ atB c r = true := by
  induction h with
  | tok hp hx h1 h2 => exact fun hm => (hc _ hp hm _ hx).2 h1 h2
  | rule hp hx h1 _ ih => exact fun hm => ih ((hc _ hp hm _ hx).1 h1)
theorem false_at (n : Nat) (z : Int) : ¬ atB (List.replicate n false) z = true := by
  rw [atB_iff, List.getElem?_replicate]
  split <;> simp
/-- The document's search finds just the tokens with which items begin. -/
theorem startN_iff {g : Gram} (hg : InRange g) {em : List Bool} {t : Int} {l : List Item} (hl : ∀ x ∈ l, x.rule = true → 0 ≤ x.n ∧ x.n < g.rules.length) :
    (startN (begN g em t g.rules.length) em t l (List.replicate g.rules.length false)).1 = true ↔ StartsL g em t l := by
  refine ⟨startN_sound (begN_sound _) l _, fun h => ?_⟩
  apply Classical.byContradiction
  intro hn
  obtain ⟨s1, s2⟩ := startN_says (fun b r a1 a2 a3 a4 => begN_says hg (t := t) (em := em) g.rules.length b r a1 a2 a3 a4) l (List.replicate g.rules.length false) (by simp) (by unfold falses; simp) hl
  obtain ⟨c1, c2⟩ := s2 (by simpa using hn)
  have hc : ∀ p ∈ g.prods, atB (startN (begN g em t g.rules.length) em t l (List.replicate g.rules.length false)).2 p.left = true → ∀ x ∈ headsOf em p.right, Through t _ x := fun p hp hm => (c1 p hp hm).resolve_left (false_at _ _)
  obtain ⟨x, hx, ⟨h1, h2⟩ | ⟨h1, h2⟩⟩ := h
  · exact (c2 x hx).2 h1 h2
  · exact closed_none hc h2 ((c2 x hx).1 h1)
end Go.Proofs.Ytmlggfapnkhcaaa
