/-
  The tokens of each rule as they are gathered (first's know), plainly.
-/
import Derived.Test.YtmlggfapnkhcaaaFirstP
import Derived.Test.YtmlggfapnkhcaaaAscU
namespace Go.Proofs.Ytmlggfapnkhcaaa
open Go.RowKit Go.Shelf

/-- The tokens with which items begin, as far as is known. -/
def ofF (em : List Bool) (F : List (List Int)) : List Item → List Int → List Int
  | [], out => out
  | x :: l, out => if x.rule = false then mergeU out [x.n] else if atB em x.n = true then ofF em F l (mergeU out (F.getD x.n.toNat [])) else mergeU out (F.getD x.n.toNat [])
def stepF (em : List Bool) (F : List (List Int)) (p : Prod) : List (List Int) := F.set p.left.toNat (mergeU (F.getD p.left.toNat []) (ofF em F p.right []))
theorem asc_ofF {em : List Bool} {F : List (List Int)} (hF : ∀ l ∈ F, Asc l) : ∀ (l : List Item) (out : List Int), Asc out → Asc (ofF em F l out) := by
  have hg : ∀ k, Asc (F.getD k []) := fun k => by
    rw [List.getD_eq_getElem?_getD]
    cases h : F[k]? with
    | none => exact List.Pairwise.nil
    | some l => exact hF l (List.mem_of_getElem? h)
  intro l
  induction l with
  | nil => intro out h; exact h
  | cons x l ih =>
    intro out h
    unfold ofF
    split
    · exact asc_union h (List.pairwise_singleton _ _)
    · split
      · exact ih _ (asc_union h (hg _))
      · exact asc_union h (hg _)
theorem mem_ofF {em : List Bool} {F : List (List Int)} {z : Int} : ∀ (l : List Item) (out : List Int), z ∈ ofF em F l out ↔ z ∈ out ∨ ∃ x ∈ headsOf em l, (x.rule = false ∧ x.n = z) ∨ (x.rule = true ∧ z ∈ F.getD x.n.toNat []) := by
  intro l
  induction l with
  | nil => intro out; unfold ofF headsOf; simp
  | cons x l ih =>
    intro out
    unfold ofF headsOf
    by_cases hr : x.rule = false
    · rw [if_pos hr, mem_union, if_neg (by rw [hr]; simp)]
      constructor
      · rintro (h | h)
        · exact .inl h
        · exact .inr ⟨x, by simp, .inl ⟨hr, (List.mem_singleton.1 h).symm⟩⟩
      · rintro (h | ⟨y, hy, ⟨_, h⟩ | ⟨h1, _⟩⟩)
        · exact .inl h
        · rw [List.mem_singleton] at hy
          subst hy
          exact .inr (by rw [← h]; simp)
        · rw [List.mem_singleton] at hy
          subst hy
          rw [hr] at h1
          cases h1
    · have hr' : x.rule = true := by simpa using hr
      rw [if_neg hr]
      by_cases he : atB em x.n = true
      · rw [if_pos he, ih, mem_union, if_pos (by rw [hr', he]; rfl)]
        simp [hr', or_assoc]
      · rw [if_neg he, mem_union, if_neg (by rw [hr']; simpa using he)]
        simp [hr']
/-- What is known is so. -/
structure SoundF (g : Gram) (em : List Bool) (F : List (List Int)) : Prop where
  len : F.length = g.rules.length
  asc : ∀ l ∈ F, Asc l
  is_ : ∀ (r : Nat) (z : Int), z ∈ F.getD r [] → Begins g em z r
theorem SoundF.items {g : Gram} {em : List Bool} {F : List (List Int)} (h : SoundF g em F) {z : Int} {l : List Item} (hl : ∀ x ∈ l, x.rule = true → 0 ≤ x.n ∧ x.n < g.rules.length) (hz : z ∈ ofF em F l []) : StartsL g em z l := by
  rcases (mem_ofF l []).1 hz with h0 | ⟨x, hx, ⟨h1, h2⟩ | ⟨h1, h2⟩⟩
  · cases h0
  · exact ⟨x, hx, .inl ⟨h1, h2⟩⟩
  · have hm : x ∈ l := by
      clear hz h2 h1 hl
      induction l with
      | nil => cases hx
      | cons y l ih =>
        unfold headsOf at hx
        rcases List.mem_cons.1 hx with rfl | hx
        · simp
        · split at hx
          · exact List.mem_cons_of_mem _ (ih hx)
          · cases hx
    have := h.is_ _ _ h2
    rw [show ((x.n.toNat : Nat) : Int) = x.n by have := hl x hm h1; omega] at this
    exact ⟨x, hx, .inr ⟨h1, this⟩⟩
theorem SoundF.step {g : Gram} (hg : InRange g) {em : List Bool} {F : List (List Int)} (h : SoundF g em F) {p : Prod} (hp : p ∈ g.prods) : SoundF g em (stepF em F p) := by
  have hl := hg.left p hp
  have hlt : p.left.toNat < F.length := by have := h.len; omega
  have hA : Asc (mergeU (F.getD p.left.toNat []) (ofF em F p.right [])) := by
    refine asc_union ?_ (asc_ofF h.asc _ _ List.Pairwise.nil)
    rw [List.getD_eq_getElem?_getD, List.getElem?_eq_getElem hlt]
    exact h.asc _ (List.getElem_mem hlt)
  refine ⟨by unfold stepF; rw [List.length_set]; exact h.len, fun l hm => ?_, fun r z hz => ?_⟩
  · unfold stepF at hm
    rcases List.mem_or_eq_of_mem_set hm with hm | rfl
    · exact h.asc l hm
    · exact hA
  · unfold stepF at hz
    rw [List.getD_eq_getElem?_getD, List.getElem?_set] at hz
    by_cases e : p.left.toNat = r
    · rw [if_pos e, if_pos hlt] at hz
      rcases mem_union.1 hz with hz | hz
      · exact h.is_ r z (by rw [← e]; exact hz)
      · have := begins_iff.2 ⟨p, hp, rfl, h.items (fun x hx => hg.item p hp x hx) hz⟩
        rw [show (r : Int) = p.left by omega]
        exact this
    · rw [if_neg e] at hz
      exact h.is_ r z (by rw [List.getD_eq_getElem?_getD]; exact hz)
/-- Where nothing more comes, all is known. -/
theorem closed_all {g : Gram} {em : List Bool} {F : List (List Int)} (hc : ∀ p ∈ g.prods, ∀ z ∈ ofF em F p.right [], z ∈ F.getD p.left.toNat []) {r z : Int} (hb : Begins g em z r) : z ∈ F.getD r.toNat [] := by
  induction hb with
  | tok hp hx h1 h2 => exact hc _ hp _ ((mem_ofF _ _).2 (.inr ⟨_, hx, .inl ⟨h1, h2⟩⟩))
  | rule hp hx h1 _ ih => exact hc _ hp _ ((mem_ofF _ _).2 (.inr ⟨_, hx, .inr ⟨h1, ih⟩⟩))
/-- The tokens, of the first n, with which a rule begins, or items do. -/
noncomputable def firstR (g : Gram) (em : List Bool) (n : Nat) (r : Int) : List Int := ((List.range n).filter fun (t : Nat) => holdsB (Begins g em (t : Int) r)).map fun (t : Nat) => (t : Int)
noncomputable def firstL (g : Gram) (em : List Bool) (n : Nat) (l : List Item) : List Int := ((List.range n).filter fun (t : Nat) => holdsB (StartsL g em (t : Int) l)).map fun (t : Nat) => (t : Int)
theorem asc_range (f : Nat → Bool) (n : Nat) : Asc (((List.range n).filter f).map fun (t : Nat) => (t : Int)) := by
  refine List.Pairwise.map _ (fun a b h => ?_) (List.Pairwise.sublist List.filter_sublist List.pairwise_lt_range)
  exact Int.ofNat_lt.2 h
end Go.Proofs.Ytmlggfapnkhcaaa
