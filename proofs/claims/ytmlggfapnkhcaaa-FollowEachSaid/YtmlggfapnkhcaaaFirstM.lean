/-
  The rounds of first's know, plainly: no row shrinks, and where none grows all is known.
-/
import Derived.Test.YtmlggfapnkhcaaaFirstK
import Derived.Test.YtmlggfapnkhcaaaNullV
import Derived.Test.YtmlggfapnkhcaaaFirstQ
namespace Go.Proofs.Ytmlggfapnkhcaaa
open Go.RowKit Go.Shelf

def tot (F : List (List Int)) : Nat := (F.map List.length).sum
theorem tot_set : ∀ (F : List (List Int)) (r : Nat) (l : List Int), r < F.length → tot (F.set r l) + (F.getD r []).length = tot F + l.length := by
  intro F
  induction F with
  | nil => intro r l h; simp at h
  | cons a F ih =>
    intro r l h
    cases r with
    | zero => simp [tot]; omega
    | succ r =>
      have := ih r l (by simpa using h)
      simp only [tot, List.set_cons_succ, List.map_cons, List.sum_cons, List.getD_cons_succ] at this ⊢
      omega
theorem tot_le {N : Nat} : ∀ (F : List (List Int)), (∀ r ∈ F, Bd N r) → tot F ≤ N * F.length := by
  intro F
  induction F with
  | nil => intro _; simp [tot]
  | cons a F ih =>
    intro h
    have h1 := (h a (by simp)).len
    have h2 := ih (fun r hr => h r (by simp [hr]))
    simp only [tot, List.map_cons, List.sum_cons, List.length_cons, Nat.mul_succ] at h2 ⊢
    omega
/-- What is known, between two steps. -/
structure KnownF (g : Gram) (em : List Bool) (F : List (List Int)) : Prop where
  sound : SoundF g em F
  bd : ∀ r ∈ F, Bd g.toks.length r
theorem itemsIn_tok {g : Gram} {l : List Item} (h : itemsIn g l = true) {x : Item} (hx : x ∈ l) (hr : x.rule = false) : 0 ≤ x.n ∧ x.n < g.toks.length := by
  unfold itemsIn at h
  rw [List.all_eq_true] at h
  have := h x hx
  rcases itemIn_cases g x with h1 | ⟨_, h1 | h1⟩
  · rw [h1.1] at this; cases this
  · rw [h1.2.1] at hr; cases hr
  · omega
structure Whole22 (g : Gram) : Prop where
  left : ∀ p, p ∈ g.prods → 0 ≤ p.left ∧ p.left < g.rules.length
  rule : ∀ p, p ∈ g.prods → ∀ x, x ∈ p.right → x.rule = true → 0 ≤ x.n ∧ x.n < g.rules.length
  token : ∀ p, p ∈ g.prods → ∀ x, x ∈ p.right → x.rule = false → 0 ≤ x.n ∧ x.n < g.toks.length
theorem whole22 {g : Gram} (h : rightB g = true) : Whole22 g := by
  have hs := rightB_sound h
  have hr : RightG g := (right_iff g).1 (by unfold rightB at h; simpa using h)
  exact ⟨hs.left, hs.rule, fun p hp x hx e => itemsIn_tok (hr.itemIn hp) hx e⟩
theorem itemsOk_of {g : Gram} (hs : Whole22 g) {p : Prod} (hp : p ∈ g.prods) {n : Nat} (hn : n = g.rules.length) : ItemsOk g.toks.length n p.right := by
  subst hn
  exact ⟨fun x hx h => hs.token p hp x hx h, fun x hx h => hs.rule p hp x hx h⟩
theorem bd_ofF {N : Nat} {em : List Bool} {F : List (List Int)} (hF : ∀ r ∈ F, Bd N r) : ∀ (l : List Item) (out : List Int), (∀ x ∈ l, x.rule = false → 0 ≤ x.n ∧ x.n < N) → Bd N out → Bd N (ofF em F l out) := by
  have hg : ∀ k, Bd N (F.getD k []) := fun k => by
    rw [List.getD_eq_getElem?_getD]
    cases h : F[k]? with
    | none => exact Bd.nil N
    | some l => exact hF l (List.mem_of_getElem? h)
  intro l
  induction l with
  | nil => intro out _ h; exact h
  | cons x l ih =>
    intro out hl h
    unfold ofF
    by_cases hr : x.rule = false
    · rw [if_pos hr]
      exact h.union (Bd.one (hl x (by simp) hr))
    · rw [if_neg hr]
      split
      · exact ih _ (fun y hy => hl y (by simp [hy])) (h.union (hg _))
      · exact h.union (hg _)
section
variable {g : Gram} {em : List Bool} {F : List (List Int)} {p : Prod}
theorem KnownF.row (h : KnownF g em F) (r : Nat) : Bd g.toks.length (F.getD r []) := by
  rw [List.getD_eq_getElem?_getD]
  cases e : F[r]? with
  | none => exact Bd.nil _
  | some l => exact h.bd l (List.mem_of_getElem? e)
theorem KnownF.step (hs : Whole22 g) (h : KnownF g em F) (hp : p ∈ g.prods) : KnownF g em (stepF em F p) := by
  refine ⟨h.sound.step ⟨hs.left, fun p hp x hx hr => hs.rule p hp x hx hr⟩ hp, fun r hr => ?_⟩
  unfold stepF at hr
  rcases List.mem_or_eq_of_mem_set hr with hr | rfl
  · exact h.bd r hr
  · exact (h.row _).union (bd_ofF h.bd _ _ (fun x hx h => hs.token p hp x hx h) (Bd.nil _))
theorem KnownF.no (hs : Whole22 g) (h : KnownF g em F) (hp : p ∈ g.prods) (hn : decide ((F.getD p.left.toNat []).length < (mergeU (F.getD p.left.toNat []) (ofF em F p.right [])).length) = false) : stepF em F p = F ∧ ∀ z ∈ ofF em F p.right [], z ∈ F.getD p.left.toNat [] := by
  have hl := hs.left p hp
  have hlt : p.left.toNat < F.length := by have := h.sound.len; omega
  have hA := (h.row p.left.toNat).1
  have hU := asc_union hA (asc_ofF (em := em) h.sound.asc p.right [] List.Pairwise.nil)
  have he := asc_len hA hU (fun z hz => mem_union.2 (.inl hz))
  have hn := of_decide_eq_false hn
  have e := he.2 (by have := he.1; omega)
  refine ⟨?_, fun z hz => by rw [e]; exact mem_union.2 (.inr hz)⟩
  unfold stepF
  rw [← e]
  apply List.ext_getElem?
  intro i
  rw [List.getElem?_set]
  split
  · rename_i h1
    subst h1
    rw [List.getD_eq_getElem?_getD, List.getElem?_eq_getElem hlt]; rfl
  · rfl
theorem KnownF.grows (hs : Whole22 g) (h : KnownF g em F) (hp : p ∈ g.prods) : tot F ≤ tot (stepF em F p) ∧ (decide ((F.getD p.left.toNat []).length < (mergeU (F.getD p.left.toNat []) (ofF em F p.right [])).length) = true → tot F < tot (stepF em F p)) := by
  have hl := hs.left p hp
  have hlt : p.left.toNat < F.length := by have := h.sound.len; omega
  have hA := (h.row p.left.toNat).1
  have hU := asc_union hA (asc_ofF (em := em) h.sound.asc p.right [] List.Pairwise.nil)
  have he := asc_len hA hU (fun z hz => mem_union.2 (.inl hz))
  have ht := tot_set F p.left.toNat (mergeU (F.getD p.left.toNat []) (ofF em F p.right [])) hlt
  unfold stepF
  refine ⟨by omega, fun hd => ?_⟩
  have := of_decide_eq_true hd
  omega
theorem KnownF.tot_le (h : KnownF g em F) : tot F ≤ g.toks.length * g.rules.length := by
  have := Go.Proofs.Ytmlggfapnkhcaaa.tot_le F h.bd
  rwa [h.sound.len] at this
theorem KnownF.start (g : Gram) (em : List Bool) : KnownF g em (List.replicate g.rules.length []) := by
  refine ⟨⟨by simp, fun l hl => ?_, fun r z hz => ?_⟩, fun l hl => ?_⟩
  · rw [List.mem_replicate] at hl; rw [hl.2]; exact List.Pairwise.nil
  · rw [List.getD_eq_getElem?_getD] at hz
    cases e : (List.replicate g.rules.length ([] : List Int))[r]? with
    | none => rw [e] at hz; cases hz
    | some l =>
      rw [e] at hz
      have := List.mem_of_getElem? e
      rw [List.mem_replicate] at this
      rw [this.2] at hz
      cases hz
  · rw [List.mem_replicate] at hl; rw [hl.2]; exact Bd.nil _
end
/-- All that can be known. -/
noncomputable def allF (g : Gram) (em : List Bool) : List (List Int) := (List.range g.rules.length).map fun (r : Nat) => firstR g em g.toks.length (r : Int)
theorem KnownF.all {g : Gram} {em : List Bool} {F : List (List Int)} (h : KnownF g em F) (hc : ∀ p ∈ g.prods, ∀ z ∈ ofF em F p.right [], z ∈ F.getD p.left.toNat []) : F = allF g em := by
  apply List.ext_getElem?
  intro i
  unfold allF
  by_cases hi : i < F.length
  · have hi' : i < g.rules.length := by have := h.sound.len; omega
    rw [List.getElem?_map, List.getElem?_range hi', List.getElem?_eq_getElem hi]
    simp only [Option.map_some, Option.some.injEq]
    have hB := h.bd _ (List.getElem_mem hi)
    have hD : F.getD i [] = F[i] := by rw [List.getD_eq_getElem?_getD, List.getElem?_eq_getElem hi]; rfl
    refine asc_ext hB.1 (asc_range _ _) (fun z => ?_)
    constructor
    · intro hz
      have hb := hB.2 z hz
      have := h.sound.is_ i z (by rw [hD]; exact hz)
      unfold firstR
      rw [List.mem_map]
      refine ⟨z.toNat, ?_, by omega⟩
      rw [List.mem_filter, List.mem_range]
      refine ⟨by omega, ?_⟩
      rw [show ((z.toNat : Nat) : Int) = z by omega]
      simpa [holdsB] using this
    · intro hz
      unfold firstR at hz
      rw [List.mem_map] at hz
      obtain ⟨k, hk, rfl⟩ := hz
      rw [List.mem_filter] at hk
      have hb : Begins g em (k : Int) (i : Int) := by simpa [holdsB] using hk.2
      have := closed_all hc hb
      rwa [Int.toNat_natCast, hD] at this
  · have := h.sound.len
    rw [List.getElem?_eq_none (by omega), List.getElem?_eq_none (by simp; omega)]
end Go.Proofs.Ytmlggfapnkhcaaa
