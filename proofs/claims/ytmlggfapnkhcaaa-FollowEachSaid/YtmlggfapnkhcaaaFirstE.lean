/-
  Rules begin with what their productions begin with; items with what the first one does. Plain.
-/
import Derived.Test.YtmlggfapnkhcaaaFirstD
import Derived.Test.YtmlggfapnkhcaaaFollowP
namespace Go.Proofs.Ytmlggfapnkhcaaa
open Go.RowKit Go.Shelf

/-- What the first k productions of a rule begin with, put behind one another. -/
noncomputable def concatOf (g : Gram) (r : Nat) (k : Nat) : List Int := ((g.prods.take k).filter fun p => decide (p.left = (r : Int))).flatMap fun p => firsts22 g p.right
theorem concatOf_succ {g : Gram} {r k : Nat} {p : Prod} (hx : g.prods[k]? = some p) : concatOf g r (k + 1) = concatOf g r k ++ (if decide (p.left = (r : Int)) = true then firsts22 g p.right else []) := by
  unfold concatOf
  rw [List.take_add_one, hx, List.filter_append, List.flatMap_append]
  congr 1
  cases h : decide (p.left = (r : Int)) <;> simp [h]
theorem concatOf_len (g : Gram) (r : Nat) : ∀ k, (concatOf g r k).length ≤ k * g.toks.length := by
  intro k
  induction k with
  | zero => simp [concatOf]
  | succ k ih =>
    cases hx : g.prods[k]? with
    | none =>
      have : concatOf g r (k + 1) = concatOf g r k := by
        have := List.getElem?_eq_none_iff.1 hx
        unfold concatOf
        rw [List.take_of_length_le (by omega), List.take_of_length_le (by omega)]
      rw [this, Nat.succ_mul]; omega
    | some p =>
      rw [concatOf_succ hx, List.length_append, Nat.succ_mul]
      have := firsts_len g p.right
      split
      · omega
      · simp; omega
theorem firsts_prod {g : Gram} (hr : rightB g = true) {p : Prod} (hp : p ∈ g.prods) {n : Nat} : firsts22 g (p.right.drop n) = firstL g (growsB g false) g.toks.length (p.right.drop n) := by
  have hi : itemsIn g (p.right.drop n) = true := by
    have := (rightB_RightG hr).itemIn hp
    unfold itemsIn at this ⊢
    rw [List.all_eq_true] at this ⊢
    exact fun x hx => this x (List.mem_of_mem_drop hx)
  unfold firsts22
  rw [hr, hi, if_pos (by rfl)]
theorem each_rows {g : Gram} (hr : rightB g = true) {r : Nat} (h : r < g.rules.length) : (all22 g)[r]? = some (setOf (concatOf g r g.prods.length)) := by
  unfold all22
  rw [if_pos hr, allF_at h]
  congr 1
  refine asc_ext (asc_range _ _) (asc_setOf _) (fun z => ?_)
  rw [mem_setOf, mem_firstR, begins_iff]
  unfold concatOf
  rw [List.take_of_length_le (Nat.le_refl _), List.mem_flatMap]
  constructor
  · rintro ⟨h0, h1, p, hp, hl, hs⟩
    refine ⟨p, List.mem_filter.2 ⟨hp, decide_eq_true hl⟩, ?_⟩
    have := firsts_prod hr hp (n := 0)
    rw [List.drop_zero] at this
    rw [this, mem_firstL]
    exact ⟨h0, h1, hs⟩
  · rintro ⟨p, hp, hz⟩
    rw [List.mem_filter] at hp
    have := firsts_prod hr hp.1 (n := 0)
    rw [List.drop_zero] at this
    rw [this, mem_firstL] at hz
    exact ⟨hz.1, hz.2.1, p, hp.1, of_decide_eq_true hp.2, hz.2.2⟩
theorem right_cons {p : Prod} {x : Item} (hx : p.right[0]? = some x) : p.right = x :: p.right.drop 1 := by
  cases h : p.right with
  | nil => rw [h] at hx; cases hx
  | cons y l => rw [h] at hx; simp at hx; subst hx; rfl
theorem each_tok {g : Gram} (hr : rightB g = true) {p : Prod} (hp : p ∈ g.prods) {x : Item} (hx : p.right[0]? = some x) (h : x.rule = false) : firsts22 g p.right = unionOf (setOf [x.n]) [] := by
  have e := right_cons hx
  have hxn := (whole22 hr).token p hp x (List.mem_of_getElem? hx) h
  refine asc_ext (asc_firsts _ _) (asc_unionOf _ _) (fun z => ?_)
  have := firsts_prod hr hp (n := 0)
  rw [List.drop_zero] at this
  rw [this, mem_unionOf, mem_setOf, List.mem_singleton, e, mem_firstL_tok h hxn]
  simp
theorem each_rule {g : Gram} (hr : rightB g = true) {p : Prod} (hp : p ∈ g.prods) {x : Item} (hx : p.right[0]? = some x) (h : x.rule = true) : firsts22 g p.right = unionOf (setOf ((all22 g).getD x.n.toNat [])) (if atB (growsB g false) x.n = true then firsts22 g (p.right.drop 1) else []) := by
  have e := right_cons hx
  have hxn := (whole22 hr).rule p hp x (List.mem_of_getElem? hx) h
  refine asc_ext (asc_firsts _ _) (asc_unionOf _ _) (fun z => ?_)
  have h1 := firsts_prod hr hp (n := 0)
  rw [List.drop_zero] at h1
  have h2 : (all22 g).getD x.n.toNat [] = firstR g (growsB g false) g.toks.length x.n := by
    unfold all22
    rw [if_pos hr, List.getD_eq_getElem?_getD, allF_at (by omega), show ((x.n.toNat : Nat) : Int) = x.n by omega]
    rfl
  rw [h1, h2, firsts_prod hr hp (n := 1), mem_unionOf, mem_setOf, e, mem_firstL_rule h]
  rw [← e]
  by_cases hv : atB (growsB g false) x.n = true
  · rw [if_pos hv]; simp [hv]
  · rw [if_neg hv]; simp [hv]
end Go.Proofs.Ytmlggfapnkhcaaa
