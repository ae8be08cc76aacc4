/-
  What a production brings, gone over from its end. Plain.
-/
import Derived.Test.YtmlggfapnkhcaaaFollowP
namespace Go.Proofs.Ytmlggfapnkhcaaa
open Go.RowKit Go.Shelf

/-- Between two items: j of them are left; t: what stands behind; F: what was known ahead of the production. -/
structure ProdAt (g : Gram) (em rb : List Bool) (F : List (List Int)) (p : Prod) (j : Nat) (t : List Int) (F' : List (List Int)) (nb : Bool) : Prop where
  tail : TailIs g em (p.right.drop j) (F.getD p.left.toNat []) t
  known : KnownB g em rb F'
  no : nb = false → F' = F ∧ ∀ k, j ≤ k → ClosedAt g em F p k
  le : tot F ≤ tot F'
  yes : nb = true → tot F < tot F'
section
variable {g : Gram} {em rb : List Bool} {F : List (List Int)} {p : Prod}
theorem ProdAt.start (h : KnownB g em rb F) : ProdAt g em rb F p p.right.length (F.getD p.left.toNat []) F false := by
  refine ⟨?_, h, fun _ => ⟨rfl, fun k hk x hx => ?_⟩, Nat.le_refl _, fun h => by cases h⟩
  · rw [List.drop_length]
    exact TailIs.none (getD_bd h.bd _)
  · rw [List.getElem?_eq_none (by omega)] at hx
    cases hx
theorem drop_at {p : Prod} {m : Nat} {x : Item} (hx : p.right[m]? = some x) : p.right.drop m = x :: p.right.drop (m + 1) := by
  obtain ⟨h, e⟩ := List.getElem?_eq_some_iff.1 hx
  rw [List.drop_eq_getElem_cons h, e]
theorem ProdAt.tok (hs : Whole22 g) (hp : p ∈ g.prods) {m : Nat} {x : Item} (hx : p.right[m]? = some x) (hr : x.rule = false) {t : List Int} {F' : List (List Int)} {nb : Bool} (h : ProdAt g em rb F p (m + 1) t F' nb) : ProdAt g em rb F p m [x.n] F' nb := by
  refine ⟨?_, h.known, fun hn => ⟨(h.no hn).1, fun k hk => ?_⟩, h.le, h.yes⟩
  · rw [drop_at hx]
    exact TailIs.tok hr (hs.token p hp x (List.mem_of_getElem? hx) hr)
  · by_cases e : k = m
    · subst e
      intro y hy hyr
      rw [hx] at hy; cases hy
      rw [hr] at hyr; cases hyr
    · exact (h.no hn).2 k (by omega)
theorem ProdAt.rule (hs : Whole22 g) (hp : p ∈ g.prods) (hrb : atB rb p.left = true) (hF : KnownB g em rb F) {m : Nat} {x : Item} (hx : p.right[m]? = some x) (hr : x.rule = true) {t : List Int} {F' : List (List Int)} {nb : Bool} (h : ProdAt g em rb F p (m + 1) t F' nb) :
    ProdAt g em rb F p m (if atB em x.n = true then mergeU t (firstR g em g.toks.length x.n) else firstR g em g.toks.length x.n) (bringF F' x.n.toNat t) (nb || decide ((F'.getD x.n.toNat []).length < (mergeU (F'.getD x.n.toNat []) t).length)) := by
  have hxn := hs.rule p hp x (List.mem_of_getElem? hx) hr
  have hlt : x.n.toNat < F'.length := by have := h.known.len; omega
  have hpl := hs.left p hp
  have htot := bringF_tot h.known.bd hlt h.tail.1
  refine ⟨?_, h.known.bring hs hp hrb hx hr (fun z hz => ?_) h.tail, fun hn => ?_, Nat.le_trans h.le htot.1, fun hy => ?_⟩
  · rw [drop_at hx]
    exact TailIs.rule hr h.tail
  · have := hF.is_ _ z hz
    rwa [show ((p.left.toNat : Nat) : Int) = p.left by omega] at this
  · rw [Bool.or_eq_false_iff] at hn
    obtain ⟨e, hc⟩ := h.no hn.1
    subst e
    obtain ⟨e2, hz⟩ := bringF_no h.known.bd hlt h.tail.1 hn.2
    refine ⟨e2, fun k hk => ?_⟩
    by_cases e : k = m
    · subst e
      intro y hy hyr z hzz
      rw [hx] at hy; cases hy
      exact hz z ((h.tail.2 z).2 hzz)
    · exact hc k (by omega)
  · rw [Bool.or_eq_true] at hy
    rcases hy with hy | hy
    · exact Nat.lt_of_lt_of_le (h.yes hy) htot.1
    · exact Nat.lt_of_le_of_lt h.le (htot.2 hy)
end
end Go.Proofs.Ytmlggfapnkhcaaa
