/-
  The document's passes over the productions. Plain.
-/
import Derived.Test.YtmlggfapnkhcaaaFollowQ
namespace Go.Proofs.Ytmlggfapnkhcaaa
open Go.RowKit Go.Shelf

/-- Within a pass that began with F: what is known, whether there was news, and which items were looked at. -/
structure PassAt (g : Gram) (em rb : List Bool) (F : List (List Int)) (done : Prod → Nat → Prop) (F' : List (List Int)) (nb : Bool) : Prop where
  known : KnownB g em rb F'
  no : nb = false → F' = F ∧ ∀ p k, done p k → ClosedAt g em F p k
  le : tot F ≤ tot F'
  yes : nb = true → tot F < tot F'
section
variable {g : Gram} {em rb : List Bool} {F F' : List (List Int)} {done done' : Prod → Nat → Prop} {nb : Bool}
theorem PassAt.start (h : KnownB g em rb F) (hd : ∀ p k, ¬ done p k) : PassAt g em rb F done F false := ⟨h, fun _ => ⟨rfl, fun p k hk => absurd hk (hd p k)⟩, Nat.le_refl _, fun h => by cases h⟩
/-- Items of which nothing is asked. -/
theorem PassAt.idle (h : PassAt g em rb F done F' nb) (hd : ∀ p k, done' p k → done p k ∨ ∀ x, p.right[k]? = some x → x.rule = false) : PassAt g em rb F done' F' nb :=
  ⟨h.known, fun hn => ⟨(h.no hn).1, fun p k hk => by
    rcases hd p k hk with h1 | h1
    · exact (h.no hn).2 p k h1
    · intro x hx hr
      rw [h1 x hx] at hr; cases hr⟩, h.le, h.yes⟩
theorem PassAt.item (hs : Whole22 g) (h : PassAt g em rb F done F' nb) {p : Prod} (hp : p ∈ g.prods) (hrb : atB rb p.left = true) {k : Nat} {x : Item} (hx : p.right[k]? = some x) (hr : x.rule = true) {t : List Int} (ht : TailIs g em (p.right.drop (k + 1)) (F'.getD p.left.toNat []) t)
    (hd : ∀ p' k', done' p' k' → done p' k' ∨ p' = p ∧ k' = k) : PassAt g em rb F done' (bringF F' x.n.toNat t) (nb || decide ((F'.getD x.n.toNat []).length < (mergeU (F'.getD x.n.toNat []) t).length)) := by
  have hxn := hs.rule p hp x (List.mem_of_getElem? hx) hr
  have hlt : x.n.toNat < F'.length := by have := h.known.len; omega
  have hpl := hs.left p hp
  have htot := bringF_tot h.known.bd hlt ht.1
  refine ⟨h.known.bring hs hp hrb hx hr (fun z hz => ?_) ht, fun hn => ?_, Nat.le_trans h.le htot.1, fun hy => ?_⟩
  · have := h.known.is_ _ z hz
    rwa [show ((p.left.toNat : Nat) : Int) = p.left by omega] at this
  · rw [Bool.or_eq_false_iff] at hn
    obtain ⟨e, hc⟩ := h.no hn.1
    obtain ⟨e2, hz⟩ := bringF_no h.known.bd hlt ht.1 hn.2
    refine ⟨e2.trans e, fun p' k' hk => ?_⟩
    rcases hd p' k' hk with h1 | ⟨rfl, rfl⟩
    · exact hc p' k' h1
    · intro y hy hyr z hzz
      rw [hx] at hy; cases hy
      subst e
      exact hz z ((ht.2 z).2 hzz)
  · rw [Bool.or_eq_true] at hy
    rcases hy with hy | hy
    · exact Nat.lt_of_lt_of_le (h.yes hy) htot.1
    · exact Nat.lt_of_le_of_lt h.le (htot.2 hy)
theorem PassAt.end_ (h : PassAt g em rb F done F' false) (hd : ∀ p ∈ g.prods, atB rb p.left = true → ∀ k, done p k) : F' = folF g em rb := by
  obtain ⟨e, hc⟩ := h.no rfl
  subst e
  exact h.known.all (fun p hp hrb k => hc p k (hd p hp hrb k))
end
/-- As the document puts a row together. -/
theorem union_bring {N : Nat} {F : List (List Int)} (hF : ∀ l ∈ F, Bd N l) {t : List Int} (ht : Bd N t) (r : Nat) : unionOf t (F.getD r []) = mergeU (F.getD r []) t := by
  have hA := (getD_bd hF r).1
  refine asc_ext (asc_unionOf _ _) (asc_union hA ht.1) (fun z => ?_)
  rw [mem_unionOf, mem_union]
  exact or_comm
end Go.Proofs.Ytmlggfapnkhcaaa
