/-
  Two or three operations of which any may come up.
-/
import Derived.Test.YtmlggfapnkhcaaaTakeC
namespace Go.Proofs.Ytmlggfapnkhcaaa
open Go.RowKit Go.Shelf

section
variable {F : Fence} {n : Nat} {P : Program} {l : List Oper} {C : World → Prop} {m : Nat} {Q : Exit → Act → World → Prop} {a : Act} {w : World}
/-- Two operations may come up, and no other. -/
theorem take_two {i j : Nat} {o o' : Oper} {f : Nat} {listed : Array Bool} (hr : Region.ready .any l.toArray listed = [i, j]) (ho : l.toArray[i]? = some o) (ho' : l.toArray[j]? = some o') (hg : o.guard = none) (hg' : o'.guard = none) (hin : decide (i < m) = true) (hin' : decide (j < m) = true)
    (h : ∀ K : Act → World → Prop, (∀ a w, C w → wpTake F n P l C m Q f (listed.setIfInBounds i true) a w → K a w) → o.wpIn F n P a w K Q)
    (h' : ∀ K : Act → World → Prop, (∀ a w, C w → wpTake F n P l C m Q f (listed.setIfInBounds j true) a w → K a w) → o'.wpIn F n P a w K Q) : wpTake F n P l C m Q (f + 1) listed a w := fun inv => by
  refine ⟨fun h0 => (by rw [hr] at h0; cases h0), fun k hk => ?_⟩
  have hki := hk
  rw [hr] at hki
  have hki : k = i ∨ k = j := by simpa using hki
  rcases hki with rfl | rfl
  · have hjm := of_decide_eq_true hin
    unfold wpOpIn
    simp only [ho, Region.wanted, hg, if_true]
    exact h _ (fun a w hC ht => ⟨fun _ => hC, ht (inv.set hk hjm)⟩)
  · have hjm := of_decide_eq_true hin'
    unfold wpOpIn
    simp only [ho', Region.wanted, hg', if_true]
    exact h' _ (fun a w hC ht => ⟨fun _ => hC, ht (inv.set hk hjm)⟩)
/-- Three operations may come up, and no other. -/
theorem take_three {i j k : Nat} {o o' o'' : Oper} {f : Nat} {listed : Array Bool} (hr : Region.ready .any l.toArray listed = [i, j, k]) (ho : l.toArray[i]? = some o) (ho' : l.toArray[j]? = some o') (ho'' : l.toArray[k]? = some o'') (hg : o.guard = none) (hg' : o'.guard = none) (hg'' : o''.guard = none) (hin : decide (i < m) = true) (hin' : decide (j < m) = true) (hin'' : decide (k < m) = true)
    (h : ∀ K : Act → World → Prop, (∀ a w, C w → wpTake F n P l C m Q f (listed.setIfInBounds i true) a w → K a w) → o.wpIn F n P a w K Q)
    (h' : ∀ K : Act → World → Prop, (∀ a w, C w → wpTake F n P l C m Q f (listed.setIfInBounds j true) a w → K a w) → o'.wpIn F n P a w K Q)
    (h'' : ∀ K : Act → World → Prop, (∀ a w, C w → wpTake F n P l C m Q f (listed.setIfInBounds k true) a w → K a w) → o''.wpIn F n P a w K Q) : wpTake F n P l C m Q (f + 1) listed a w := fun inv => by
  refine ⟨fun h0 => (by rw [hr] at h0; cases h0), fun q hk => ?_⟩
  have hki := hk
  rw [hr] at hki
  have hki : q = i ∨ q = j ∨ q = k := by simpa using hki
  rcases hki with rfl | rfl | rfl
  · have hjm := of_decide_eq_true hin
    unfold wpOpIn
    simp only [ho, Region.wanted, hg, if_true]
    exact h _ (fun a w hC ht => ⟨fun _ => hC, ht (inv.set hk hjm)⟩)
  · have hjm := of_decide_eq_true hin'
    unfold wpOpIn
    simp only [ho', Region.wanted, hg', if_true]
    exact h' _ (fun a w hC ht => ⟨fun _ => hC, ht (inv.set hk hjm)⟩)
  · have hjm := of_decide_eq_true hin''
    unfold wpOpIn
    simp only [ho'', Region.wanted, hg'', if_true]
    exact h'' _ (fun a w hC ht => ⟨fun _ => hC, ht (inv.set hk hjm)⟩)
end
end Go.Proofs.Ytmlggfapnkhcaaa
