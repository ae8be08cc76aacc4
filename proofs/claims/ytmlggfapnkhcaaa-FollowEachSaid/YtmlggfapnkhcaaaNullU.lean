/-
  law21: NullTells.
-/
import Derived.Test.YtmlggfapnkhcaaaNullT
namespace Go.Proofs.Ytmlggfapnkhcaaa
open Go.RowKit Go.Shelf

theorem keep_one {wr w1 w2 : World} {p : Nat} {t : TypeId} {a b c d e f g h : Value} (H : Holds wr p t #[a, b, c, d, e, f, g, h])
    (hb : Below wr.heap.size wr w1) (hb2 : Below w1.heap.size w1 w2) :
    w2.cell? ⟨p, 0, none⟩ = some a ∧ w2.cell? ⟨p, 1, none⟩ = some b ∧ w2.cell? ⟨p, 2, none⟩ = some c ∧ w2.cell? ⟨p, 3, none⟩ = some d ∧ w2.cell? ⟨p, 4, none⟩ = some e ∧ w2.cell? ⟨p, 5, none⟩ = some f ∧ w2.cell? ⟨p, 6, none⟩ = some g ∧ w2.cell? ⟨p, 7, none⟩ = some h ∧ Below wr.heap.size wr w2 := by
  have hb3 := hb.trans (hb2.mono hb.size)
  obtain ⟨x0, x1, x2, x3, x4, x5, x6, x7⟩ := eight (H.below hb3 H.lt)
  exact ⟨x0, x1, x2, x3, x4, x5, x6, x7, hb3⟩
theorem few_is {g : Gram} (h : fewB g = true) (hz : Named g) : Small g := ⟨by have := (few_small h).1; omega, by have := (few_small h).2.1; omega, by have := (few_small h).2.2; omega, hz⟩
end Go.Proofs.Ytmlggfapnkhcaaa
