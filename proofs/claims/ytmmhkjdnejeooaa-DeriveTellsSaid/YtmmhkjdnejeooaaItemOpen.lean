/-
  An argument that is one item, opened.
-/
import Derived.Test.YtmmhkjdnejeooaaDeriveA
import Derived.Test.YtmmhkjdnejeooaaG4
namespace Go.Proofs.Ytmmhkjdnejeooaa.T
open Go.RowKit Go.Shelf Go.ChangeShapes Go.WideShapes

section
variable {H : Type} {enc : TypeId × Value → H} {w : World} {base : Nat} {spare : Nat → Bool} {held : Bool}
set_option maxRecDepth 100000 in
theorem open_item {r : Go.Reach} {b0 : Nat} {v : Value} {d : DataW H} {p : List MemPlace} (hv : Value.okWide Try.prog w r b0 30 v) (h : DataW.Trod enc Try.prog w base spare held 30 v d p) : ∃ y : Item, v = .agg (itV y) := by
  obtain ⟨f0, f1, f2, f3, hu, ⟨o0, o1, o2, o3⟩, ⟨u0, u1, u2, u3⟩, k0, k1, k2, k3⟩ := item_fields
  obtain ⟨cs, rfl, hsz⟩ := okWide_struct hu hv
  rw [show Try.prog.cellsOf 30 = 4 by kernel_rfl] at hsz
  obtain ⟨fuel, hm⟩ := h
  obtain ⟨xs, k, _, _, _, hxl, hf⟩ := DataW.trod_struct hu hm
  match cs, hsz with
  | ⟨[y0, y1, y2, y3]⟩, _ =>
    have t0 := hf 0 f0 rfl
    have t1 := hf 1 f1 rfl
    have t2 := hf 2 f2 rfl
    have t3 := hf 3 f3 rfl
    match xs, hxl with
    | [z0, z1, z2, z3], _ =>
      simp only [Value.cells, o0, o1, o2, o3, k0, k1, k2, k3, List.drop_zero, List.take_succ_cons, List.take_zero, List.drop_succ_cons, List.getElem?_cons_zero, List.getElem?_cons_succ] at t0 t1 t2 t3
      obtain ⟨b, e0, _⟩ := DataW.trod_bool u0 t0
      obtain ⟨i1, e1, _⟩ := DataW.trod_int u1 t1
      obtain ⟨i2, e2, _⟩ := DataW.trod_int u2 t2
      obtain ⟨i3, e3, _⟩ := DataW.trod_int u3 t3
      cases e0; cases e1; cases e2; cases e3
      exact ⟨⟨b, i1, i2, i3⟩, rfl⟩
end
end Go.Proofs.Ytmmhkjdnejeooaa.T
