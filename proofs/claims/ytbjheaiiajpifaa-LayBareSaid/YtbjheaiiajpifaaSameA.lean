/-
  same: the methods that ask in what two trees differ at a place.
-/
import Derived.Test.YtbjheaiiajpifaaLead3
import Derived.Test.YtbjheaiiajpifaaTrailRef
import Derived.Deep.RegionHeld3
namespace Go.Proofs.Ytbjheaiiajpifaa.T
open Go.RowKit Go.Shelf

/-- Block p holds what is compared: tokens, and two trees. -/
structure TwoAt (w : World) (p : Nat) (vt va vb : Value) (ts : List Token) (a b : List Node) : Prop where
  at_ : Holds w p 162 #[vt, va, vb]
  toks : Recs tokR w (Old w) vt ts
  a : Nds w (Old w) va a
  b : Nds w (Old w) vb b
theorem TwoAt.below {w w' : World} {p : Nat} {vt va vb : Value} {ts : List Token} {a b : List Node} (h : TwoAt w p vt va vb ts a b) (hb : Below w.heap.size w w') : TwoAt w' p vt va vb ts a b := ⟨h.at_.below hb h.at_.lt, h.toks.old hb, h.a.old hb, h.b.old hb⟩
theorem Holds.three {w : World} {p : Nat} {t : TypeId} {a b c : Value} (H : Holds w p t #[a, b, c]) : w.cell? ⟨p, 0, none⟩ = some a ∧ w.cell? ⟨p, 1, none⟩ = some b ∧ w.cell? ⟨p, 2, none⟩ = some c := ⟨H.cell 0, H.cell 1, H.cell 2⟩

noncomputable def nodesD (a b : List Node) (i : Nat) : Bool := match a[i]?, b[i]? with
  | some x, some y => x.kind != y.kind || (x.n != y.n || (kidsOf a i).length != (kidsOf b i).length)
  | _, _ => false
noncomputable def textsD (a b : List Node) (i : Nat) : Bool := match a[i]?, b[i]? with
  | some x, some y => !(eqB x.text y.text)
  | _, _ => false
noncomputable def notesD (ts : List Token) (a b : List Node) (i : Nat) : Bool := match a[i]?, b[i]? with
  | some x, some y => !(eqB (notesOf ts x.lead) (notesOf ts y.lead))
  | _, _ => false
noncomputable def blanksD (a b : List Node) (i : Nat) : Bool := match a[i]?, b[i]? with
  | some x, some y => !(eqB x.lead y.lead)
  | _, _ => false

set_option maxRecDepth 20000 in
set_option maxHeartbeats 4000000 in
theorem two_texts (p : Nat) (vt va vb : Value) (ts : List Token) (a b : List Node) (i : Nat) (w : World) (H : TwoAt w p vt va vb ts a b) (h1 : i < a.length) (h2 : i < b.length) :
    Calls Try.prog 47 #[.pointer (some ⟨p, 0, none⟩), .int .i64 (i : Int)] w fun r w' => r = .returned (.bool (textsD a b i)) ∧ Below w.heap.size w w' := by
  obtain ⟨b1, o1, c1, rfl, d1, e1, _, hat1⟩ := H.a.open_ (by intro e; subst e; simp at h1)
  obtain ⟨b2, o2, c2, rfl, d2, e2, _, hat2⟩ := H.b.open_ (by intro e; subst e; simp at h2)
  unfold maxLen at e1 e2
  have hx := List.getElem?_eq_getElem h1
  have hy := List.getElem?_eq_getElem h2
  obtain ⟨l1, x0, x1, x2, x3, x4, _⟩ := hat1 i _ hx
  obtain ⟨l2, y0, y1, y2, y3, y4, _⟩ := hat2 i _ hy
  unfold textsD
  rw [hx, hy]
  dsimp only
  generalize a[i] = x at *
  generalize b[i] = y at *
  obtain ⟨s0, s1, s2⟩ := Holds.three H.at_
  have z1 := Ext.cell s1; have z2 := Ext.cell s2; have z3 := Ext.cell x4; have z4 := Ext.cell y4
  have hse := strs_eql x.text y.text
  have hb := Below.refl w.heap.size w
  clear x0 x1 x2 x3 x4 y0 y1 y2 y3 y4 s0 s1 s2 hat1 hat2 hx hy H
  go_enter Try.func47, Try.ntmps47
  go_wp2_with fail
  refine wp_region_ext (by kernel_rfl) (by kernel_rfl) ?_
  repeat (go_big_quiet_step (fail))
  refine wpQuiet_nil ?_
  intro w2 hb2
  clear z1 z2 z3 z4
  go_wp2
  go_ret
  exact ⟨by rw [← hse]; rfl, hb2⟩

set_option maxRecDepth 20000 in
set_option maxHeartbeats 4000000 in
theorem two_places (p : Nat) (vt va vb : Value) (ts : List Token) (a b : List Node) (w : World) (H : TwoAt w p vt va vb ts a b) :
    Calls Try.prog 46 #[.pointer (some ⟨p, 0, none⟩)] w fun r w' => r = .returned (.int .i64 (min a.length b.length : Nat)) ∧ Below w.heap.size w w' := by
  obtain ⟨A1, c1, rfl, d1, e1⟩ := H.a.value
  obtain ⟨A2, c2, rfl, d2, e2⟩ := H.b.value
  unfold maxLen at e1 e2
  obtain ⟨s0, s1, s2⟩ := Holds.three H.at_
  have z1 := Ext.cell s1; have z2 := Ext.cell s2
  clear s0 s1 s2 H
  go_enter Try.func46, Try.ntmps46
  go_wp2_with fail
  refine wp_region_ext (by kernel_rfl) (by kernel_rfl) ?_
  repeat (go_big_quiet_step (fail))
  refine wpQuiet_nil ?_
  intro w2 hb2
  clear z1 z2
  go_wp2
  all_goals
    go_ret
    exact ⟨ret_int (by first | omega | (split <;> omega)), hb2⟩

set_option maxRecDepth 20000 in
set_option maxHeartbeats 4000000 in
theorem two_blanks (p : Nat) (vt va vb : Value) (ts : List Token) (a b : List Node) (i : Nat) (w : World) (H : TwoAt w p vt va vb ts a b) (h1 : i < a.length) (h2 : i < b.length) :
    Calls Try.prog 48 #[.pointer (some ⟨p, 0, none⟩), .int .i64 (i : Int)] w fun r w' => r = .returned (.bool (blanksD a b i)) ∧ Below w.heap.size w w' := by
  obtain ⟨b1, o1, c1, rfl, d1, e1, _, hat1⟩ := H.a.open_ (by intro e; subst e; simp at h1)
  obtain ⟨b2, o2, c2, rfl, d2, e2, _, hat2⟩ := H.b.open_ (by intro e; subst e; simp at h2)
  unfold maxLen at e1 e2
  have hx := List.getElem?_eq_getElem h1
  have hy := List.getElem?_eq_getElem h2
  obtain ⟨l1, x0, x1, x2, x3, x4, hl1⟩ := hat1 i _ hx
  obtain ⟨l2, y0, y1, y2, y3, y4, hl2⟩ := hat2 i _ hy
  unfold blanksD
  rw [hx, hy]
  dsimp only
  generalize a[i] = x at *
  generalize b[i] = y at *
  obtain ⟨s0, s1, s2⟩ := Holds.three H.at_
  obtain ⟨A3, c3, rfl, _, _⟩ := hl1.value
  obtain ⟨A4, c4, rfl, _, _⟩ := hl2.value
  have HE := hidden (fun x' : Ext w => equal_pcs _ _ x.lead y.lead x'.w (Rd.old hl1 x'.below) (Rd.old hl2 x'.below))
  have z1 := Ext.cell s1; have z2 := Ext.cell s2; have z3 := Ext.cell x3; have z4 := Ext.cell y3
  generalize eqB x.lead y.lead = r at *
  clear x0 x1 x2 x3 x4 y0 y1 y2 y3 y4 s0 s1 s2 hat1 hat2 hx hy H hl1 hl2
  go_enter Try.func48, Try.ntmps48
  go_wp2_with fail
  refine wp_region_ext (by kernel_rfl) (by kernel_rfl) ?_
  repeat (go_big_quiet_step ((go_at_call 80; exact Ext.call (HE.out _))))
  refine wpQuiet_nil ?_
  intro w2 hb2
  clear z1 z2 z3 z4
  go_wp2
  go_ret
  exact ⟨rfl, hb2⟩
end Go.Proofs.Ytbjheaiiajpifaa.T
