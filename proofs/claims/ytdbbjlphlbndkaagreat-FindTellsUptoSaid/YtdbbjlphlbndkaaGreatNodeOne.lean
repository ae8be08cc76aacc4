/-
  An argument that is one node, opened.
-/
import Derived.Test.YtdbbjlphlbndkaaGreatT6
namespace Go.Proofs.YtdbbjlphlbndkaaGreat.T
open Go.RowKit Go.Shelf Go.ChangeShapes Go.WideShapes

section
variable {H : Type} {enc : TypeId × Value → H} {w : World} {base : Nat} {spare : Nat → Bool} {held : Bool}
set_option maxRecDepth 100000 in
theorem open_node_d {r : Reach} {b0 : Nat} {v : Value} {d : DataW H} {p : List MemPlace} (hv : Value.okWide Tryz.prog w r b0 31 v) (h : DataW.Trod enc Tryz.prog w base spare held 31 v d p) :
    ∃ (x : Node) (l : Value), v = .agg #[.int .i64 x.kind, .int .i64 x.n, .int .i64 x.size, l, .string x.text] ∧ Pcs w (Old w) l x.lead ∧ ∀ R, (∀ n ∈ d.weights Tryz.prog 31, n ≤ R) → FitN R x := by
  obtain ⟨f0, f1, f2, f3, f4, hu, ⟨o0, o1, o2, o3, o4⟩, ⟨u0, u1, u2, u3, u4⟩, k0, k1, k2, k3, k4⟩ := node_fields
  obtain ⟨cs, rfl, hsz⟩ := okWide_struct hu hv
  rw [show Tryz.prog.cellsOf 31 = 5 by kernel_rfl] at hsz
  obtain ⟨fuel, hm⟩ := h
  obtain ⟨xs, k, _, hxs, _, hxl, hf⟩ := DataW.trod_struct hu hm
  match cs, hsz with
  | ⟨[y0, y1, y2, y3, y4]⟩, _ =>
    have t0 := hf 0 f0 rfl
    have t1 := hf 1 f1 rfl
    have t2 := hf 2 f2 rfl
    have t3 := hf 3 f3 rfl
    have t4 := hf 4 f4 rfl
    match xs, hxl with
    | [z0, z1, z2, z3, z4], _ =>
      simp only [Value.cells, o0, o1, o2, o3, o4, k0, k1, k2, k3, k4, List.drop_zero, List.take_succ_cons, List.take_zero, List.drop_succ_cons, List.getElem?_cons_zero, List.getElem?_cons_succ] at t0 t1 t2 t3 t4
      obtain ⟨kd, e0, d0, _⟩ := DataW.trod_int u0 t0
      obtain ⟨nn, e1, d1, _⟩ := DataW.trod_int u1 t1
      obtain ⟨sd, e2, d2, _⟩ := DataW.trod_int u2 t2
      obtain ⟨s, e4, d4, _⟩ := DataW.trod_string u4 t4
      rw [u3] at t3
      obtain ⟨ld, hld, hfit, hbulk⟩ := open_pcs_d t3
      cases e0; cases e1; cases e2; cases e4
      have hD : d = .agg [z0.1, z1.1, z2.1, z3.1, z4.1] := congrArg Prod.fst hxs
      refine ⟨⟨kd, nn, sd, ld, s⟩, y3, rfl, hld, fun R hR => ?_⟩
      rw [hD, weights_struct hu] at hR
      refine ⟨hfit R (fun n hn => hR n ?_), hR _ ?_⟩
      · rw [← u3] at hn
        simp only [DataW.weightsEach, List.map_cons, List.mem_append]
        exact .inr (.inr (.inr (.inl hn)))
      · rw [d4]
        simp [DataW.weightsEach, DataW.weights]
end
end Go.Proofs.YtdbbjlphlbndkaaGreat.T
