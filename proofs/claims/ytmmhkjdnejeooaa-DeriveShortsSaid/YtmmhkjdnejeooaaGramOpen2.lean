/-
  Arguments opened: productions; a grammar, with how many bytes its productions take.
-/
import Derived.Test.YtmmhkjdnejeooaaG4
namespace Go.Proofs.Ytmmhkjdnejeooaa
open Go.RowKit Go.Shelf Go.ChangeShapes Go.WideShapes

theorem wts_slice {H : Type} {P : Program} {t e : TypeId} (ht : P.underlying t = some (.slice e)) (elems spare : List (DataW H)) : (DataW.slice elems spare).weights P t = (elems.length + spare.length) * P.bytesOf e :: (DataW.weightsAll P e elems ++ DataW.weightsAll P e spare) := by
  simp [DataW.weights, ht]
theorem wts_struct {H : Type} {P : Program} {t : TypeId} {fs : Array Field} (ht : P.underlying t = some (.struct fs)) (parts : List (DataW H)) : (DataW.agg parts).weights P t = DataW.weightsEach P (fs.toList.map (·.type)) parts := by
  simp [DataW.weights, ht]

section
variable {H : Type} {enc : TypeId × Value → H} {w : World} {base : Nat} {spare : Nat → Bool} {held : Bool}
set_option maxRecDepth 100000 in
theorem prods_bytes {fuel : Nat} {A : Option Addr} {len cap : Nat} {x : DataW H × List MemPlace} (h : DataW.trod enc Try.prog w base spare held fuel 24 [.slice A len cap] = some x) : ∀ R, (∀ n ∈ x.1.weights Try.prog 24, n ≤ R) → len * 32 ≤ R := by
  intro R hR
  rcases Go.Deep.open_slice (e := 56) (by kernel_rfl) h with ⟨e, _⟩ | ⟨a, len', cap', m, n, D, Pl, e, hb, hl, hm, hmm, hxd, hx⟩
  · simp only [List.cons.injEq, Value.slice.injEq, and_true] at e
    omega
  · simp only [List.cons.injEq, Value.slice.injEq, and_true] at e
    rw [hxd, wts_slice (e := 56) (by kernel_rfl)] at hR
    have := hR _ List.mem_cons_self
    rw [show Try.prog.bytesOf 56 = 32 by kernel_rfl] at this
    simp only [List.length_map, List.length_range] at this
    obtain ⟨_, e1, _⟩ := e
    subst e1
    refine Nat.le_trans (Nat.mul_le_mul_right 32 ?_) this
    omega
set_option maxRecDepth 100000 in
theorem open_gram_s {r : Reach} {b0 : Nat} {v : Value} {d : DataW H} {p : List MemPlace} (hv : Value.okWide Try.prog w r b0 26 v) (h : DataW.Trod enc Try.prog w base spare held 26 v d p) :
    ∃ (g : Gram) (a b c : Value), v = .agg (gramCells a b c g) ∧ GramIs w (Old w) a b c g ∧ (∀ s ∈ allNames g, s.size ≤ maxLen) ∧ ∀ R, (∀ n ∈ d.weights Try.prog 26, n ≤ R) → g.prods.length * 32 ≤ R := by
  obtain ⟨f0, f1, f2, f3, f4, f5, f6, f7, hu, ⟨o0, o1, o2, o3, o4, o5, o6, o7⟩, ⟨u0, u1, u2, u3, u4, u5, u6, u7⟩, k0, k1, k2, k3, k4, k5, k6, k7⟩ := gram_fields
  obtain ⟨cs, rfl, hsz⟩ := okWide_struct hu hv
  rw [show Try.prog.cellsOf 26 = 8 by kernel_rfl] at hsz
  obtain ⟨fuel, hm⟩ := h
  obtain ⟨xs, k, _, hxs, _, hxl, hf⟩ := DataW.trod_struct hu hm
  match cs, hsz with
  | ⟨[y0, y1, y2, y3, y4, y5, y6, y7]⟩, _ =>
    have t0 := hf 0 f0 rfl
    have t1 := hf 1 f1 rfl
    have t2 := hf 2 f2 rfl
    have t3 := hf 3 f3 rfl
    have t4 := hf 4 f4 rfl
    have t5 := hf 5 f5 rfl
    have t6 := hf 6 f6 rfl
    have t7 := hf 7 f7 rfl
    match xs, hxl with
    | [z0, z1, z2, z3, z4, z5, z6, z7], _ =>
      simp only [Value.cells, o0, o1, o2, o3, o4, o5, o6, o7, k0, k1, k2, k3, k4, k5, k6, k7, List.drop_zero, List.take_succ_cons, List.take_zero, List.drop_succ_cons, List.getElem?_cons_zero, List.getElem?_cons_succ] at t0 t1 t2 t3 t4 t5 t6 t7
      obtain ⟨n3, e3, _⟩ := DataW.trod_int u3 t3
      obtain ⟨n4, e4, _⟩ := DataW.trod_int u4 t4
      obtain ⟨n5, e5, _⟩ := DataW.trod_int u5 t5
      obtain ⟨n6, e6, _⟩ := DataW.trod_int u6 t6
      obtain ⟨n7, e7, _⟩ := DataW.trod_int u7 t7
      rw [u0] at t0
      rw [u1] at t1
      rw [u2] at t2
      obtain ⟨tk, htk, hts⟩ := open_toks t0
      obtain ⟨ru, hru, hrs⟩ := open_strs t1
      obtain ⟨pr, hpr⟩ := open_prods t2
      cases e3; cases e4; cases e5; cases e6; cases e7
      have hD : d = .agg [z0.1, z1.1, z2.1, z3.1, z4.1, z5.1, z6.1, z7.1] := congrArg Prod.fst hxs
      obtain ⟨A, c, hy2, _, _⟩ := hpr.value
      refine ⟨⟨tk, ru, pr, n3, n4, n5, n6, n7⟩, y0, y1, y2, rfl, ⟨htk, hru, hpr⟩, fun s hs => ?_, fun R hR => ?_⟩
      · unfold allNames tokNames at hs
        rw [List.mem_append, List.mem_map] at hs
        rcases hs with ⟨t, ht, rfl⟩ | hs
        · exact hts t ht
        · exact hrs s hs
      · rw [hy2] at t2
        rw [hD, wts_struct hu] at hR
        refine prods_bytes t2 R (fun n hn => hR n ?_)
        rw [← u2] at hn
        simp only [DataW.weightsEach, List.map_cons, List.mem_append]
        exact .inr (.inr (.inl hn))
set_option maxRecDepth 100000 in
theorem open_prod {r : Reach} {b0 : Nat} {v : Value} {d : DataW H} {p : List MemPlace} (hv : Value.okWide Try.prog w r b0 56 v) (h : DataW.Trod enc Try.prog w base spare held 56 v d p) :
    ∃ (x : Prod) (l : Value), v = .agg #[.int .i64 x.left, l] ∧ Rd w (Old w) 4 l x.right.length (x.right.flatMap itCells) := by
  obtain ⟨f0, f1, hu, ⟨o0, o1⟩, ⟨u0, u1⟩, k0, k1⟩ := prod_fields
  obtain ⟨cs, rfl, hsz⟩ := okWide_struct hu hv
  rw [show Try.prog.cellsOf 56 = 2 by kernel_rfl] at hsz
  obtain ⟨fuel, hm⟩ := h
  obtain ⟨xs, k, _, hxs, _, hxl, hf⟩ := DataW.trod_struct hu hm
  match cs, hsz with
  | ⟨[y0, y1]⟩, _ =>
    have t0 := hf 0 f0 rfl
    have t1 := hf 1 f1 rfl
    match xs, hxl with
    | [z0, z1], _ =>
      simp only [Value.cells, o0, o1, k0, k1, List.drop_zero, List.take_succ_cons, List.take_zero, List.drop_succ_cons, List.getElem?_cons_zero, List.getElem?_cons_succ] at t0 t1
      obtain ⟨n0, e0, _⟩ := DataW.trod_int u0 t0
      rw [u1] at t1
      obtain ⟨l, hl⟩ := open_items t1
      cases e0
      exact ⟨⟨n0, l⟩, y1, rfl, hl⟩
end
end Go.Proofs.Ytmmhkjdnejeooaa
