/-
  Arguments of steps, items, tokens, productions and grammars, opened.
-/
import Derived.Test.YtaagkbgbghleiaaGramPlain
import Derived.Test.YtaagkbgbghleiaaStrsOpen
import Derived.Laws.IdiomArrays
namespace Go.Proofs.Ytaagkbgbghleiaa
open Go.RowKit Go.Shelf Go.ChangeShapes Go.WideShapes

set_option maxRecDepth 100000 in
theorem rx_fields : ∃ f0 f1 : Field, Try.prog.underlying 103 = some (.struct #[f0, f1]) ∧ f0.offset = 0 ∧ f1.offset = 1 ∧ Try.prog.underlying f0.type = some (.int .i64) ∧ Try.prog.underlying f1.type = some (.array 4 99) ∧ Try.prog.cellsOf f0.type = 1 ∧ Try.prog.cellsOf f1.type = 4 :=
  ⟨_, _, rfl, rfl, rfl, rfl, rfl, by kernel_rfl, by kernel_rfl⟩
set_option maxRecDepth 100000 in
theorem item_fields : ∃ f0 f1 f2 f3 : Field, Try.prog.underlying 66 = some (.struct #[f0, f1, f2, f3]) ∧ (f0.offset = 0 ∧ f1.offset = 1 ∧ f2.offset = 2 ∧ f3.offset = 3) ∧
    (Try.prog.underlying f0.type = some .bool ∧ Try.prog.underlying f1.type = some (.int .i64) ∧ Try.prog.underlying f2.type = some (.int .i64) ∧ Try.prog.underlying f3.type = some (.int .i64)) ∧
    Try.prog.cellsOf f0.type = 1 ∧ Try.prog.cellsOf f1.type = 1 ∧ Try.prog.cellsOf f2.type = 1 ∧ Try.prog.cellsOf f3.type = 1 :=
  ⟨_, _, _, _, rfl, ⟨rfl, rfl, rfl, rfl⟩, ⟨rfl, rfl, rfl, rfl⟩, by kernel_rfl, by kernel_rfl, by kernel_rfl, by kernel_rfl⟩
set_option maxRecDepth 100000 in
theorem tok_fields : ∃ f0 f1 f2 : Field, Try.prog.underlying 47 = some (.struct #[f0, f1, f2]) ∧ (f0.offset = 0 ∧ f1.offset = 1 ∧ f2.offset = 2) ∧
    (Try.prog.underlying f0.type = some .string ∧ f1.type = 44 ∧ Try.prog.underlying f2.type = some (.int .i64)) ∧
    Try.prog.cellsOf f0.type = 1 ∧ Try.prog.cellsOf f1.type = 1 ∧ Try.prog.cellsOf f2.type = 1 :=
  ⟨_, _, _, rfl, ⟨rfl, rfl, rfl⟩, ⟨rfl, rfl, rfl⟩, by kernel_rfl, by kernel_rfl, by kernel_rfl⟩
set_option maxRecDepth 100000 in
theorem prod_fields : ∃ f0 f1 : Field, Try.prog.underlying 56 = some (.struct #[f0, f1]) ∧ (f0.offset = 0 ∧ f1.offset = 1) ∧
    (Try.prog.underlying f0.type = some (.int .i64) ∧ f1.type = 54) ∧ Try.prog.cellsOf f0.type = 1 ∧ Try.prog.cellsOf f1.type = 1 :=
  ⟨_, _, rfl, ⟨rfl, rfl⟩, ⟨rfl, rfl⟩, by kernel_rfl, by kernel_rfl⟩
set_option maxRecDepth 100000 in
theorem gram_fields : ∃ f0 f1 f2 f3 f4 f5 f6 f7 : Field, Try.prog.underlying 36 = some (.struct #[f0, f1, f2, f3, f4, f5, f6, f7]) ∧ (f0.offset = 0 ∧ f1.offset = 1 ∧ f2.offset = 2 ∧ f3.offset = 3 ∧ f4.offset = 4 ∧ f5.offset = 5 ∧ f6.offset = 6 ∧ f7.offset = 7) ∧
    (f0.type = 33 ∧ f1.type = 26 ∧ f2.type = 34 ∧ Try.prog.underlying f3.type = some (.int .i64) ∧ Try.prog.underlying f4.type = some (.int .i64) ∧ Try.prog.underlying f5.type = some (.int .i64) ∧ Try.prog.underlying f6.type = some (.int .i64) ∧ Try.prog.underlying f7.type = some (.int .i64)) ∧
    (Try.prog.cellsOf f0.type = 1 ∧ Try.prog.cellsOf f1.type = 1 ∧ Try.prog.cellsOf f2.type = 1 ∧ Try.prog.cellsOf f3.type = 1 ∧ Try.prog.cellsOf f4.type = 1 ∧ Try.prog.cellsOf f5.type = 1 ∧ Try.prog.cellsOf f6.type = 1 ∧ Try.prog.cellsOf f7.type = 1) :=
  ⟨_, _, _, _, _, _, _, _, rfl, ⟨rfl, rfl, rfl, rfl, rfl, rfl, rfl, rfl⟩, ⟨rfl, rfl, rfl, rfl, rfl, rfl, rfl, rfl⟩, by kernel_rfl, by kernel_rfl, by kernel_rfl, by kernel_rfl, by kernel_rfl, by kernel_rfl, by kernel_rfl, by kernel_rfl⟩

section
variable {H : Type} {enc : TypeId × Value → H} {w : World} {base : Nat} {spare : Nat → Bool} {held : Bool}
set_option maxRecDepth 100000 in
theorem open_rx {fuel : Nat} {v : Value} {x : DataW H × List MemPlace} (h : DataW.trod enc Try.prog w base spare held fuel 44 [v] = some x) : ∃ l : List Rx, Rd w (Old w) 5 v l.length (l.flatMap rxCells) := by
  rcases Go.Deep.open_slice (e := 103) (by kernel_rfl) h with ⟨e, _⟩ | ⟨a, len, cap, m, n, D, Pl, e, hb, hl, hm, hmm, _, hx⟩
  · cases e
    exact ⟨[], Rd.nil _ _ _⟩
  · cases e
    have hlm : len ≤ m := by rw [hmm]; split <;> omega
    obtain ⟨ps, hps, hq⟩ := list_of (fun i (p : Rx) => ∀ j u, (rxCells p)[j]? = some u → w.cell? (a.add (i * 5 + j)) = some u) len (fun i hi => by
      obtain ⟨cs', h1, h2⟩ := hx i (by omega)
      rw [show Try.prog.cellsOf 103 = 5 by kernel_rfl] at h1
      obtain ⟨_, hlen, hcell⟩ := World.cells?_some h1
      obtain ⟨f0, f1, hu, o0, o1, u0, u1, k0, k1⟩ := rx_fields
      obtain ⟨xs, k, _, _, _, hxl, hf⟩ := DataW.trod_struct hu h2
      match cs', hlen with
      | [y0, y1, y2, y3, y4], _ =>
        have t0 := hf 0 f0 rfl
        have t1 := hf 1 f1 rfl
        match xs, hxl with
        | [z0, z1], _ =>
          simp only [o0, o1, k0, k1, List.drop_zero, List.take_succ_cons, List.take_zero, List.drop_succ_cons, List.getElem?_cons_zero, List.getElem?_cons_succ] at t0 t1
          obtain ⟨kd, e0, _⟩ := DataW.trod_int u0 t0
          obtain ⟨q0, q1, q2, q3, n', _, g0, g1, g2, g3⟩ := trod_array4 u1 (by kernel_rfl) t1
          have hu64 : Try.prog.underlying 99 = some (.int .u64) := by kernel_rfl
          obtain ⟨s0, e1, _⟩ := DataW.trod_int hu64 g0
          obtain ⟨s1, e2, _⟩ := DataW.trod_int hu64 g1
          obtain ⟨s2, e3, _⟩ := DataW.trod_int hu64 g2
          obtain ⟨s3, e4, _⟩ := DataW.trod_int hu64 g3
          cases e0; cases e1; cases e2; cases e3; cases e4
          refine ⟨⟨kd, s0, s1, s2, s3⟩, fun j u hj => ?_⟩
          have hj2 : j < 5 := (List.getElem?_eq_some_iff.1 hj).1
          have := hcell j hj2
          rw [Go.Deep.add_add] at this
          rw [this]
          exact hj)
    exact ⟨ps, by
      have := rd_of_flat (w := w) (a := a) (c := cap) rxCells (by decide) (fun _ => rfl) ps hps hl hm hq
      rw [hps]
      exact this⟩
set_option maxRecDepth 100000 in
theorem open_items {fuel : Nat} {v : Value} {x : DataW H × List MemPlace} (h : DataW.trod enc Try.prog w base spare held fuel 54 [v] = some x) : ∃ l : List Item, Rd w (Old w) 4 v l.length (l.flatMap itCells) := by
  rcases Go.Deep.open_slice (e := 66) (by kernel_rfl) h with ⟨e, _⟩ | ⟨a, len, cap, m, n, D, Pl, e, hb, hl, hm, hmm, _, hx⟩
  · cases e
    exact ⟨[], Rd.nil _ _ _⟩
  · cases e
    have hlm : len ≤ m := by rw [hmm]; split <;> omega
    obtain ⟨ps, hps, hq⟩ := list_of (fun i (p : Item) => ∀ j u, (itCells p)[j]? = some u → w.cell? (a.add (i * 4 + j)) = some u) len (fun i hi => by
      obtain ⟨cs', h1, h2⟩ := hx i (by omega)
      rw [show Try.prog.cellsOf 66 = 4 by kernel_rfl] at h1
      obtain ⟨_, hlen, hcell⟩ := World.cells?_some h1
      obtain ⟨f0, f1, f2, f3, hu, ⟨o0, o1, o2, o3⟩, ⟨u0, u1, u2, u3⟩, k0, k1, k2, k3⟩ := item_fields
      obtain ⟨xs, k, _, _, _, hxl, hf⟩ := DataW.trod_struct hu h2
      match cs', hlen with
      | [y0, y1, y2, y3], _ =>
        have t0 := hf 0 f0 rfl
        have t1 := hf 1 f1 rfl
        have t2 := hf 2 f2 rfl
        have t3 := hf 3 f3 rfl
        match xs, hxl with
        | [z0, z1, z2, z3], _ =>
          simp only [o0, o1, o2, o3, k0, k1, k2, k3, List.drop_zero, List.take_succ_cons, List.take_zero, List.drop_succ_cons, List.getElem?_cons_zero, List.getElem?_cons_succ] at t0 t1 t2 t3
          obtain ⟨r, e0, _⟩ := DataW.trod_bool u0 t0
          obtain ⟨n', e1, _⟩ := DataW.trod_int u1 t1
          obtain ⟨gp, e2, _⟩ := DataW.trod_int u2 t2
          obtain ⟨i_, e3, _⟩ := DataW.trod_int u3 t3
          cases e0; cases e1; cases e2; cases e3
          refine ⟨⟨r, n', gp, i_⟩, fun j u hj => ?_⟩
          have hj2 : j < 4 := (List.getElem?_eq_some_iff.1 hj).1
          have := hcell j hj2
          rw [Go.Deep.add_add] at this
          rw [this]
          exact hj)
    exact ⟨ps, by
      have := rd_of_flat (w := w) (a := a) (c := cap) itCells (by decide) (fun _ => rfl) ps hps hl hm hq
      rw [hps]
      exact this⟩
theorem recs_of {α : Type} {R : Rec α} {a : Addr} {n c : Nat} (ps : List (α × Value)) (hl : ps.length = n) (hc1 : n ≤ c) (hc2 : c ≤ maxLen)
    (h : ∀ i p, ps[i]? = some p → (∀ j u, (R.cells p.1 p.2)[j]? = some u → w.cell? (a.add (i * R.k + j)) = some u) ∧ Rd w (Old w) R.kin p.2 (R.m p.1) (R.inner p.1)) : Recs R w (Old w) (.slice (some a) n c) (ps.map (·.1)) := by
  have hz : (ps.map (·.1)).zip (ps.map (·.2)) = ps := by
    rw [List.zip_map', List.map_id'' (fun _ => rfl)]
  have hlen1 : (ps.map (·.1)).length = n := by simp [hl]
  refine ⟨ps.map (·.2), by simp, ?_, fun i x l hx hl => ?_⟩
  · unfold Rec.all
    rw [hz, hlen1]
    exact rd_of_flat (w := w) (a := a) (c := c) (fun x : α × Value => R.cells x.1 x.2) R.pos (fun x => R.len x.1 x.2) ps hl hc1 hc2 (fun i x hx => (h i x hx).1)
  · rw [List.getElem?_map, Option.map_eq_some_iff] at hx hl
    obtain ⟨p, hp, rfl⟩ := hx
    obtain ⟨p', hp', rfl⟩ := hl
    rw [hp] at hp'; cases hp'
    exact (h i p hp).2
set_option maxRecDepth 100000 in
theorem open_toks {fuel : Nat} {v : Value} {x : DataW H × List MemPlace} (h : DataW.trod enc Try.prog w base spare held fuel 33 [v] = some x) : ∃ l : List Token, Recs tokR w (Old w) v l ∧ ∀ t ∈ l, t.name.size ≤ maxLen := by
  rcases Go.Deep.open_slice (e := 47) (by kernel_rfl) h with ⟨e, _⟩ | ⟨a, len, cap, m, n, D, Pl, e, hb, hl, hm, hmm, _, hx⟩
  · cases e
    exact ⟨[], ⟨[], rfl, Rd.nil _ _ _, fun i x l h => by simp at h⟩, fun t ht => by cases ht⟩
  · cases e
    have hlm : len ≤ m := by rw [hmm]; split <;> omega
    obtain ⟨ps, hps, hq⟩ := list_of (fun i (p : Token × Value) => ((∀ j u, (tokR.cells p.1 p.2)[j]? = some u → w.cell? (a.add (i * 3 + j)) = some u) ∧ Rd w (Old w) 5 p.2 p.1.rex.length (p.1.rex.flatMap rxCells)) ∧ p.1.name.size ≤ maxLen) len (fun i hi => by
      obtain ⟨cs', h1, h2⟩ := hx i (by omega)
      rw [show Try.prog.cellsOf 47 = 3 by kernel_rfl] at h1
      obtain ⟨_, hlen, hcell⟩ := World.cells?_some h1
      obtain ⟨f0, f1, f2, hu, ⟨o0, o1, o2⟩, ⟨u0, u1, u2⟩, k0, k1, k2⟩ := tok_fields
      obtain ⟨xs, k, _, _, _, hxl, hf⟩ := DataW.trod_struct hu h2
      match cs', hlen with
      | [y0, y1, y2], _ =>
        have t0 := hf 0 f0 rfl
        have t1 := hf 1 f1 rfl
        have t2 := hf 2 f2 rfl
        match xs, hxl with
        | [z0, z1, z2], _ =>
          simp only [o0, o1, o2, k0, k1, k2, List.drop_zero, List.take_succ_cons, List.take_zero, List.drop_succ_cons, List.getElem?_cons_zero, List.getElem?_cons_succ] at t0 t1 t2
          obtain ⟨s, e0, _, hs⟩ := DataW.trod_string u0 t0
          obtain ⟨cl, e2, _⟩ := DataW.trod_int u2 t2
          rw [u1] at t1
          obtain ⟨rx, hrx⟩ := open_rx t1
          cases e0; cases e2
          refine ⟨(⟨s, rx, cl⟩, y1), ⟨fun j u hj => ?_, hrx⟩, hs⟩
          have hj2 : j < 3 := (List.getElem?_eq_some_iff.1 hj).1
          have := hcell j hj2
          rw [Go.Deep.add_add] at this
          rw [this]
          exact hj)
    refine ⟨ps.map (·.1), recs_of (R := tokR) ps hps hl hm (fun i p hp => (hq i p hp).1), fun t ht => ?_⟩
    obtain ⟨p, hp, rfl⟩ := List.mem_map.1 ht
    obtain ⟨i, hi, e⟩ := List.mem_iff_getElem.1 hp
    exact (hq i p (by rw [List.getElem?_eq_getElem hi, e])).2
set_option maxRecDepth 100000 in
theorem open_prods {fuel : Nat} {v : Value} {x : DataW H × List MemPlace} (h : DataW.trod enc Try.prog w base spare held fuel 34 [v] = some x) : ∃ l : List Prod, Recs prodR w (Old w) v l := by
  rcases Go.Deep.open_slice (e := 56) (by kernel_rfl) h with ⟨e, _⟩ | ⟨a, len, cap, m, n, D, Pl, e, hb, hl, hm, hmm, _, hx⟩
  · cases e
    exact ⟨[], ⟨[], rfl, Rd.nil _ _ _, fun i x l h => by simp at h⟩⟩
  · cases e
    have hlm : len ≤ m := by rw [hmm]; split <;> omega
    obtain ⟨ps, hps, hq⟩ := list_of (fun i (p : Prod × Value) => (∀ j u, (prodR.cells p.1 p.2)[j]? = some u → w.cell? (a.add (i * 2 + j)) = some u) ∧ Rd w (Old w) 4 p.2 p.1.right.length (p.1.right.flatMap itCells)) len (fun i hi => by
      obtain ⟨cs', h1, h2⟩ := hx i (by omega)
      rw [show Try.prog.cellsOf 56 = 2 by kernel_rfl] at h1
      obtain ⟨_, hlen, hcell⟩ := World.cells?_some h1
      obtain ⟨f0, f1, hu, ⟨o0, o1⟩, ⟨u0, u1⟩, k0, k1⟩ := prod_fields
      obtain ⟨xs, k, _, _, _, hxl, hf⟩ := DataW.trod_struct hu h2
      match cs', hlen with
      | [y0, y1], _ =>
        have t0 := hf 0 f0 rfl
        have t1 := hf 1 f1 rfl
        match xs, hxl with
        | [z0, z1], _ =>
          simp only [o0, o1, k0, k1, List.drop_zero, List.take_succ_cons, List.take_zero, List.drop_succ_cons, List.getElem?_cons_zero, List.getElem?_cons_succ] at t0 t1
          obtain ⟨le, e0, _⟩ := DataW.trod_int u0 t0
          rw [u1] at t1
          obtain ⟨ri, hri⟩ := open_items t1
          cases e0
          refine ⟨(⟨le, ri⟩, y1), fun j u hj => ?_, hri⟩
          have hj2 : j < 2 := (List.getElem?_eq_some_iff.1 hj).1
          have := hcell j hj2
          rw [Go.Deep.add_add] at this
          rw [this]
          exact hj)
    exact ⟨ps.map (·.1), recs_of (R := prodR) ps hps hl hm hq⟩
set_option maxRecDepth 100000 in
theorem open_gram {r : Reach} {b0 : Nat} {v : Value} {d : DataW H} {p : List MemPlace} (hv : Value.okWide Try.prog w r b0 36 v) (h : DataW.Trod enc Try.prog w base spare held 36 v d p) :
    ∃ (g : Gram) (a b c : Value), v = .agg (gramCells a b c g) ∧ GramIs w (Old w) a b c g ∧ ∀ s ∈ allNames g, s.size ≤ maxLen := by
  obtain ⟨f0, f1, f2, f3, f4, f5, f6, f7, hu, ⟨o0, o1, o2, o3, o4, o5, o6, o7⟩, ⟨u0, u1, u2, u3, u4, u5, u6, u7⟩, k0, k1, k2, k3, k4, k5, k6, k7⟩ := gram_fields
  obtain ⟨cs, rfl, hsz⟩ := okWide_struct hu hv
  rw [show Try.prog.cellsOf 36 = 8 by kernel_rfl] at hsz
  obtain ⟨fuel, hm⟩ := h
  obtain ⟨xs, k, _, hxs, _, hxl, hf⟩ := DataW.trod_struct hu hm
  match cs, hsz with
  | ⟨[y0, y1, y2, y3, y4, y5, y6, y7]⟩, _ =>
    have t0 := hf 0 f0 rfl
    have t1 := hf 1 f1 rfl
    have t2 := hf 2 f2 rfl
    have t3 := hf 3 f3 rfl
    have t4 := hf 4 f4 rfl
    have t5 := hf 5 f5 rfl
    have t6 := hf 6 f6 rfl
    have t7 := hf 7 f7 rfl
    match xs, hxl with
    | [z0, z1, z2, z3, z4, z5, z6, z7], _ =>
      simp only [Value.cells, o0, o1, o2, o3, o4, o5, o6, o7, k0, k1, k2, k3, k4, k5, k6, k7, List.drop_zero, List.take_succ_cons, List.take_zero, List.drop_succ_cons, List.getElem?_cons_zero, List.getElem?_cons_succ] at t0 t1 t2 t3 t4 t5 t6 t7
      obtain ⟨n3, e3, _⟩ := DataW.trod_int u3 t3
      obtain ⟨n4, e4, _⟩ := DataW.trod_int u4 t4
      obtain ⟨n5, e5, _⟩ := DataW.trod_int u5 t5
      obtain ⟨n6, e6, _⟩ := DataW.trod_int u6 t6
      obtain ⟨n7, e7, _⟩ := DataW.trod_int u7 t7
      rw [u0] at t0
      rw [u1] at t1
      rw [u2] at t2
      obtain ⟨tk, htk, hts⟩ := open_toks t0
      obtain ⟨ru, hru, hrs⟩ := open_strs t1
      obtain ⟨pr, hpr⟩ := open_prods t2
      cases e3; cases e4; cases e5; cases e6; cases e7
      refine ⟨⟨tk, ru, pr, n3, n4, n5, n6, n7⟩, y0, y1, y2, rfl, ⟨htk, hru, hpr⟩, fun s hs => ?_⟩
      unfold allNames tokNames at hs
      rw [List.mem_append, List.mem_map] at hs
      rcases hs with ⟨t, ht, rfl⟩ | hs
      · exact hts t ht
      · exact hrs s hs
end
end Go.Proofs.Ytaagkbgbghleiaa
