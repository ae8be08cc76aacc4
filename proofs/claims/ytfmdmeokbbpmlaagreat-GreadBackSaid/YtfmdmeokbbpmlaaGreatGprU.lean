/-
  Arguments opened: grammars and tokens with their steps' words in bounds, items, productions; the tables of words that lie in their variables.
-/
import Derived.Test.YtfmdmeokbbpmlaaGreatRxOpen
import Derived.Test.YtfmdmeokbbpmlaaGreatGprB
namespace Go.Proofs.YtfmdmeokbbpmlaaGreat
open Go.RowKit Go.Shelf Go.ChangeShapes Go.WideShapes

section
variable {H : Type} {enc : TypeId × Value → H} {w : World} {base : Nat} {spare : Nat → Bool} {held : Bool}
set_option maxRecDepth 100000 in
theorem open_toksW {fuel : Nat} {v : Value} {x : DataW H × List MemPlace} (h : DataW.trod enc Tryz.prog w base spare held fuel 23 [v] = some x) : ∃ l : List Token, Recs tokR w (Old w) v l ∧ ∀ t ∈ l, t.name.size ≤ maxLen ∧ ∀ x ∈ t.rex, Wordy x := by
  rcases Go.Deep.open_slice (e := 42) (by kernel_rfl) h with ⟨e, _⟩ | ⟨a, len, cap, m, n, D, Pl, e, hb, hl, hm, hmm, _, hx⟩
  · cases e
    exact ⟨[], ⟨[], rfl, Rd.nil _ _ _, fun i x l h => by simp at h⟩, fun t ht => by cases ht⟩
  · cases e
    have hlm : len ≤ m := by rw [hmm]; split <;> omega
    obtain ⟨ps, hps, hq⟩ := list_of (fun i (p : Token × Value) => ((∀ j u, (tokR.cells p.1 p.2)[j]? = some u → w.cell? (a.add (i * 3 + j)) = some u) ∧ Rd w (Old w) 5 p.2 p.1.rex.length (p.1.rex.flatMap rxCells)) ∧ (p.1.name.size ≤ maxLen ∧ ∀ x ∈ p.1.rex, Wordy x)) len (fun i hi => by
      obtain ⟨cs', h1, h2⟩ := hx i (by omega)
      rw [show Tryz.prog.cellsOf 42 = 3 by kernel_rfl] at h1
      obtain ⟨_, hlen, hcell⟩ := World.cells?_some h1
      obtain ⟨f0, f1, f2, hu, ⟨o0, o1, o2⟩, ⟨u0, u1, u2⟩, k0, k1, k2⟩ := tok_fields
      obtain ⟨xs, k, _, _, _, hxl, hf⟩ := DataW.trod_struct hu h2
      match cs', hlen with
      | [y0, y1, y2], _ =>
        have t0 := hf 0 f0 rfl
        have t1 := hf 1 f1 rfl
        have t2 := hf 2 f2 rfl
        match xs, hxl with
        | [z0, z1, z2], _ =>
          simp only [o0, o1, o2, k0, k1, k2, List.drop_zero, List.take_succ_cons, List.take_zero, List.drop_succ_cons, List.getElem?_cons_zero, List.getElem?_cons_succ] at t0 t1 t2
          obtain ⟨s, e0, _, hs⟩ := DataW.trod_string u0 t0
          obtain ⟨cl, e2, _⟩ := DataW.trod_int u2 t2
          rw [u1] at t1
          obtain ⟨rx, hrx, hwx⟩ := open_rxw t1
          cases e0; cases e2
          refine ⟨(⟨s, rx, cl⟩, y1), ⟨fun j u hj => ?_, hrx⟩, hs, hwx⟩
          have hj2 : j < 3 := (List.getElem?_eq_some_iff.1 hj).1
          have := hcell j hj2
          rw [Go.Deep.add_add] at this
          rw [this]
          exact hj)
    refine ⟨ps.map (·.1), recs_of (R := tokR) ps hps hl hm (fun i p hp => (hq i p hp).1), fun t ht => ?_⟩
    obtain ⟨p, hp, rfl⟩ := List.mem_map.1 ht
    obtain ⟨i, hi, e⟩ := List.mem_iff_getElem.1 hp
    exact (hq i p (by rw [List.getElem?_eq_getElem hi, e])).2
set_option maxRecDepth 100000 in
theorem open_gramW {r : Reach} {b0 : Nat} {v : Value} {d : DataW H} {p : List MemPlace} (hv : Value.okWide Tryz.prog w r b0 27 v) (h : DataW.Trod enc Tryz.prog w base spare held 27 v d p) :
    ∃ (g : Gram) (a b c : Value), v = .agg (gramCells a b c g) ∧ GramIs w (Old w) a b c g ∧ (∀ s ∈ allNames g, s.size ≤ maxLen) ∧ ∀ t ∈ g.toks, ∀ x ∈ t.rex, Wordy x := by
  obtain ⟨f0, f1, f2, f3, f4, f5, f6, f7, hu, ⟨o0, o1, o2, o3, o4, o5, o6, o7⟩, ⟨u0, u1, u2, u3, u4, u5, u6, u7⟩, k0, k1, k2, k3, k4, k5, k6, k7⟩ := gram_fields
  obtain ⟨cs, rfl, hsz⟩ := okWide_struct hu hv
  rw [show Tryz.prog.cellsOf 27 = 8 by kernel_rfl] at hsz
  obtain ⟨fuel, hm⟩ := h
  obtain ⟨xs, k, _, hxs, _, hxl, hf⟩ := DataW.trod_struct hu hm
  match cs, hsz with
  | ⟨[y0, y1, y2, y3, y4, y5, y6, y7]⟩, _ =>
    have t0 := hf 0 f0 rfl
    have t1 := hf 1 f1 rfl
    have t2 := hf 2 f2 rfl
    have t3 := hf 3 f3 rfl
    have t4 := hf 4 f4 rfl
    have t5 := hf 5 f5 rfl
    have t6 := hf 6 f6 rfl
    have t7 := hf 7 f7 rfl
    match xs, hxl with
    | [z0, z1, z2, z3, z4, z5, z6, z7], _ =>
      simp only [Value.cells, o0, o1, o2, o3, o4, o5, o6, o7, k0, k1, k2, k3, k4, k5, k6, k7, List.drop_zero, List.take_succ_cons, List.take_zero, List.drop_succ_cons, List.getElem?_cons_zero, List.getElem?_cons_succ] at t0 t1 t2 t3 t4 t5 t6 t7
      obtain ⟨n3, e3, _⟩ := DataW.trod_int u3 t3
      obtain ⟨n4, e4, _⟩ := DataW.trod_int u4 t4
      obtain ⟨n5, e5, _⟩ := DataW.trod_int u5 t5
      obtain ⟨n6, e6, _⟩ := DataW.trod_int u6 t6
      obtain ⟨n7, e7, _⟩ := DataW.trod_int u7 t7
      rw [u0] at t0
      rw [u1] at t1
      rw [u2] at t2
      obtain ⟨tk, htk, hts⟩ := open_toksW t0
      obtain ⟨ru, hru, hrs⟩ := open_strs t1
      obtain ⟨pr, hpr⟩ := open_prods t2
      cases e3; cases e4; cases e5; cases e6; cases e7
      refine ⟨⟨tk, ru, pr, n3, n4, n5, n6, n7⟩, y0, y1, y2, rfl, ⟨htk, hru, hpr⟩, fun s hs => ?_, fun t ht => (hts t ht).2⟩
      unfold allNames tokNames at hs
      rw [List.mem_append, List.mem_map] at hs
      rcases hs with ⟨t, ht, rfl⟩ | hs
      · exact (hts t ht).1
      · exact hrs s hs
set_option maxRecDepth 100000 in
theorem open_prodW {r : Reach} {b0 : Nat} {v : Value} {d : DataW H} {p : List MemPlace} (hv : Value.okWide Tryz.prog w r b0 50 v) (h : DataW.Trod enc Tryz.prog w base spare held 50 v d p) :
    ∃ (x : Prod) (l : Value), v = .agg #[.int .i64 x.left, l] ∧ Rd w (Old w) 4 l x.right.length (x.right.flatMap itCells) := by
  obtain ⟨f0, f1, hu, ⟨o0, o1⟩, ⟨u0, u1⟩, k0, k1⟩ := prod_fields
  obtain ⟨cs, rfl, hsz⟩ := okWide_struct hu hv
  rw [show Tryz.prog.cellsOf 50 = 2 by kernel_rfl] at hsz
  obtain ⟨fuel, hm⟩ := h
  obtain ⟨xs, k, _, hxs, _, hxl, hf⟩ := DataW.trod_struct hu hm
  match cs, hsz with
  | ⟨[y0, y1]⟩, _ =>
    have t0 := hf 0 f0 rfl
    have t1 := hf 1 f1 rfl
    match xs, hxl with
    | [z0, z1], _ =>
      simp only [Value.cells, o0, o1, k0, k1, List.drop_zero, List.take_succ_cons, List.take_zero, List.drop_succ_cons, List.getElem?_cons_zero, List.getElem?_cons_succ] at t0 t1
      obtain ⟨n0, e0, _⟩ := DataW.trod_int u0 t0
      rw [u1] at t1
      obtain ⟨l, hl⟩ := open_items t1
      cases e0
      exact ⟨⟨n0, l⟩, y1, rfl, hl⟩
set_option maxRecDepth 100000 in
theorem open_itemW {r : Go.Reach} {b0 : Nat} {v : Value} {d : DataW H} {p : List MemPlace} (hv : Value.okWide Tryz.prog w r b0 47 v) (h : DataW.Trod enc Tryz.prog w base spare held 47 v d p) : ∃ y : Item, v = .agg (itV y) := by
  obtain ⟨f0, f1, f2, f3, hu, ⟨o0, o1, o2, o3⟩, ⟨u0, u1, u2, u3⟩, k0, k1, k2, k3⟩ := item_fields
  obtain ⟨cs, rfl, hsz⟩ := okWide_struct hu hv
  rw [show Tryz.prog.cellsOf 47 = 4 by kernel_rfl] at hsz
  obtain ⟨fuel, hm⟩ := h
  obtain ⟨xs, k, _, _, _, hxl, hf⟩ := DataW.trod_struct hu hm
  match cs, hsz with
  | ⟨[y0, y1, y2, y3]⟩, _ =>
    have t0 := hf 0 f0 rfl
    have t1 := hf 1 f1 rfl
    have t2 := hf 2 f2 rfl
    have t3 := hf 3 f3 rfl
    match xs, hxl with
    | [z0, z1, z2, z3], _ =>
      simp only [Value.cells, o0, o1, o2, o3, k0, k1, k2, k3, List.drop_zero, List.take_succ_cons, List.take_zero, List.drop_succ_cons, List.getElem?_cons_zero, List.getElem?_cons_succ] at t0 t1 t2 t3
      obtain ⟨b, e0, _⟩ := DataW.trod_bool u0 t0
      obtain ⟨i1, e1, _⟩ := DataW.trod_int u1 t1
      obtain ⟨i2, e2, _⟩ := DataW.trod_int u2 t2
      obtain ⟨i3, e3, _⟩ := DataW.trod_int u3 t3
      cases e0; cases e1; cases e2; cases e3
      exact ⟨⟨b, i1, i2, i3⟩, rfl⟩
set_option maxRecDepth 100000 in
theorem open_tokW {r : Go.Reach} {b0 : Nat} {v : Value} {d : DataW H} {p : List MemPlace} (hv : Value.okWide Tryz.prog w r b0 42 v) (h : DataW.Trod enc Tryz.prog w base spare held 42 v d p) :
    ∃ (x : Token) (l : Value), v = .agg #[.string x.name, l, .int .i64 x.cls] ∧ Rd w (Old w) 5 l x.rex.length (x.rex.flatMap rxCells) ∧ x.name.size ≤ maxLen ∧ ∀ y ∈ x.rex, Wordy y := by
  obtain ⟨f0, f1, f2, hu, ⟨o0, o1, o2⟩, ⟨u0, u1, u2⟩, k0, k1, k2⟩ := tok_fields
  obtain ⟨cs, rfl, hsz⟩ := okWide_struct hu hv
  rw [show Tryz.prog.cellsOf 42 = 3 by kernel_rfl] at hsz
  obtain ⟨fuel, hm⟩ := h
  obtain ⟨xs, k, _, _, _, hxl, hf⟩ := DataW.trod_struct hu hm
  match cs, hsz with
  | ⟨[y0, y1, y2]⟩, _ =>
    have t0 := hf 0 f0 rfl
    have t1 := hf 1 f1 rfl
    have t2 := hf 2 f2 rfl
    match xs, hxl with
    | [z0, z1, z2], _ =>
      simp only [Value.cells, o0, o1, o2, k0, k1, k2, List.drop_zero, List.take_succ_cons, List.take_zero, List.drop_succ_cons, List.getElem?_cons_zero, List.getElem?_cons_succ] at t0 t1 t2
      obtain ⟨s, e0, _, hs⟩ := DataW.trod_string u0 t0
      obtain ⟨cl, e2, _⟩ := DataW.trod_int u2 t2
      rw [u1] at t1
      obtain ⟨rx, hrx, hwx⟩ := open_rxw t1
      cases e0; cases e2
      exact ⟨⟨s, rx, cl⟩, y1, rfl, hrx, hs, hwx⟩
end
/-- An array of texts that reads as these holds them, cell for cell. -/
theorem cells_of_strs {H : Type} {enc : TypeId × Value → H} {P : Program} {w : World} {base : Nat} {sp : Nat → Bool} {held : Bool} {fuel : Nat} {t e : TypeId} {n : Nat} {cs : List Value} {zs : List (List UInt8)} {p : List MemPlace}
    (ht : P.underlying t = some (.array n e)) (he : P.underlying e = some .string) (hce : P.cellsOf e = 1) (hct : P.cellsOf t = n)
    (h : DataW.trod enc P w base sp held fuel t cs = some (.agg (zs.map fun z => .lit (.string z)), p)) : cs = zs.map fun z => Value.string ⟨z.toArray⟩ := by
  cases fuel with
  | zero => simp [DataW.trod] at h
  | succ fuel =>
    simp only [DataW.trod, ht, hce, hct, Nat.mul_one] at h
    split at h
    · rename_i hl
      obtain ⟨xs, hm, hx⟩ := Option.map_eq_some_iff.1 h
      have hxs : xs.map (·.1) = zs.map fun z => (DataW.lit (.string z) : DataW H) := by
        have := congrArg Prod.fst hx
        simpa using this
      have hxl : xs.length = n := by simpa using Lib.mapM_length hm
      have hzl : zs.length = n := by
        have := congrArg List.length hxs
        simp at this
        omega
      apply List.ext_getElem?
      intro i
      by_cases hi : i < n
      · obtain ⟨b, hb, hf⟩ := Lib.mapM_at hm i i (by simp [hi])
        obtain ⟨s, hc, rfl, _⟩ := DataW.trod_string he hf
        have h1 : cs[i]? = some (.string s) := by
          have := congrArg (·[0]?) hc
          simpa [List.getElem?_take, List.getElem?_drop] using this
        have h2 : (xs.map (·.1))[i]? = some (DataW.lit (.string s.data.toList) : DataW H) := by simp [hb]
        rw [hxs] at h2
        simp only [List.getElem?_map, Option.map_eq_some_iff, DataW.lit.injEq, Lit.string.injEq] at h2
        obtain ⟨z', hz', rfl⟩ := h2
        simp [h1, hz']
      · rw [List.getElem?_eq_none (by omega), List.getElem?_eq_none (by simp; omega)]
    · cases h
theorem strs_of_trod {P : Program} {W : World} {name : String} {zs : List (List UInt8)} {g fuel : Nat} {t e : TypeId} {n : Nat} {cs : Array Value} {p : List MemPlace}
    (hg : P.globalNamed name = some g) (ht : P.underlying t = some (.array n e)) (he : P.underlying e = some .string) (hce : P.cellsOf e = 1) (hct : P.cellsOf t = n)
    (hv : W.var? P name = some cs) (hd : DataW.trod (fun _ => ()) P W 0 (fun _ => true) false fuel t cs.toList = some (.agg (zs.map fun z => .lit (.string z)), p)) (j : Nat) (z : List UInt8) (hj : zs[j]? = some z) : W.cell? ⟨g, j, none⟩ = some (.string ⟨z.toArray⟩) := by
  have h1 := cells_of_strs ht he hce hct hd
  rw [World.var?_cell hg hv j, ← Array.getElem?_toList, h1, List.getElem?_map, hj]
  rfl
end Go.Proofs.YtfmdmeokbbpmlaaGreat
