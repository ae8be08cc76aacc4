/-
  Arguments opened: a grammar, with how much its tokens and its productions hold.
-/
import Derived.Test.YtmmhkjdnejeooaaGramOpen2

namespace Go.Proofs.Ytmmhkjdnejeooaa
open Go.RowKit Go.Shelf Go.ChangeShapes Go.WideShapes

theorem wts_mem {H : Type} {P : Program} {e : TypeId} {l : List (DataW H)} {d : DataW H} (h : d ∈ l) {n : Nat} (hn : n ∈ d.weights P e) : n ∈ DataW.weightsAll P e l := by
  induction l with
  | nil => cases h
  | cons y l ih =>
    simp only [DataW.weightsAll, List.mem_append]
    rw [List.mem_cons] at h
    rcases h with rfl | h
    · exact .inl hn
    · exact .inr (ih h)

section
variable {H : Type} {enc : TypeId × Value → H} {w : World} {base : Nat} {spare : Nat → Bool} {held : Bool}
set_option maxRecDepth 100000 in
theorem rex_bytes {fuel : Nat} {A : Option Addr} {len cap : Nat} {x : DataW H × List MemPlace} (h : DataW.trod enc Try.prog w base spare held fuel 66 [.slice A len cap] = some x) : ∀ R, (∀ n ∈ x.1.weights Try.prog 66, n ≤ R) → len * 40 ≤ R := by
  intro R hR
  rcases Go.Deep.open_slice (e := 110) (by kernel_rfl) h with ⟨e, _⟩ | ⟨a, len', cap', m, n, D, Pl, e, hb, hl, hm, hmm, hxd, hx⟩
  · simp only [List.cons.injEq, Value.slice.injEq, and_true] at e
    omega
  · simp only [List.cons.injEq, Value.slice.injEq, and_true] at e
    rw [hxd, wts_slice (e := 110) (by kernel_rfl)] at hR
    have := hR _ List.mem_cons_self
    rw [show Try.prog.bytesOf 110 = 40 by kernel_rfl] at this
    simp only [List.length_map, List.length_range] at this
    obtain ⟨_, e1, _⟩ := e
    subst e1
    refine Nat.le_trans (Nat.mul_le_mul_right 40 ?_) this
    omega
set_option maxRecDepth 100000 in
theorem right_bytes {fuel : Nat} {A : Option Addr} {len cap : Nat} {x : DataW H × List MemPlace} (h : DataW.trod enc Try.prog w base spare held fuel 54 [.slice A len cap] = some x) : ∀ R, (∀ n ∈ x.1.weights Try.prog 54, n ≤ R) → len * 32 ≤ R := by
  intro R hR
  rcases Go.Deep.open_slice (e := 30) (by kernel_rfl) h with ⟨e, _⟩ | ⟨a, len', cap', m, n, D, Pl, e, hb, hl, hm, hmm, hxd, hx⟩
  · simp only [List.cons.injEq, Value.slice.injEq, and_true] at e
    omega
  · simp only [List.cons.injEq, Value.slice.injEq, and_true] at e
    rw [hxd, wts_slice (e := 30) (by kernel_rfl)] at hR
    have := hR _ List.mem_cons_self
    rw [show Try.prog.bytesOf 30 = 32 by kernel_rfl] at this
    simp only [List.length_map, List.length_range] at this
    obtain ⟨_, e1, _⟩ := e
    subst e1
    refine Nat.le_trans (Nat.mul_le_mul_right 32 ?_) this
    omega

set_option maxRecDepth 100000 in
theorem open_toks_c {fuel : Nat} {v : Value} {x : DataW H × List MemPlace} (h : DataW.trod enc Try.prog w base spare held fuel 22 [v] = some x) : ∃ l : List Token, Recs tokR w (Old w) v l ∧ (∀ t ∈ l, t.name.size ≤ maxLen) ∧ ∀ R, (∀ n ∈ x.1.weights Try.prog 22, n ≤ R) → ∀ t ∈ l, t.rex.length * 40 ≤ R := by
  rcases Go.Deep.open_slice (e := 69) (by kernel_rfl) h with ⟨e, _⟩ | ⟨a, len, cap, m, n, D, Pl, e, hb, hl, hm, hmm, hxd, hx⟩
  · cases e
    exact ⟨[], ⟨[], rfl, Rd.nil _ _ _, fun i x l h => by simp at h⟩, (fun t ht => by cases ht), fun R _ t ht => by cases ht⟩
  · cases e
    have hlm : len ≤ m := by rw [hmm]; split <;> omega
    obtain ⟨ps, hps, hq⟩ := list_of (fun i (p : Token × Value) => ((∀ j u, (tokR.cells p.1 p.2)[j]? = some u → w.cell? (a.add (i * 3 + j)) = some u) ∧ Rd w (Old w) 5 p.2 p.1.rex.length (p.1.rex.flatMap rxCells)) ∧ (p.1.name.size ≤ maxLen) ∧ ∀ R, (∀ n ∈ (D i).weights Try.prog 69, n ≤ R) → p.1.rex.length * 40 ≤ R) len (fun i hi => by
      obtain ⟨cs', h1, h2⟩ := hx i (by omega)
      rw [show Try.prog.cellsOf 69 = 3 by kernel_rfl] at h1
      obtain ⟨_, hlen, hcell⟩ := World.cells?_some h1
      obtain ⟨f0, f1, f2, hu, ⟨o0, o1, o2⟩, ⟨u0, u1, u2⟩, k0, k1, k2⟩ := tok_fields
      obtain ⟨xs, k, _, hxs, _, hxl, hf⟩ := DataW.trod_struct hu h2
      match cs', hlen with
      | [y0, y1, y2], _ =>
        have t0 := hf 0 f0 rfl
        have t1 := hf 1 f1 rfl
        have t2 := hf 2 f2 rfl
        match xs, hxl with
        | [z0, z1, z2], _ =>
          simp only [o0, o1, o2, k0, k1, k2, List.drop_zero, List.take_succ_cons, List.take_zero, List.drop_succ_cons, List.getElem?_cons_zero, List.getElem?_cons_succ] at t0 t1 t2
          obtain ⟨s, e0, _, hs⟩ := DataW.trod_string u0 t0
          obtain ⟨cl, e2, _⟩ := DataW.trod_int u2 t2
          rw [u1] at t1
          obtain ⟨rx, hri⟩ := open_rx t1
          cases e0; cases e2
          have hD : D i = .agg [z0.1, z1.1, z2.1] := congrArg Prod.fst hxs
          obtain ⟨A', c', hyv, _, _⟩ := hri.val
          refine ⟨(⟨s, rx, cl⟩, y1), ⟨fun j u hj => ?_, hri⟩, hs, fun R hR => ?_⟩
          · have hj2 : j < 3 := (List.getElem?_eq_some_iff.1 hj).1
            have := hcell j hj2
            rw [Go.Deep.add_add] at this
            rw [this]
            exact hj
          · rw [hyv] at t1
            rw [hD, wts_struct hu] at hR
            refine rex_bytes t1 R (fun n hn => hR n ?_)
            rw [← u1] at hn
            simp only [DataW.weightsEach, List.map_cons, List.mem_append]
            exact .inr (.inl hn))
    have hpick : ∀ t ∈ ps.map (·.1), ∃ i p, i < len ∧ ps[i]? = some p ∧ p.1 = t := fun t ht => by
      obtain ⟨p, hp, rfl⟩ := List.mem_map.1 ht
      obtain ⟨i, hi, e⟩ := List.mem_iff_getElem.1 hp
      exact ⟨i, p, by omega, by rw [List.getElem?_eq_getElem hi, e], rfl⟩
    refine ⟨ps.map (·.1), recs_of (R := tokR) ps hps hl hm (fun i p hp => (hq i p hp).1), fun t ht => ?_, fun R hR t ht => ?_⟩
    · obtain ⟨i, p, _, hp, rfl⟩ := hpick t ht
      exact (hq i p hp).2.1
    · obtain ⟨i, p, hi, hp, rfl⟩ := hpick t ht
      refine (hq i p hp).2.2 R (fun n hn => hR n ?_)
      rw [hxd, wts_slice (e := 69) (by kernel_rfl)]
      exact List.mem_cons_of_mem _ (List.mem_append_left _ (wts_mem (List.mem_map.2 ⟨i, by simp; omega, rfl⟩) hn))

set_option maxRecDepth 100000 in
theorem open_prods_c {fuel : Nat} {v : Value} {x : DataW H × List MemPlace} (h : DataW.trod enc Try.prog w base spare held fuel 24 [v] = some x) : ∃ l : List Prod, Recs prodR w (Old w) v l ∧ (∀ t ∈ l, True) ∧ ∀ R, (∀ n ∈ x.1.weights Try.prog 24, n ≤ R) → ∀ t ∈ l, t.right.length * 32 ≤ R := by
  rcases Go.Deep.open_slice (e := 56) (by kernel_rfl) h with ⟨e, _⟩ | ⟨a, len, cap, m, n, D, Pl, e, hb, hl, hm, hmm, hxd, hx⟩
  · cases e
    exact ⟨[], ⟨[], rfl, Rd.nil _ _ _, fun i x l h => by simp at h⟩, (fun t ht => by cases ht), fun R _ t ht => by cases ht⟩
  · cases e
    have hlm : len ≤ m := by rw [hmm]; split <;> omega
    obtain ⟨ps, hps, hq⟩ := list_of (fun i (p : Prod × Value) => ((∀ j u, (prodR.cells p.1 p.2)[j]? = some u → w.cell? (a.add (i * 2 + j)) = some u) ∧ Rd w (Old w) 4 p.2 p.1.right.length (p.1.right.flatMap itCells)) ∧ (True) ∧ ∀ R, (∀ n ∈ (D i).weights Try.prog 56, n ≤ R) → p.1.right.length * 32 ≤ R) len (fun i hi => by
      obtain ⟨cs', h1, h2⟩ := hx i (by omega)
      rw [show Try.prog.cellsOf 56 = 2 by kernel_rfl] at h1
      obtain ⟨_, hlen, hcell⟩ := World.cells?_some h1
      obtain ⟨f0, f1, hu, ⟨o0, o1⟩, ⟨u0, u1⟩, k0, k1⟩ := prod_fields
      obtain ⟨xs, k, _, hxs, _, hxl, hf⟩ := DataW.trod_struct hu h2
      match cs', hlen with
      | [y0, y1], _ =>
        have t0 := hf 0 f0 rfl
        have t1 := hf 1 f1 rfl
        match xs, hxl with
        | [z0, z1], _ =>
          simp only [o0, o1, k0, k1, List.drop_zero, List.take_succ_cons, List.take_zero, List.drop_succ_cons, List.getElem?_cons_zero, List.getElem?_cons_succ] at t0 t1
          obtain ⟨le, e0, _⟩ := DataW.trod_int u0 t0
          rw [u1] at t1
          obtain ⟨ri, hri⟩ := open_items t1
          cases e0
          have hD : D i = .agg [z0.1, z1.1] := congrArg Prod.fst hxs
          obtain ⟨A', c', hyv, _, _⟩ := hri.val
          refine ⟨(⟨le, ri⟩, y1), ⟨fun j u hj => ?_, hri⟩, trivial, fun R hR => ?_⟩
          · have hj2 : j < 2 := (List.getElem?_eq_some_iff.1 hj).1
            have := hcell j hj2
            rw [Go.Deep.add_add] at this
            rw [this]
            exact hj
          · rw [hyv] at t1
            rw [hD, wts_struct hu] at hR
            refine right_bytes t1 R (fun n hn => hR n ?_)
            rw [← u1] at hn
            simp only [DataW.weightsEach, List.map_cons, List.mem_append]
            exact .inr (.inl hn))
    have hpick : ∀ t ∈ ps.map (·.1), ∃ i p, i < len ∧ ps[i]? = some p ∧ p.1 = t := fun t ht => by
      obtain ⟨p, hp, rfl⟩ := List.mem_map.1 ht
      obtain ⟨i, hi, e⟩ := List.mem_iff_getElem.1 hp
      exact ⟨i, p, by omega, by rw [List.getElem?_eq_getElem hi, e], rfl⟩
    refine ⟨ps.map (·.1), recs_of (R := prodR) ps hps hl hm (fun i p hp => (hq i p hp).1), fun t ht => ?_, fun R hR t ht => ?_⟩
    · obtain ⟨i, p, _, hp, rfl⟩ := hpick t ht
      exact (hq i p hp).2.1
    · obtain ⟨i, p, hi, hp, rfl⟩ := hpick t ht
      refine (hq i p hp).2.2 R (fun n hn => hR n ?_)
      rw [hxd, wts_slice (e := 56) (by kernel_rfl)]
      exact List.mem_cons_of_mem _ (List.mem_append_left _ (wts_mem (List.mem_map.2 ⟨i, by simp; omega, rfl⟩) hn))

set_option maxRecDepth 100000 in
theorem open_gram_c {r : Reach} {b0 : Nat} {v : Value} {d : DataW H} {p : List MemPlace} (hv : Value.okWide Try.prog w r b0 26 v) (h : DataW.Trod enc Try.prog w base spare held 26 v d p) :
    ∃ (g : Gram) (a b c : Value), v = .agg (gramCells a b c g) ∧ GramIs w (Old w) a b c g ∧ (∀ s ∈ allNames g, s.size ≤ maxLen) ∧ ∀ R, (∀ n ∈ d.weights Try.prog 26, n ≤ R) → (∀ x ∈ g.toks, x.rex.length * 40 ≤ R) ∧ (∀ x ∈ g.prods, x.right.length * 32 ≤ R) := by
  obtain ⟨f0, f1, f2, f3, f4, f5, f6, f7, hu, ⟨o0, o1, o2, o3, o4, o5, o6, o7⟩, ⟨u0, u1, u2, u3, u4, u5, u6, u7⟩, k0, k1, k2, k3, k4, k5, k6, k7⟩ := gram_fields
  obtain ⟨cs, rfl, hsz⟩ := okWide_struct hu hv
  rw [show Try.prog.cellsOf 26 = 8 by kernel_rfl] at hsz
  obtain ⟨fuel, hm⟩ := h
  obtain ⟨xs, k, _, hxs, _, hxl, hf⟩ := DataW.trod_struct hu hm
  match cs, hsz with
  | ⟨[y0, y1, y2, y3, y4, y5, y6, y7]⟩, _ =>
    have t0 := hf 0 f0 rfl
    have t1 := hf 1 f1 rfl
    have t2 := hf 2 f2 rfl
    have t3 := hf 3 f3 rfl
    have t4 := hf 4 f4 rfl
    have t5 := hf 5 f5 rfl
    have t6 := hf 6 f6 rfl
    have t7 := hf 7 f7 rfl
    match xs, hxl with
    | [z0, z1, z2, z3, z4, z5, z6, z7], _ =>
      simp only [Value.cells, o0, o1, o2, o3, o4, o5, o6, o7, k0, k1, k2, k3, k4, k5, k6, k7, List.drop_zero, List.take_succ_cons, List.take_zero, List.drop_succ_cons, List.getElem?_cons_zero, List.getElem?_cons_succ] at t0 t1 t2 t3 t4 t5 t6 t7
      obtain ⟨n3, e3, _⟩ := DataW.trod_int u3 t3
      obtain ⟨n4, e4, _⟩ := DataW.trod_int u4 t4
      obtain ⟨n5, e5, _⟩ := DataW.trod_int u5 t5
      obtain ⟨n6, e6, _⟩ := DataW.trod_int u6 t6
      obtain ⟨n7, e7, _⟩ := DataW.trod_int u7 t7
      rw [u0] at t0
      rw [u1] at t1
      rw [u2] at t2
      obtain ⟨tk, htk, hts, htb⟩ := open_toks_c t0
      obtain ⟨ru, hru, hrs⟩ := open_strs t1
      obtain ⟨pr, hpr, _, hpb⟩ := open_prods_c t2
      cases e3; cases e4; cases e5; cases e6; cases e7
      have hD : d = .agg [z0.1, z1.1, z2.1, z3.1, z4.1, z5.1, z6.1, z7.1] := congrArg Prod.fst hxs
      refine ⟨⟨tk, ru, pr, n3, n4, n5, n6, n7⟩, y0, y1, y2, rfl, ⟨htk, hru, hpr⟩, fun s hs => ?_, fun R hR => ?_⟩
      · unfold allNames tokNames at hs
        rw [List.mem_append, List.mem_map] at hs
        rcases hs with ⟨t, ht, rfl⟩ | hs
        · exact hts t ht
        · exact hrs s hs
      · rw [hD, wts_struct hu] at hR
        refine ⟨htb R (fun n hn => hR n ?_), hpb R (fun n hn => hR n ?_)⟩
        · rw [← u0] at hn
          simp only [DataW.weightsEach, List.map_cons, List.mem_append]
          exact .inl hn
        · rw [← u2] at hn
          simp only [DataW.weightsEach, List.map_cons, List.mem_append]
          exact .inr (.inr (.inl hn))
end
end Go.Proofs.Ytmmhkjdnejeooaa
