/-
  Arguments of steps and of sets, opened; the table of the library's that lies in its variable.
-/
import Derived.Test.YtfmdmeokbbpmlaaGreatC7
import Derived.Test.YtfmdmeokbbpmlaaGreatIntsOpen
import Derived.Laws.IdiomArrays
import Derived.Lib.LaidTab
import Derived.MakeChecks
namespace Go.Proofs.YtfmdmeokbbpmlaaGreat
open Go.RowKit Go.Shelf Go.ChangeShapes Go.WideShapes

set_option maxRecDepth 100000 in
theorem rx_fieldsW : ∃ f0 f1 : Field, Tryz.prog.underlying 103 = some (.struct #[f0, f1]) ∧ f0.offset = 0 ∧ f1.offset = 1 ∧ Tryz.prog.underlying f0.type = some (.int .i64) ∧ Tryz.prog.underlying f1.type = some (.array 4 99) ∧ Tryz.prog.cellsOf f0.type = 1 ∧ Tryz.prog.cellsOf f1.type = 4 :=
  ⟨_, _, rfl, rfl, rfl, rfl, rfl, by kernel_rfl, by kernel_rfl⟩
section
variable {H : Type} {enc : TypeId × Value → H} {w : World} {base : Nat} {spare : Nat → Bool} {held : Bool}
theorem u64_word {z : Int} (h : (Lit.int .u64 z).wf = true) : 0 ≤ z ∧ z < 18446744073709551616 := by
  have := bounds_u64 h
  omega
set_option maxRecDepth 100000 in
theorem open_rxw {fuel : Nat} {v : Value} {x : DataW H × List MemPlace} (h : DataW.trod enc Tryz.prog w base spare held fuel 39 [v] = some x) : ∃ l : List Rx, Rd w (Old w) 5 v l.length (l.flatMap rxCells) ∧ ∀ x ∈ l, Wordy x := by
  rcases Go.Deep.open_slice (e := 103) (by kernel_rfl) h with ⟨e, _⟩ | ⟨a, len, cap, m, n, D, Pl, e, hb, hl, hm, hmm, _, hx⟩
  · cases e
    exact ⟨[], Rd.nil _ _ _, fun x h => by cases h⟩
  · cases e
    have hlm : len ≤ m := by rw [hmm]; split <;> omega
    obtain ⟨ps, hps, hq⟩ := list_ofI (fun i (p : Rx) => (∀ j u, (rxCells p)[j]? = some u → w.cell? (a.add (i * 5 + j)) = some u) ∧ Wordy p) len (fun i hi => by
      obtain ⟨cs', h1, h2⟩ := hx i (by omega)
      rw [show Tryz.prog.cellsOf 103 = 5 by kernel_rfl] at h1
      obtain ⟨_, hlen, hcell⟩ := World.cells?_some h1
      obtain ⟨f0, f1, hu, o0, o1, u0, u1, k0, k1⟩ := rx_fieldsW
      obtain ⟨xs, k, _, _, _, hxl, hf⟩ := DataW.trod_struct hu h2
      match cs', hlen with
      | [y0, y1, y2, y3, y4], _ =>
        have t0 := hf 0 f0 rfl
        have t1 := hf 1 f1 rfl
        match xs, hxl with
        | [z0, z1], _ =>
          simp only [o0, o1, k0, k1, List.drop_zero, List.take_succ_cons, List.take_zero, List.drop_succ_cons, List.getElem?_cons_zero, List.getElem?_cons_succ] at t0 t1
          obtain ⟨kd, e0, _⟩ := DataW.trod_int u0 t0
          obtain ⟨q0, q1, q2, q3, n', _, g0, g1, g2, g3⟩ := trod_array4 u1 (by kernel_rfl) t1
          have hu64 : Tryz.prog.underlying 99 = some (.int .u64) := by kernel_rfl
          obtain ⟨s0, e1, _, w0⟩ := DataW.trod_int hu64 g0
          obtain ⟨s1, e2, _, w1⟩ := DataW.trod_int hu64 g1
          obtain ⟨s2, e3, _, w2⟩ := DataW.trod_int hu64 g2
          obtain ⟨s3, e4, _, w3⟩ := DataW.trod_int hu64 g3
          cases e0; cases e1; cases e2; cases e3; cases e4
          refine ⟨⟨kd, s0, s1, s2, s3⟩, fun j u hj => ?_, u64_word w0, u64_word w1, u64_word w2, u64_word w3⟩
          have hj2 : j < 5 := (List.getElem?_eq_some_iff.1 hj).1
          have := hcell j hj2
          rw [Go.Deep.add_add] at this
          rw [this]
          exact hj)
    refine ⟨ps, by
      have := rd_of_flatI (w := w) (a := a) (c := cap) rxCells (by decide) (fun _ => rfl) ps hps hl hm (fun i x h => (hq i x h).1)
      rw [hps]
      exact this, fun x hx => ?_⟩
    obtain ⟨i, hi⟩ := List.getElem?_of_mem hx
    exact (hq i x hi).2
theorem setC_of {a b c d : Int} (ha : 0 ≤ a ∧ a < 18446744073709551616) (hb : 0 ≤ b ∧ b < 18446744073709551616) (hc : 0 ≤ c ∧ c < 18446744073709551616) (hd : 0 ≤ d ∧ d < 18446744073709551616) :
    ∃ f, #[Value.int .u64 a, .int .u64 b, .int .u64 c, .int .u64 d] = setC f := by
  have e := memW_wd a.toNat b.toNat c.toNat d.toNat (by omega) (by omega) (by omega) (by omega)
  refine ⟨memW a.toNat b.toNat c.toNat d.toNat, ?_⟩
  unfold setC
  rw [← e.1, ← e.2.1, ← e.2.2.1, ← e.2.2.2, Int.toNat_of_nonneg ha.1, Int.toNat_of_nonneg hb.1, Int.toNat_of_nonneg hc.1, Int.toNat_of_nonneg hd.1]
set_option maxRecDepth 100000 in
theorem open_set {r : Go.Reach} {b0 : Nat} {v : Value} {d : DataW H} {p : List MemPlace} (hv : Value.okWide Tryz.prog w r b0 101 v) (h : DataW.Trod enc Tryz.prog w base spare held 101 v d p) : ∃ f, v = .agg (setC f) := by
  have hu : Tryz.prog.underlying 101 = some (.array 4 99) := by kernel_rfl
  have hu64 : Tryz.prog.underlying 99 = some (.int .u64) := by kernel_rfl
  simp only [Value.okWide, hu] at hv
  obtain ⟨cs, rfl, hsz, _⟩ := hv
  rw [show Tryz.prog.cellsOf 101 = 4 by kernel_rfl] at hsz
  obtain ⟨fuel, hm⟩ := h
  match cs, hsz with
  | ⟨[y0, y1, y2, y3]⟩, _ =>
    have hm2 : DataW.trod enc Tryz.prog w base spare held fuel 101 [y0, y1, y2, y3] = some _ := hm
    obtain ⟨q0, q1, q2, q3, n', _, g0, g1, g2, g3⟩ := trod_array4 hu (by kernel_rfl) hm2
    obtain ⟨s0, e1, _, w0⟩ := DataW.trod_int hu64 g0
    obtain ⟨s1, e2, _, w1⟩ := DataW.trod_int hu64 g1
    obtain ⟨s2, e3, _, w2⟩ := DataW.trod_int hu64 g2
    obtain ⟨s3, e4, _, w3⟩ := DataW.trod_int hu64 g3
    cases e1; cases e2; cases e3; cases e4
    obtain ⟨f, hf⟩ := setC_of (u64_word w0) (u64_word w1) (u64_word w2) (u64_word w3)
    exact ⟨f, by rw [← hf]⟩
end
end Go.Proofs.YtfmdmeokbbpmlaaGreat
