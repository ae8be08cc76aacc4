/-
  law18: GramChecks, GramAsks.
-/
import Derived.Test.YtaagkbgbghleiaaGramKnows
namespace Go.Proofs.Ytaagkbgbghleiaa
open Go.RowKit Go.Shelf

set_option maxRecDepth 50000 in
theorem def_eq_run (w : World) (x y : Defect) : (Op.equalIn 10000 40 (.agg #[.int .i64 x.kind, .int .i64 x.at_, .int .i64 x.more]) (.agg #[.int .i64 y.kind, .int .i64 y.at_, .int .i64 y.more])).run Try.prog w = .ok (eqB x y) w := by
  have e : eqB x y = (x.kind == y.kind && (x.at_ == y.at_ && x.more == y.more)) := by
    obtain ⟨a, b, c⟩ := x
    obtain ⟨a', b', c'⟩ := y
    rw [Bool.eq_iff_iff, eqB_iff]
    simp only [Defect.mk.injEq, Bool.and_eq_true, beq_iff_eq]
  rw [e, show (10000 : Nat) = 9999 + 1 from rfl, run_equalIn_agg _ _ _ _ _ (by kernel_rfl) (by kernel_rfl)]
  obtain ⟨f0, f1, f2, hl, n0, n1, n2, o0, o1, o2, t0, t1, t2⟩ : ∃ f0 f1 f2 : Field, (Try.prog.fieldsOf 40).toList = [f0, f1, f2] ∧ f0.name ≠ "_" ∧ f1.name ≠ "_" ∧ f2.name ≠ "_" ∧ f0.offset = 0 ∧ f1.offset = 1 ∧ f2.offset = 2 ∧ f0.type = 38 ∧ f1.type = 3 ∧ f2.type = 3 := ⟨_, _, _, rfl, by decide, by decide, by decide, rfl, rfl, rfl, rfl, rfl, rfl⟩
  have hu0 : Try.prog.underlying 38 = some (.int .i64) := by kernel_rfl
  have hu1 : Try.prog.underlying 3 = some (.int .i64) := by kernel_rfl
  rw [hl]
  simp only [Op.eqFields, n0, n1, n2, o0, o1, o2, t0, t1, t2, ne_eq, not_false_eq_true, if_true]
  have p0 : ∀ (a b c : Value), (part 38 #[a, b, c] 0).run Try.prog w = .ok a w := fun _ _ _ => by kernel_rfl
  have p1 : ∀ (a b c : Value), (part 3 #[a, b, c] 1).run Try.prog w = .ok b w := fun _ _ _ => by kernel_rfl
  have p2 : ∀ (a b c : Value), (part 3 #[a, b, c] 2).run Try.prog w = .ok c w := fun _ _ _ => by kernel_rfl
  simp only [Sem.run_bind, p0, p1, p2, Result.andThen_ok, run_equalIn_int w _ _ _ _ _ _ hu0, run_equalIn_int w _ _ _ _ _ _ hu1, Sem.run_ite, Sem.run_pure]
  cases x.kind == y.kind <;> cases x.at_ == y.at_ <;> cases x.more == y.more <;> simp
theorem _root_.Go.RowKit.Below.more {w a w' : World} (h : Below w.heap.size w a) (k : Below a.heap.size a w') : Below w.heap.size w w' := h.trans (k.mono h.size)
theorem right_eq (g : Gram) : eqB (checkOf g) D0 = rightB g := by
  unfold rightB
  rw [Bool.eq_iff_iff, eqB_iff, decide_eq_true_iff]
  exact ⟨fun h => by rw [h]; rfl, check_clean g⟩
/-- What Few says of sizes. -/
theorem few_small {g : Gram} (h : fewB g = true) : g.toks.length ≤ 70 ∧ g.rules.length ≤ 70 ∧ g.prods.length ≤ 260 := (holdsB_iff.1 h).1

set_option maxRecDepth 20000 in
set_option maxHeartbeats 8000000 in
theorem law_checks (a b c : Value) (g : Gram) (w : World) (HG : GramIs w (Old w) a b c g) (hz : Named g) :
    Calls Try.prog 6 #[.agg (gramCells a b c g)] w fun r w' => r = .returned (.bool true) ∧ Below w.heap.size w w' := by
  have HFw := hidden (fun (w' : World) (hb : Below w.heap.size w w') => law_Few a b c g w' (HG.old hb) hz)
  have HS := hidden (@few_small g)
  have H1 := hidden (fun (hs : fewB g = true) (w' : World) (hb : Below w.heap.size w w') => gram_Check a b c g w' (HG.old hb) (by have := (few_small hs).1; omega) (by have := (few_small hs).2.1; omega) (by have := (few_small hs).2.2; omega) hz)
  have H2 := hidden (fun (hs : fewB g = true) (w' : World) (hb : Below w.heap.size w w') => ref_Check a b c g w' (HG.old hb) (by have := (few_small hs).1; omega) (by have := (few_small hs).2.1; omega) (by have := (few_small hs).2.2; omega) hz)
  have H3 := hidden (fun (hs : fewB g = true) (w' : World) (hb : Below w.heap.size w w') => gram_Right a b c g w' (HG.old hb) (by have := (few_small hs).1; omega) (by have := (few_small hs).2.1; omega) (by have := (few_small hs).2.2; omega) hz)
  obtain ⟨⟨A1, k1, rfl, v1, m1⟩, ⟨A2, k2, rfl, v2, m2⟩, ⟨A3, k3, rfl, v3, m3⟩⟩ := HG.vals
  have hq0 := hidden (fun (w : World) => def_eq_run w (checkOf g) (checkOf g))
  have hq1 : Hid (∀ w, (Op.equalIn 10000 40 (.agg #[.int .i64 (checkOf g).kind, .int .i64 (checkOf g).at_, .int .i64 (checkOf g).more]) (.agg #[.int .i64 0, .int .i64 0, .int .i64 0])).run Try.prog w = .ok (rightB g) w) := hidden (fun w => by
    have := def_eq_run w (checkOf g) D0
    rw [right_eq] at this
    exact this)
  rw [eqB_self] at hq0
  clear HG
  unfold gramCells defC at *
  generalize fewB g = few at *
  generalize rightB g = rb at *
  generalize checkOf g = d at *
  have hb := Below.refl w.heap.size w
  cases few
  · go_enter Try.func6, Try.ntmps6
    go_wp2_with fail
    refine (HFw.out _ ?_).mono ?_
    · exact (by repeat (first | (with_reducible exact Below.refl _ _) | (with_reducible assumption) | (with_reducible refine Below.drew ?_) | (with_reducible refine below_drewN ?_ _) | ((with_reducible refine below_alloc ?_ ?_); (focus (first | omega | (simp; done) | (simp; omega)))) | ((with_reducible refine below_set ?_ ?_); (focus (first | omega | (simp; done) | (simp; omega))))))
    rintro r w2 ⟨rfl, hb2⟩
    have hbw : Below w.heap.size w w2 := Below.trans (by repeat (first | (with_reducible exact Below.refl _ _) | (with_reducible assumption) | (with_reducible refine Below.drew ?_) | (with_reducible refine below_drewN ?_ _) | ((with_reducible refine below_alloc ?_ ?_); (focus (first | omega | (simp; done) | (simp; omega)))) | ((with_reducible refine below_set ?_ ?_); (focus (first | omega | (simp; done) | (simp; omega)))))) (hb2.mono (by simp))
    clear hb2
    go_wp2_with fail
    refine (knows18 _).mono ?_
    rintro r w3 ⟨rfl, hb3⟩
    replace hbw := hbw.trans (hb3.mono hbw.size)
    clear hb3
    go_wp2
    go_ret
    exact ⟨rfl, hbw⟩
  · go_enter Try.func6, Try.ntmps6
    go_wp2_with fail
    refine (HFw.out _ ?_).mono ?_
    · exact (by repeat (first | (with_reducible exact Below.refl _ _) | (with_reducible assumption) | (with_reducible refine Below.drew ?_) | (with_reducible refine below_drewN ?_ _) | ((with_reducible refine below_alloc ?_ ?_); (focus (first | omega | (simp; done) | (simp; omega)))) | ((with_reducible refine below_set ?_ ?_); (focus (first | omega | (simp; done) | (simp; omega))))))
    rintro r w2 ⟨rfl, hb2⟩
    have hbw : Below w.heap.size w w2 := Below.trans (by repeat (first | (with_reducible exact Below.refl _ _) | (with_reducible assumption) | (with_reducible refine Below.drew ?_) | (with_reducible refine below_drewN ?_ _) | ((with_reducible refine below_alloc ?_ ?_); (focus (first | omega | (simp; done) | (simp; omega)))) | ((with_reducible refine below_set ?_ ?_); (focus (first | omega | (simp; done) | (simp; omega)))))) (hb2.mono (by simp))
    have P3 : Holds w2 w.heap.size 36 #[.slice A1 g.toks.length k1, .slice A2 g.rules.length k2, .slice A3 g.prods.length k3, .int .i64 g.start, .int .i64 g.states, .int .i64 g.text, .int .i64 g.nodes, .int .i64 g.pairs] := Holds.below (by repeat (first | (with_reducible assumption) | ((with_reducible refine holds_new ?_); (focus (first | rfl | (simp; done)))) | (with_reducible refine Holds.alloc ?_ _) | (with_reducible refine Holds.drew ?_))) hb2 (by simp)
    obtain ⟨s0, s1, s2, s3, s4, s5, s6, s7⟩ := eight P3
    clear hb2 P3 HFw
    have C1 := hidden (fun (y : Ext w2) => H1.out (by trivial) y.w (hbw.trans (y.below.mono hbw.size)))
    have C2 := hidden (fun (y : Ext w2) => H2.out (by trivial) y.w (hbw.trans (y.below.mono hbw.size)))
    have C3 := hidden (fun (y : Ext w2) => H3.out (by trivial) y.w (hbw.trans (y.below.mono hbw.size)))
    clear H1 H2 H3
    go_wp2_with fail
    have e0 := Ext.cell s0; have e1 := Ext.cell s1; have e2 := Ext.cell s2; have e3 := Ext.cell s3; have e4 := Ext.cell s4; have e5 := Ext.cell s5; have e6 := Ext.cell s6; have e7 := Ext.cell s7
    have hq0 := hq0.out
    have hq1 := hq1.out
    have qr : (rb == rb) = true := by simp
    refine wp_region_ext (by kernel_rfl) (by kernel_rfl) ?_
    repeat (go_big_quiet_step (first | (go_at_call 32; exact Ext.call (C1.out _)) | (go_at_call 33; exact Ext.call (C2.out _)) | (go_at_call 34; exact Ext.call (C3.out _)) | (go_at_call 31; exact Ext.call (knows18 _))))
    refine wpQuiet_nil ?_
    intro w3 hb3
    clear e0 e1 e2 e3 e4 e5 e6 e7
    replace hbw := hbw.trans (hb3.mono hbw.size)
    clear hb3
    go_wp2
    go_ret
    exact ⟨rfl, hbw⟩
end Go.Proofs.Ytaagkbgbghleiaa
