/-
  Steps compared: the reference's Same and rx.Same.
-/
import Derived.Test.YtaagkbgbghleiaaRxWalk
import Derived.Test.YtaagkbgbghleiaaStrs
namespace Go.Proofs.Ytaagkbgbghleiaa
open Go.RowKit Go.Shelf

set_option maxRecDepth 50000 in
theorem rx_eq_run (w : World) (x y : Rx) : (Op.equalIn 10000 103 (.agg #[.int .i64 x.kind, .int .u64 x.s0, .int .u64 x.s1, .int .u64 x.s2, .int .u64 x.s3]) (.agg #[.int .i64 y.kind, .int .u64 y.s0, .int .u64 y.s1, .int .u64 y.s2, .int .u64 y.s3])).run Try.prog w = .ok (eqB x y) w := by
  have e : eqB x y = (x.kind == y.kind && (x.s0 == y.s0 && (x.s1 == y.s1 && (x.s2 == y.s2 && x.s3 == y.s3)))) := by
    obtain ⟨a, b, c, d, f⟩ := x
    obtain ⟨a', b', c', d', f'⟩ := y
    rw [Bool.eq_iff_iff, eqB_iff]
    simp only [Rx.mk.injEq, Bool.and_eq_true, beq_iff_eq]
  rw [e, show (10000 : Nat) = 9999 + 1 from rfl, run_equalIn_agg _ _ _ _ _ (by kernel_rfl) (by kernel_rfl)]
  obtain ⟨f0, f1, hl, n0, n1, o0, o1, t0, t1⟩ : ∃ f0 f1 : Field, (Try.prog.fieldsOf 103).toList = [f0, f1] ∧ f0.name ≠ "_" ∧ f1.name ≠ "_" ∧ f0.offset = 0 ∧ f1.offset = 1 ∧ f0.type = 98 ∧ f1.type = 101 := ⟨_, _, rfl, by decide, by decide, rfl, rfl, rfl, rfl⟩
  have hu0 : Try.prog.underlying 98 = some (.int .i64) := by kernel_rfl
  rw [hl]
  simp only [Op.eqFields, n0, n1, o0, o1, t0, t1, ne_eq, not_false_eq_true, if_true]
  have p0 : ∀ (a b c d f : Value), (part 98 #[a, b, c, d, f] 0).run Try.prog w = .ok a w := fun _ _ _ _ _ => by kernel_rfl
  have p1 : ∀ (a b c d f : Value), (part 101 #[a, b, c, d, f] 1).run Try.prog w = .ok (.agg #[b, c, d, f]) w := fun _ _ _ _ _ => by kernel_rfl
  have hu : Try.prog.underlying 101 = some (.array 4 99) := by kernel_rfl
  have hs : ∀ d : Nat, (Op.equalIn (d + 1 + 1) 101 (.agg #[.int .u64 x.s0, .int .u64 x.s1, .int .u64 x.s2, .int .u64 x.s3]) (.agg #[.int .u64 y.s0, .int .u64 y.s1, .int .u64 y.s2, .int .u64 y.s3])).run Try.prog w = .ok (x.s0 == y.s0 && (x.s1 == y.s1 && (x.s2 == y.s2 && x.s3 == y.s3))) w := fun d => by
    have hu1 : Try.prog.underlying 99 = some (.int .u64) := by kernel_rfl
    obtain ⟨i, hi⟩ := info_of_underlying hu1
    have hc : Try.prog.cellsOf 99 = 1 := by kernel_rfl
    rw [run_equalIn_array w (d + 1) _ _ hu hi, hc]
    have q0 : ∀ (a b c d : Value), (part 99 #[a, b, c, d] (0 * 1)).run Try.prog w = .ok a w := fun _ _ _ _ => by kernel_rfl
    have q1 : ∀ (a b c d : Value), (part 99 #[a, b, c, d] (1 * 1)).run Try.prog w = .ok b w := fun _ _ _ _ => by kernel_rfl
    have q2 : ∀ (a b c d : Value), (part 99 #[a, b, c, d] (2 * 1)).run Try.prog w = .ok c w := fun _ _ _ _ => by kernel_rfl
    have q3 : ∀ (a b c d : Value), (part 99 #[a, b, c, d] (3 * 1)).run Try.prog w = .ok d w := fun _ _ _ _ => by kernel_rfl
    have hr : List.range 4 = [0, 1, 2, 3] := by decide
    rw [hr]
    simp only [Op.eqItems, Sem.run_bind, q0, q1, q2, q3, Result.andThen_ok, run_equalIn_int w _ _ _ _ _ _ hu1, Sem.run_ite, Sem.run_pure]
    cases x.s0 == y.s0 <;> cases x.s1 == y.s1 <;> cases x.s2 == y.s2 <;> cases x.s3 == y.s3 <;> simp
  have hs2 := hs 9997
  simp only [Sem.run_bind, p0, p1, Result.andThen_ok, run_equalIn_int w _ _ _ _ _ _ hu0, hs2, Sem.run_ite, Sem.run_pure]
  cases x.kind == y.kind <;> cases (x.s0 == y.s0 && (x.s1 == y.s1 && (x.s2 == y.s2 && x.s3 == y.s3))) <;> simp
set_option maxRecDepth 20000 in
set_option maxHeartbeats 2000000 in
theorem ref07_same (a b : Value) (L M : List Rx) (w : World) (hA : Rd w (Old w) 5 a L.length (L.flatMap rxCells)) (hB : Rd w (Old w) 5 b M.length (M.flatMap rxCells)) :
    Calls Try.prog 112 #[a, b] w fun r w' => r = .returned (.bool (eqB L M)) ∧ Below w.heap.size w w' := by
  obtain ⟨A, c, rfl, hc1, hc2⟩ := hA.val
  obtain ⟨A2, c2, rfl, hd1, hd2⟩ := hB.val
  unfold maxLen at hc2 hd2
  have HA := hidden hA
  have HB := hidden hB
  clear hA hB
  by_cases hlen : L.length = M.length
  · have HT : Hid ((∀ k : Nat, k < L.length → L[k]? = M[k]?) → eqB L M = true) := hidden (fun h => eqB_true (list_ext_of hlen h))
    have HF : Hid ((∃ (k : Nat) (x y : Rx), L[k]? = some x ∧ M[k]? = some y ∧ x ≠ y) → eqB L M = false) := hidden (fun ⟨k, x, y, h1, h2, h3⟩ => eqB_false fun e => by
      subst e
      rw [h1] at h2
      exact h3 (Option.some.inj h2))
    generalize eqB L M = r at *
    have HLM := hidden hlen
    have hlm : L.length ≤ M.length := by omega
    have q0 : ((L.length : Int) != (M.length : Int)) = false := by simp; omega
    clear hlen
    go_enter Try.func112, Try.ntmps112
    go_wp2
    go_loopw [5] (fun kk wr => ∃ k : Nat, k ≤ L.length ∧ kk = .int .i64 k ∧ Hid (∀ j : Nat, j < k → L[j]? = M[j]?) ∧ Below w.heap.size w wr) (fun kk _ => L.length - (intOf kk).toNat)
    case atStart => exact ⟨0, by omega, rfl, hidden (fun j h => by omega), Below.refl _ _⟩
    case round =>
      obtain ⟨k, hk, rfl, HN, hb⟩ := hrel
      by_cases hlt : k < L.length
      · have hk2 : k < M.length := by omega
        have hx := List.getElem?_eq_getElem hlt
        have hy := List.getElem?_eq_getElem hk2
        obtain ⟨b1, o1, rfl, _, hat1⟩ := (HA.out.old hb).flat_at (fun _ => rfl) (by decide) hx
        obtain ⟨b2, o2, rfl, _, hat2⟩ := (HB.out.old hb).flat_at (fun _ => rfl) (by decide) hy
        have x0 := hat1 0 _ rfl
        have x1 := hat1 1 _ rfl
        have x2 := hat1 2 _ rfl
        have x3 := hat1 3 _ rfl
        have x4 := hat1 4 _ rfl
        have y0 := hat2 0 _ rfl
        have y1 := hat2 1 _ rfl
        have y2 := hat2 2 _ rfl
        have y3 := hat2 3 _ rfl
        have y4 := hat2 4 _ rfl
        rw [Nat.add_zero] at x0 y0
        generalize L[k] = x at *
        generalize M[k] = y at *
        have HX := hidden hx
        have HY := hidden hy
        clear hx hy hat1 hat2
        have z0 := Ext.cell x0; have z1 := Ext.cell x1; have z2 := Ext.cell x2; have z3 := Ext.cell x3; have z4 := Ext.cell x4
        have v0 := Ext.cell y0; have v1 := Ext.cell y1; have v2 := Ext.cell y2; have v3 := Ext.cell y3; have v4 := Ext.cell y4
        have hq := fun w => rx_eq_run w x y
        go_wp2_with fail
        refine wp_region_ext (by kernel_rfl) (by kernel_rfl) ?_
        repeat (go_big_quiet_step (fail))
        refine wpQuiet_nil ?_
        intro w2 hb2
        clear z0 z1 z2 z3 z4 v0 v1 v2 v3 v4 hq
        clear x0 x1 x2 x3 x4 y0 y1 y2 y3 y4
        replace hb := hb.trans (hb2.mono hb.size)
        by_cases hxy : x = y
        · have HN2 : Hid (∀ j : Nat, j < k + 1 → L[j]? = M[j]?) := hidden (fun j hj => by
            by_cases e : j = k
            · subst e; rw [HX.out, HY.out, hxy]
            · exact HN.out j (by omega))
          rw [eqB_true hxy]
          clear hxy HN HX HY
          go_wp2
          go_roundw
          case rel => exact ⟨k + 1, by omega, by go_num, HN2, hb⟩
          case measure => simp [intOf]; omega
        · have HE := hidden (HF.out ⟨k, _, _, HX.out, HY.out, hxy⟩)
          rw [eqB_false hxy]
          clear hxy
          go_wp2
          go_ret
          exact ⟨by rw [HE.out]; rfl, hb⟩
      · obtain rfl : k = L.length := by omega
        have HE := hidden (HT.out HN.out)
        go_wp2
        go_ret
        exact ⟨by rw [HE.out]; rfl, hb⟩
  · have q1 : (((L.length : Nat) : Int) != (M.length : Int)) = true := by rw [bne_iff_ne]; omega
    have HE : Hid (eqB L M = false) := hidden (eqB_false (by
      intro e; rw [e] at hlen; exact hlen rfl))
    generalize eqB L M = r at *
    clear hlen
    go_enter Try.func112, Try.ntmps112
    go_wp2
    go_ret
    exact ⟨by rw [HE.out]; rfl, Below.refl _ _⟩
end Go.Proofs.Ytaagkbgbghleiaa
