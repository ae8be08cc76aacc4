/-
  Items of productions, as plain data, and compared.
-/
import Derived.Test.YtaagkbgbghleiaaRxEqual
namespace Go.Proofs.Ytaagkbgbghleiaa
open Go.RowKit Go.Shelf

structure Item where
  rule : Bool
  n : Int
  gap : Int
  in_ : Int
def itCells (x : Item) : List Value := [.bool x.rule, .int .i64 x.n, .int .i64 x.gap, .int .i64 x.in_]
set_option maxRecDepth 50000 in
theorem it_eq_run (w : World) (x y : Item) : (Op.equalIn 10000 66 (.agg #[.bool x.rule, .int .i64 x.n, .int .i64 x.gap, .int .i64 x.in_]) (.agg #[.bool y.rule, .int .i64 y.n, .int .i64 y.gap, .int .i64 y.in_])).run Try.prog w = .ok (eqB x y) w := by
  have e : eqB x y = (x.rule == y.rule && (x.n == y.n && (x.gap == y.gap && x.in_ == y.in_))) := by
    obtain ⟨a, b, c, d⟩ := x
    obtain ⟨a', b', c', d'⟩ := y
    rw [Bool.eq_iff_iff, eqB_iff]
    simp only [Item.mk.injEq, Bool.and_eq_true, beq_iff_eq]
  rw [e, show (10000 : Nat) = 9999 + 1 from rfl, run_equalIn_agg _ _ _ _ _ (by kernel_rfl) (by kernel_rfl)]
  obtain ⟨f0, f1, f2, f3, hl, n0, n1, n2, n3, o0, o1, o2, o3, t0, t1, t2, t3⟩ : ∃ f0 f1 f2 f3 : Field, (Try.prog.fieldsOf 66).toList = [f0, f1, f2, f3] ∧ f0.name ≠ "_" ∧ f1.name ≠ "_" ∧ f2.name ≠ "_" ∧ f3.name ≠ "_" ∧ f0.offset = 0 ∧ f1.offset = 1 ∧ f2.offset = 2 ∧ f3.offset = 3 ∧ f0.type = 4 ∧ f1.type = 3 ∧ f2.type = 64 ∧ f3.type = 3 := ⟨_, _, _, _, rfl, by decide, by decide, by decide, by decide, rfl, rfl, rfl, rfl, rfl, rfl, rfl, rfl⟩
  have hu0 : Try.prog.underlying 4 = some .bool := by kernel_rfl
  have hu1 : Try.prog.underlying 3 = some (.int .i64) := by kernel_rfl
  have hu2 : Try.prog.underlying 64 = some (.int .i64) := by kernel_rfl
  rw [hl]
  simp only [Op.eqFields, n0, n1, n2, n3, o0, o1, o2, o3, t0, t1, t2, t3, ne_eq, not_false_eq_true, if_true]
  have p0 : ∀ (a b c d : Value), (part 4 #[a, b, c, d] 0).run Try.prog w = .ok a w := fun _ _ _ _ => by kernel_rfl
  have p1 : ∀ (a b c d : Value), (part 3 #[a, b, c, d] 1).run Try.prog w = .ok b w := fun _ _ _ _ => by kernel_rfl
  have p2 : ∀ (a b c d : Value), (part 64 #[a, b, c, d] 2).run Try.prog w = .ok c w := fun _ _ _ _ => by kernel_rfl
  have p3 : ∀ (a b c d : Value), (part 3 #[a, b, c, d] 3).run Try.prog w = .ok d w := fun _ _ _ _ => by kernel_rfl
  simp only [Sem.run_bind, p0, p1, p2, p3, Result.andThen_ok, run_equalIn_bool' w _ _ _ _ hu0, run_equalIn_int w _ _ _ _ _ _ hu1, run_equalIn_int w _ _ _ _ _ _ hu2, Sem.run_ite, Sem.run_pure]
  cases x.rule == y.rule <;> cases x.n == y.n <;> cases x.gap == y.gap <;> cases x.in_ == y.in_ <;> simp

set_option maxRecDepth 20000 in
set_option maxHeartbeats 2000000 in
theorem equal_items (a b : Value) (L M : List Item) (w : World) (hA : Rd w (Old w) 4 a L.length (L.flatMap itCells)) (hB : Rd w (Old w) 4 b M.length (M.flatMap itCells)) :
    Calls Try.prog 82 #[a, b] w fun r w' => r = .returned (.bool (eqB L M)) ∧ Below w.heap.size w w' := by
  obtain ⟨A, c, rfl, hc1, hc2⟩ := hA.val
  obtain ⟨A2, c2, rfl, hd1, hd2⟩ := hB.val
  unfold maxLen at hc2 hd2
  have HA := hidden hA
  have HB := hidden hB
  clear hA hB
  by_cases hlen : L.length = M.length
  · have HT : Hid ((∀ k : Nat, k < L.length → L[k]? = M[k]?) → eqB L M = true) := hidden (fun h => eqB_true (list_ext_of hlen h))
    have HF : Hid ((∃ (k : Nat) (x y : Item), L[k]? = some x ∧ M[k]? = some y ∧ x ≠ y) → eqB L M = false) := hidden (fun ⟨k, x, y, h1, h2, h3⟩ => eqB_false fun e => by
      subst e
      rw [h1] at h2
      exact h3 (Option.some.inj h2))
    generalize eqB L M = r at *
    have HLM := hidden hlen
    have hlm : L.length ≤ M.length := by omega
    have q0 : ((L.length : Int) != (M.length : Int)) = false := by simp; omega
    clear hlen
    go_enter Try.func82, Try.ntmps82
    go_wp2
    go_loopw [13] (fun kk wr => ∃ k : Nat, k ≤ L.length ∧ kk = .int .i64 k ∧ Hid (∀ j : Nat, j < k → L[j]? = M[j]?) ∧ Below w.heap.size w wr) (fun kk _ => L.length - (intOf kk).toNat)
    case atStart => exact ⟨0, by omega, rfl, hidden (fun j h => by omega), Below.refl _ _⟩
    case round =>
      obtain ⟨k, hk, rfl, HN, hb⟩ := hrel
      by_cases hlt : k < L.length
      · have hk2 : k < M.length := by omega
        have hx := List.getElem?_eq_getElem hlt
        have hy := List.getElem?_eq_getElem hk2
        obtain ⟨b1, o1, rfl, _, hat1⟩ := (HA.out.old hb).flat_at (fun _ => rfl) (by decide) hx
        obtain ⟨b2, o2, rfl, _, hat2⟩ := (HB.out.old hb).flat_at (fun _ => rfl) (by decide) hy
        have x0 := hat1 0 _ rfl
        have x1 := hat1 1 _ rfl
        have x2 := hat1 2 _ rfl
        have x3 := hat1 3 _ rfl
        have y0 := hat2 0 _ rfl
        have y1 := hat2 1 _ rfl
        have y2 := hat2 2 _ rfl
        have y3 := hat2 3 _ rfl
        rw [Nat.add_zero] at x0 y0
        generalize L[k] = x at *
        generalize M[k] = y at *
        have HX := hidden hx
        have HY := hidden hy
        clear hx hy hat1 hat2
        have z0 := Ext.cell x0; have z1 := Ext.cell x1; have z2 := Ext.cell x2; have z3 := Ext.cell x3
        have v0 := Ext.cell y0; have v1 := Ext.cell y1; have v2 := Ext.cell y2; have v3 := Ext.cell y3
        have hq := fun w => it_eq_run w x y
        go_wp2_with fail
        refine wp_region_ext (by kernel_rfl) (by kernel_rfl) ?_
        repeat (go_big_quiet_step (fail))
        refine wpQuiet_nil ?_
        intro w2 hb2
        clear z0 z1 z2 z3  v0 v1 v2 v3  hq
        clear x0 x1 x2 x3  y0 y1 y2 y3 
        replace hb := hb.trans (hb2.mono hb.size)
        by_cases hxy : x = y
        · have HN2 : Hid (∀ j : Nat, j < k + 1 → L[j]? = M[j]?) := hidden (fun j hj => by
            by_cases e : j = k
            · subst e; rw [HX.out, HY.out, hxy]
            · exact HN.out j (by omega))
          rw [eqB_true hxy]
          clear hxy HN HX HY
          go_wp2
          go_roundw
          case rel => exact ⟨k + 1, by omega, by go_num, HN2, hb⟩
          case measure => simp [intOf]; omega
        · have HE := hidden (HF.out ⟨k, _, _, HX.out, HY.out, hxy⟩)
          rw [eqB_false hxy]
          clear hxy
          go_wp2
          go_ret
          exact ⟨by rw [HE.out]; rfl, hb⟩
      · obtain rfl : k = L.length := by omega
        have HE := hidden (HT.out HN.out)
        go_wp2
        go_ret
        exact ⟨by rw [HE.out]; rfl, hb⟩
  · have q1 : (((L.length : Nat) : Int) != (M.length : Int)) = true := by rw [bne_iff_ne]; omega
    have HE : Hid (eqB L M = false) := hidden (eqB_false (by
      intro e; rw [e] at hlen; exact hlen rfl))
    generalize eqB L M = r at *
    clear hlen
    go_enter Try.func82, Try.ntmps82
    go_wp2
    go_ret
    exact ⟨by rw [HE.out]; rfl, Below.refl _ _⟩
end Go.Proofs.Ytaagkbgbghleiaa
