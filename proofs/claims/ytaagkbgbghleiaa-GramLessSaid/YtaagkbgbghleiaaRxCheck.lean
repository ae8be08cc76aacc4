/-
  rx.walk, rx.Check and the reference's Check.
-/
import Derived.Test.YtaagkbgbghleiaaRx
import Derived.ChangeKeysEq
namespace Go.Proofs.Ytaagkbgbghleiaa
open Go.RowKit Go.Shelf

theorem set_eq (w : World) (a0 a1 a2 a3 b0 b1 b2 b3 : Int) : (Op.equalIn 10000 101 (.agg #[.int .u64 a0, .int .u64 a1, .int .u64 a2, .int .u64 a3]) (.agg #[.int .u64 b0, .int .u64 b1, .int .u64 b2, .int .u64 b3])).run Try.prog w = .ok (a0 == b0 && (a1 == b1 && (a2 == b2 && a3 == b3))) w := by
  have hu : Try.prog.underlying 101 = some (.array 4 99) := by kernel_rfl
  have hu0 : Try.prog.underlying 99 = some (.int .u64) := by kernel_rfl
  obtain ⟨i, hi⟩ := info_of_underlying hu0
  have hc : Try.prog.cellsOf 99 = 1 := by kernel_rfl
  rw [show (10000 : Nat) = 9999 + 1 from rfl, run_equalIn_array w 9999 _ _ hu hi, hc]
  have p0 : ∀ (a b c d : Value), (part 99 #[a, b, c, d] (0 * 1)).run Try.prog w = .ok a w := fun _ _ _ _ => by kernel_rfl
  have p1 : ∀ (a b c d : Value), (part 99 #[a, b, c, d] (1 * 1)).run Try.prog w = .ok b w := fun _ _ _ _ => by kernel_rfl
  have p2 : ∀ (a b c d : Value), (part 99 #[a, b, c, d] (2 * 1)).run Try.prog w = .ok c w := fun _ _ _ _ => by kernel_rfl
  have p3 : ∀ (a b c d : Value), (part 99 #[a, b, c, d] (3 * 1)).run Try.prog w = .ok d w := fun _ _ _ _ => by kernel_rfl
  have hr : List.range 4 = [0, 1, 2, 3] := by decide
  rw [hr]
  simp only [Op.eqItems, Sem.run_bind, p0, p1, p2, p3, Result.andThen_ok, run_equalIn_int w _ _ _ _ _ _ hu0, Sem.run_ite, Sem.run_pure]
  cases a0 == b0 <;> cases a1 == b1 <;> cases a2 == b2 <;> cases a3 == b3 <;> simp

/-- Is the set empty? -/
def zB (x : Rx) : Bool := x.s0 == 0 && (x.s1 == 0 && (x.s2 == 0 && x.s3 == 0))
/-- What is wrong with the step where so many parts are; 0: nothing. -/
def stepBad (x : Rx) (parts : Int) : Int := if arity x.kind < 0 ∨ ((x.kind != 1) = true ∧ zB x = false) then 1 else if parts < arity x.kind then 3 else 0
theorem arity_le (k : Int) : -1 ≤ arity k ∧ arity k ≤ 2 := by unfold arity; split <;> (try split) <;> (try split) <;> omega
/-- How many parts there are behind the first steps, and what is wrong first. -/
def rxRun : List Rx → Int → Int ⊕ Int
  | [], parts => .inl parts
  | x :: l, parts => if stepBad x parts = 0 then rxRun l (parts - arity x.kind + 1) else .inr (stepBad x parts)
def rxErr (l : List Rx) : Int := if 512 < l.length then 4 else match rxRun l 0 with
  | .inr e => e
  | .inl p => if p = 1 then 0 else 3

set_option maxRecDepth 20000 in
set_option maxHeartbeats 4000000 in
theorem ref07_check (v : Value) (l : List Rx) (w : World) (h : Rd w (Old w) 5 v l.length (l.flatMap rxCells)) :
    Calls Try.prog 109 #[v] w fun r w' => r = .returned (.int .i64 (rxErr l)) ∧ w = w' := by
  obtain ⟨A, c, rfl, hc1, hc2⟩ := h.val
  unfold maxLen at hc2
  have HR := hidden h
  clear h
  by_cases hl : 512 < l.length
  · have he : rxErr l = 4 := by unfold rxErr; rw [if_pos hl]
    rw [he]
    go_enter Try.func109, Try.ntmps109
    go_wp2
    go_ret
    exact ⟨rfl, rfl⟩
  · have he : Hid (rxErr l = match rxRun l 0 with | .inr e => e | .inl p => if p = 1 then 0 else 3) := hidden (by unfold rxErr; rw [if_neg hl])
    go_enter Try.func109, Try.ntmps109
    go_wp2
    go_loopw [3, 4] (fun pp ii wr => ∃ (k : Nat) (p : Int), k ≤ l.length ∧ pp = .int .i64 p ∧ ii = .int .i64 k ∧ 0 ≤ p ∧ p ≤ k ∧ Hid (rxRun l 0 = rxRun (l.drop k) p) ∧ w = wr) (fun _ ii _ => l.length - (intOf ii).toNat)
    case atStart => exact ⟨0, 0, by omega, rfl, rfl, by omega, by omega, hidden rfl, rfl⟩
    case round =>
      obtain ⟨k, p, hk, rfl, rfl, hp0, hpk, HX, rfl⟩ := hrel
      by_cases hlt : k < l.length
      · obtain ⟨b, off, rfl, hT, hat⟩ := HR.out.flat_at (fun _ => rfl) (by decide) (List.getElem?_eq_getElem hlt)
        have x0 := hat 0 _ rfl
        have x1 := hat 1 _ rfl
        have x2 := hat 2 _ rfl
        have x3 := hat 3 _ rfl
        have x4 := hat 4 _ rfl
        have hd : l.drop k = l[k] :: l.drop (k + 1) := List.drop_eq_getElem_cons hlt
        rw [hd] at HX
        clear hat hd
        generalize l[k] = x at *
        have y0 : w.cell? ⟨b, off + k * 5, none⟩ = some (.int .i64 x.kind) := by simpa using x0
        have hse := set_eq w x.s0 x.s1 x.s2 x.s3 0 0 0 0
        rw [show (x.s0 == 0 && (x.s1 == 0 && (x.s2 == 0 && x.s3 == 0))) = zB x from rfl] at hse
        obtain ⟨ha1, ha2⟩ := arity_le x.kind
        have hof := ref_of x.kind w
        have HB1 : Hid (arity x.kind < 0 ∨ ((x.kind != 1) = true ∧ zB x = false) → rxErr l = 1) := hidden (fun h => by
          rw [he.out, HX.out, rxRun]
          have : stepBad x p = 1 := by unfold stepBad; rw [if_pos h]
          rw [this]; rfl)
        have HB3 : Hid (¬ (arity x.kind < 0 ∨ ((x.kind != 1) = true ∧ zB x = false)) → p < arity x.kind → rxErr l = 3) := hidden (fun h h2 => by
          rw [he.out, HX.out, rxRun]
          have : stepBad x p = 3 := by unfold stepBad; rw [if_neg h, if_pos h2]
          rw [this]; rfl)
        have HB0 : Hid (¬ (arity x.kind < 0 ∨ ((x.kind != 1) = true ∧ zB x = false)) → ¬ p < arity x.kind → rxRun l 0 = rxRun (l.drop (k + 1)) (p - arity x.kind + 1)) := hidden (fun h h2 => by
          have : stepBad x p = 0 := by unfold stepBad; rw [if_neg h, if_neg h2]
          rw [HX.out, rxRun, if_pos this])
        have HO := hidden hof
        clear hof HX he
        generalize arity x.kind = a at *
        generalize zB x = zb at *
        by_cases ha : a < 0
        · have hr := hidden (HB1.out (.inl ha))
          clear HB1 HB3 HB0
          go_wp2_with fail
          refine HO.out.mono ?_
          rintro r w1 ⟨rfl, rfl⟩
          go_wp2
          go_ret
          exact ⟨(by rw [hr.out]; rfl), rfl⟩
        · by_cases hc : (x.kind != 1) = true ∧ zb = false
          · have hr := hidden (HB1.out (.inr hc))
            obtain ⟨hc1', hc2'⟩ := hc
            subst hc2'
            clear HB1 HB3 HB0
            go_wp2_with fail
            refine HO.out.mono ?_
            rintro r w1 ⟨rfl, rfl⟩
            go_wp2
            go_ret
            exact ⟨(by rw [hr.out]; rfl), rfl⟩
          · have hn : ¬ (a < 0 ∨ ((x.kind != 1) = true ∧ zb = false)) := fun h => h.elim ha hc
            by_cases hp : p < a
            · have hr := hidden (HB3.out hn hp)
              clear HB1 HB3 HB0 hn
              cases hk1 : (x.kind != 1) <;> cases zb <;> simp [hk1] at hc
              all_goals (
                go_wp2_with fail
                refine HO.out.mono ?_
                rintro r w1 ⟨rfl, rfl⟩
                go_wp2
                go_ret
                exact ⟨(by rw [hr.out]; rfl), rfl⟩)
            · have hr := hidden (HB0.out hn hp)
              clear HB1 HB3 HB0 hn
              cases hk1 : (x.kind != 1) <;> cases zb <;> simp [hk1] at hc
              all_goals (
                go_wp2_with fail
                refine HO.out.mono ?_
                rintro r w1 ⟨rfl, rfl⟩
                go_wp2
                exact ⟨⟨k + 1, p - a + 1, by omega, rfl, by go_num, by omega, by omega, hr, trivial⟩, by simp [intOf]; omega⟩)
      · obtain rfl : k = l.length := by omega
        have hx := HX.out
        rw [List.drop_length, rxRun] at hx
        have hee := he.out
        rw [hx] at hee
        have hee2 : rxErr l = if p = 1 then 0 else 3 := hee
        replace hee2 := hidden hee2
        clear hx hee HX he
        by_cases hp : p = 1
        · subst hp
          go_wp2
          go_ret
          exact ⟨(by rw [hee2.out, if_pos trivial]; rfl), rfl⟩
        · have hp2 : (p != 1) = true := by simpa using hp
          go_wp2
          go_ret
          exact ⟨(by rw [hee2.out, if_neg hp]; rfl), rfl⟩
end Go.Proofs.Ytaagkbgbghleiaa
