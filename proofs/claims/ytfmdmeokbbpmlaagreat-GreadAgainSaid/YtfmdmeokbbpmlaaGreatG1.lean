/-
  Steps of expressions, as plain data; of how many parts a step is. rx.walk, rx.Check and the reference's Check. rx.walk and rx.Check. Steps compared: the reference's Same and rx.Same. rx.Same: slices.Equal at steps. Items of productions, as plain data, and compared. Grammars as plain data, and values that read as them. facsimileref18.sameToken. What is wrong with a grammar; what names are of; which productions a rule has. Plain, no program.
-/
import Derived.Test.YtfmdmeokbbpmlaaGreatB1
import Derived.Test.YtfmdmeokbbpmlaaGreatRows
import Derived.WalkSmall
import Derived.OwnWalk
import Derived.ChangeKeysEq
namespace Go.Proofs.YtfmdmeokbbpmlaaGreat
open Go.RowKit Go.Shelf

structure Rx where
  kind : Int
  s0 : Int
  s1 : Int
  s2 : Int
  s3 : Int
def rxCells (x : Rx) : List Value := [.int .i64 x.kind, .int .u64 x.s0, .int .u64 x.s1, .int .u64 x.s2, .int .u64 x.s3]
/-- Of how many parts a kind is; -1: it is none. -/
def arity (k : Int) : Int := if k = 1 ∨ k = 2 then 0 else if k = 3 ∨ k = 4 then 2 else if k = 5 ∨ k = 6 ∨ k = 7 then 1 else -1
theorem kind_cases (k : Int) : k = 1 ∨ k = 2 ∨ k = 3 ∨ k = 4 ∨ k = 5 ∨ k = 6 ∨ k = 7 ∨ ((k == 1) = false ∧ (k == 2) = false ∧ (k == 3) = false ∧ (k == 4) = false ∧ (k == 5) = false ∧ (k == 6) = false ∧ (k == 7) = false) := by
  simp only [beq_eq_false_iff_ne]; omega

set_option maxHeartbeats 2000000 in
theorem ref_of (k : Int) (w : World) : Calls Tryz.prog 58 #[.int .i64 k] w fun r w' => r = .returned (.int .i64 (arity k)) ∧ w = w' := by
  rcases kind_cases k with rfl | rfl | rfl | rfl | rfl | rfl | rfl | ⟨h1, h2, h3, h4, h5, h6, h7⟩
  all_goals go_enter Tryz.func58, Tryz.ntmps58
  all_goals go_wp2
  all_goals go_ret
  all_goals first | exact ⟨rfl, rfl⟩ | exact ⟨by simp only [beq_eq_false_iff_ne] at h1 h2 h3 h4 h5 h6 h7; unfold arity; simp [h1, h2, h3, h4, h5, h6, h7], rfl⟩

set_option maxHeartbeats 4000000 in
theorem rx_of (x : Rx) (w : World) : Calls Tryz.prog 105 #[.agg #[.int .i64 x.kind, .int .u64 x.s0, .int .u64 x.s1, .int .u64 x.s2, .int .u64 x.s3]] w fun r w' => r = .returned (.tuple #[.int .i64 (max (arity x.kind) 0), .bool (decide (0 ≤ arity x.kind))]) ∧ Below w.heap.size w w' := by
  have hb : Below w.heap.size w (w.alloc (.cells #[.int .i64 x.kind, .int .u64 x.s0, .int .u64 x.s1, .int .u64 x.s2, .int .u64 x.s3] 103)) := (Below.refl _ _).alloc (Nat.le_refl _) _
  generalize x.kind = k at *
  rcases kind_cases k with rfl | rfl | rfl | rfl | rfl | rfl | rfl | ⟨h1, h2, h3, h4, h5, h6, h7⟩
  all_goals go_enter Tryz.func105, Tryz.ntmps105
  all_goals go_wp2
  all_goals go_ret2
  all_goals first | exact ⟨rfl, hb⟩ | exact ⟨by simp only [beq_eq_false_iff_ne] at h1 h2 h3 h4 h5 h6 h7; unfold arity; simp [h1, h2, h3, h4, h5, h6, h7] <;> omega, hb⟩
end Go.Proofs.YtfmdmeokbbpmlaaGreat

namespace Go.Proofs.YtfmdmeokbbpmlaaGreat
open Go.RowKit Go.Shelf

theorem set_eq (w : World) (a0 a1 a2 a3 b0 b1 b2 b3 : Int) : (Op.equalIn 10000 101 (.agg #[.int .u64 a0, .int .u64 a1, .int .u64 a2, .int .u64 a3]) (.agg #[.int .u64 b0, .int .u64 b1, .int .u64 b2, .int .u64 b3])).run Tryz.prog w = .ok (a0 == b0 && (a1 == b1 && (a2 == b2 && a3 == b3))) w := by
  have hu : Tryz.prog.underlying 101 = some (.array 4 99) := by kernel_rfl
  have hu0 : Tryz.prog.underlying 99 = some (.int .u64) := by kernel_rfl
  obtain ⟨i, hi⟩ := info_of_underlying hu0
  have hc : Tryz.prog.cellsOf 99 = 1 := by kernel_rfl
  rw [show (10000 : Nat) = 9999 + 1 from rfl, run_equalIn_array w 9999 _ _ hu hi, hc]
  have p0 : ∀ (a b c d : Value), (part 99 #[a, b, c, d] (0 * 1)).run Tryz.prog w = .ok a w := fun _ _ _ _ => by kernel_rfl
  have p1 : ∀ (a b c d : Value), (part 99 #[a, b, c, d] (1 * 1)).run Tryz.prog w = .ok b w := fun _ _ _ _ => by kernel_rfl
  have p2 : ∀ (a b c d : Value), (part 99 #[a, b, c, d] (2 * 1)).run Tryz.prog w = .ok c w := fun _ _ _ _ => by kernel_rfl
  have p3 : ∀ (a b c d : Value), (part 99 #[a, b, c, d] (3 * 1)).run Tryz.prog w = .ok d w := fun _ _ _ _ => by kernel_rfl
  have hr : List.range 4 = [0, 1, 2, 3] := by decide
  rw [hr]
  simp only [Op.eqItems, Sem.run_bind, p0, p1, p2, p3, Result.andThen_ok, run_equalIn_int w _ _ _ _ _ _ hu0, Sem.run_ite, Sem.run_pure]
  cases a0 == b0 <;> cases a1 == b1 <;> cases a2 == b2 <;> cases a3 == b3 <;> simp

/-- Is the set empty? -/
def zB (x : Rx) : Bool := x.s0 == 0 && (x.s1 == 0 && (x.s2 == 0 && x.s3 == 0))
/-- What is wrong with the step where so many parts are; 0: nothing. -/
def stepBad (x : Rx) (parts : Int) : Int := if arity x.kind < 0 ∨ ((x.kind != 1) = true ∧ zB x = false) then 1 else if parts < arity x.kind then 3 else 0
theorem arity_le (k : Int) : -1 ≤ arity k ∧ arity k ≤ 2 := by unfold arity; split <;> (try split) <;> (try split) <;> omega
/-- How many parts there are behind the first steps, and what is wrong first. -/
def rxRun : List Rx → Int → Int ⊕ Int
  | [], parts => .inl parts
  | x :: l, parts => if stepBad x parts = 0 then rxRun l (parts - arity x.kind + 1) else .inr (stepBad x parts)
def rxErr (l : List Rx) : Int := if 512 < l.length then 4 else match rxRun l 0 with
  | .inr e => e
  | .inl p => if p = 1 then 0 else 3

set_option maxRecDepth 20000 in
set_option maxHeartbeats 4000000 in
theorem ref07_check (v : Value) (l : List Rx) (w : World) (h : Rd w (Old w) 5 v l.length (l.flatMap rxCells)) :
    Calls Tryz.prog 35 #[v] w fun r w' => r = .returned (.int .i64 (rxErr l)) ∧ w = w' := by
  obtain ⟨A, c, rfl, hc1, hc2⟩ := h.val
  unfold maxLen at hc2
  have HR := hidden h
  clear h
  by_cases hl : 512 < l.length
  · have he : rxErr l = 4 := by unfold rxErr; rw [if_pos hl]
    rw [he]
    go_enter Tryz.func35, Tryz.ntmps35
    go_wp2
    go_ret
    exact ⟨rfl, rfl⟩
  · have he : Hid (rxErr l = match rxRun l 0 with | .inr e => e | .inl p => if p = 1 then 0 else 3) := hidden (by unfold rxErr; rw [if_neg hl])
    go_enter Tryz.func35, Tryz.ntmps35
    go_wp2
    go_loopw [3, 4] (fun pp ii wr => ∃ (k : Nat) (p : Int), k ≤ l.length ∧ pp = .int .i64 p ∧ ii = .int .i64 k ∧ 0 ≤ p ∧ p ≤ k ∧ Hid (rxRun l 0 = rxRun (l.drop k) p) ∧ w = wr) (fun _ ii _ => l.length - (intOf ii).toNat)
    case atStart => exact ⟨0, 0, by omega, rfl, rfl, by omega, by omega, hidden rfl, rfl⟩
    case round =>
      obtain ⟨k, p, hk, rfl, rfl, hp0, hpk, HX, rfl⟩ := hrel
      by_cases hlt : k < l.length
      · obtain ⟨b, off, rfl, hT, hat⟩ := HR.out.flat_at (fun _ => rfl) (by decide) (List.getElem?_eq_getElem hlt)
        have x0 := hat 0 _ rfl
        have x1 := hat 1 _ rfl
        have x2 := hat 2 _ rfl
        have x3 := hat 3 _ rfl
        have x4 := hat 4 _ rfl
        have hd : l.drop k = l[k] :: l.drop (k + 1) := List.drop_eq_getElem_cons hlt
        rw [hd] at HX
        clear hat hd
        generalize l[k] = x at *
        have y0 : w.cell? ⟨b, off + k * 5, none⟩ = some (.int .i64 x.kind) := by simpa using x0
        have hse := set_eq w x.s0 x.s1 x.s2 x.s3 0 0 0 0
        rw [show (x.s0 == 0 && (x.s1 == 0 && (x.s2 == 0 && x.s3 == 0))) = zB x from rfl] at hse
        obtain ⟨ha1, ha2⟩ := arity_le x.kind
        have hof := ref_of x.kind w
        have HB1 : Hid (arity x.kind < 0 ∨ ((x.kind != 1) = true ∧ zB x = false) → rxErr l = 1) := hidden (fun h => by
          rw [he.out, HX.out, rxRun]
          have : stepBad x p = 1 := by unfold stepBad; rw [if_pos h]
          rw [this]; rfl)
        have HB3 : Hid (¬ (arity x.kind < 0 ∨ ((x.kind != 1) = true ∧ zB x = false)) → p < arity x.kind → rxErr l = 3) := hidden (fun h h2 => by
          rw [he.out, HX.out, rxRun]
          have : stepBad x p = 3 := by unfold stepBad; rw [if_neg h, if_pos h2]
          rw [this]; rfl)
        have HB0 : Hid (¬ (arity x.kind < 0 ∨ ((x.kind != 1) = true ∧ zB x = false)) → ¬ p < arity x.kind → rxRun l 0 = rxRun (l.drop (k + 1)) (p - arity x.kind + 1)) := hidden (fun h h2 => by
          have : stepBad x p = 0 := by unfold stepBad; rw [if_neg h, if_neg h2]
          rw [HX.out, rxRun, if_pos this])
        have HO := hidden hof
        clear hof HX he
        generalize arity x.kind = a at *
        generalize zB x = zb at *
        by_cases ha : a < 0
        · have hr := hidden (HB1.out (.inl ha))
          clear HB1 HB3 HB0
          go_wp2_with fail
          refine HO.out.mono ?_
          rintro r w1 ⟨rfl, rfl⟩
          go_wp2
          go_ret
          exact ⟨(by rw [hr.out]; rfl), rfl⟩
        · by_cases hc : (x.kind != 1) = true ∧ zb = false
          · have hr := hidden (HB1.out (.inr hc))
            obtain ⟨hc1', hc2'⟩ := hc
            subst hc2'
            clear HB1 HB3 HB0
            go_wp2_with fail
            refine HO.out.mono ?_
            rintro r w1 ⟨rfl, rfl⟩
            go_wp2
            go_ret
            exact ⟨(by rw [hr.out]; rfl), rfl⟩
          · have hn : ¬ (a < 0 ∨ ((x.kind != 1) = true ∧ zb = false)) := fun h => h.elim ha hc
            by_cases hp : p < a
            · have hr := hidden (HB3.out hn hp)
              clear HB1 HB3 HB0 hn
              cases hk1 : (x.kind != 1) <;> cases zb <;> simp [hk1] at hc
              all_goals (
                go_wp2_with fail
                refine HO.out.mono ?_
                rintro r w1 ⟨rfl, rfl⟩
                go_wp2
                go_ret
                exact ⟨(by rw [hr.out]; rfl), rfl⟩)
            · have hr := hidden (HB0.out hn hp)
              clear HB1 HB3 HB0 hn
              cases hk1 : (x.kind != 1) <;> cases zb <;> simp [hk1] at hc
              all_goals (
                go_wp2_with fail
                refine HO.out.mono ?_
                rintro r w1 ⟨rfl, rfl⟩
                go_wp2
                exact ⟨⟨k + 1, p - a + 1, by omega, rfl, by go_num, by omega, by omega, hr, trivial⟩, by simp [intOf]; omega⟩)
      · obtain rfl : k = l.length := by omega
        have hx := HX.out
        rw [List.drop_length, rxRun] at hx
        have hee := he.out
        rw [hx] at hee
        have hee2 : rxErr l = if p = 1 then 0 else 3 := hee
        replace hee2 := hidden hee2
        clear hx hee HX he
        by_cases hp : p = 1
        · subst hp
          go_wp2
          go_ret
          exact ⟨(by rw [hee2.out, if_pos trivial]; rfl), rfl⟩
        · have hp2 : (p != 1) = true := by simpa using hp
          go_wp2
          go_ret
          exact ⟨(by rw [hee2.out, if_neg hp]; rfl), rfl⟩
end Go.Proofs.YtfmdmeokbbpmlaaGreat

namespace Go.Proofs.YtfmdmeokbbpmlaaGreat
open Go.RowKit Go.Shelf

def rxEnd : Int ⊕ Int → Int
  | .inr e => e
  | .inl p => if p = 1 then 0 else 3
theorem rxErr_end {l : List Rx} (h : ¬ 512 < l.length) : rxErr l = rxEnd (rxRun l 0) := by
  unfold rxErr
  rw [if_neg h]
  cases rxRun l 0 <;> rfl

set_option maxRecDepth 20000 in
set_option maxHeartbeats 4000000 in
theorem rx_walk (v : Value) (l : List Rx) (w : World) (h : Rd w (Old w) 5 v l.length (l.flatMap rxCells)) :
    Calls Tryz.prog 88 #[v] w fun r w' => (∃ p m e : Int, r = .returned (.tuple #[.int .i64 p, .int .i64 m, .int .i64 e]) ∧ Hid ((e ≠ 0 → rxErr l = e) ∧ (e = 0 → rxErr l = if p = 1 then 0 else 3))) ∧ Below w.heap.size w w' := by
  obtain ⟨A, c, rfl, hc1, hc2⟩ := h.val
  unfold maxLen at hc2
  have HR := hidden (fun w' (hb : Below w.heap.size w w') => h.old hb)
  clear h
  by_cases hl : 512 < l.length
  · have he : rxErr l = 4 := by unfold rxErr; rw [if_pos hl]
    have HE := hidden he
    clear he
    go_enter Tryz.func88, Tryz.ntmps88
    go_wp2
    go_ret3
    exact ⟨⟨_, _, _, rfl, hidden ⟨fun _ => HE.out, fun e => by simp at e⟩⟩, Below.refl _ _⟩
  · have he : Hid (rxErr l = rxEnd (rxRun l 0)) := hidden (rxErr_end hl)
    go_enter Tryz.func88, Tryz.ntmps88
    go_wp2
    go_loopw [5, 6, 16] (fun pp mm ii wr => ∃ (k : Nat) (p m : Int), k ≤ l.length ∧ pp = .int .i64 p ∧ mm = .int .i64 m ∧ ii = .int .i64 k ∧ 0 ≤ p ∧ p ≤ k ∧ Hid (rxRun l 0 = rxRun (l.drop k) p) ∧ Below w.heap.size w wr) (fun _ _ ii _ => l.length - (intOf ii).toNat)
    case atStart => exact ⟨0, 0, 0, by omega, rfl, rfl, rfl, by omega, by omega, hidden rfl, Below.refl _ _⟩
    case round =>
      obtain ⟨k, p, m, hk, rfl, rfl, rfl, hp0, hpk, HX, hb⟩ := hrel
      have hbz := hb.size
      by_cases hlt : k < l.length
      · obtain ⟨b, off, rfl, hT, hat⟩ := (HR.out _ hb).flat_at (fun _ => rfl) (by decide) (List.getElem?_eq_getElem hlt)
        have x0 := hat 0 _ rfl
        have x1 := hat 1 _ rfl
        have x2 := hat 2 _ rfl
        have x3 := hat 3 _ rfl
        have x4 := hat 4 _ rfl
        have hd : l.drop k = l[k] :: l.drop (k + 1) := List.drop_eq_getElem_cons hlt
        rw [hd] at HX
        clear hat hd
        generalize l[k] = x at *
        have y0 : wr.cell? ⟨b, off + k * 5, none⟩ = some (.int .i64 x.kind) := by simpa using x0
        obtain ⟨ha1, ha2⟩ := arity_le x.kind
        have HB1 : Hid (arity x.kind < 0 ∨ ((x.kind != 1) = true ∧ zB x = false) → rxErr l = 1) := hidden (fun h => by
          rw [he.out, HX.out, rxRun]
          have : stepBad x p = 1 := by unfold stepBad; rw [if_pos h]
          rw [this]; rfl)
        have HB3 : Hid (¬ (arity x.kind < 0 ∨ ((x.kind != 1) = true ∧ zB x = false)) → p < arity x.kind → rxErr l = 3) := hidden (fun h h2 => by
          rw [he.out, HX.out, rxRun]
          have : stepBad x p = 3 := by unfold stepBad; rw [if_neg h, if_pos h2]
          rw [this]; rfl)
        have HB0 : Hid (¬ (arity x.kind < 0 ∨ ((x.kind != 1) = true ∧ zB x = false)) → ¬ p < arity x.kind → rxRun l 0 = rxRun (l.drop (k + 1)) (p - arity x.kind + 1)) := hidden (fun h h2 => by
          have : stepBad x p = 0 := by unfold stepBad; rw [if_neg h, if_neg h2]
          rw [HX.out, rxRun, if_pos this])
        have HO := hidden (fun w' => rx_of x w')
        have HSE := hidden (fun w' => set_eq w' x.s0 x.s1 x.s2 x.s3 0 0 0 0)
        go_wp2_with fail
        refine (HO.out _).mono ?_
        rintro r w1 ⟨rfl, hbg⟩
        have hn := (Holds.new wr 103 #[.int .i64 x.kind, .int .u64 x.s0, .int .u64 x.s1, .int .u64 x.s2, .int .u64 x.s3]).below hbg (Holds.lt (Holds.new wr _ _))
        replace hb := (hb.alloc hbz _).trans (hbg.mono (hb.alloc hbz _).size)
        have z0 : w1.cell? ⟨wr.heap.size, 0, none⟩ = some (.int .i64 x.kind) := hn.cell 0
        have z1 : w1.cell? ⟨wr.heap.size, 1, none⟩ = some (.int .u64 x.s0) := hn.cell 1
        have z2 : w1.cell? ⟨wr.heap.size, 2, none⟩ = some (.int .u64 x.s1) := hn.cell 2
        have z3 : w1.cell? ⟨wr.heap.size, 3, none⟩ = some (.int .u64 x.s2) := hn.cell 3
        have z4 : w1.cell? ⟨wr.heap.size, 4, none⟩ = some (.int .u64 x.s3) := hn.cell 4
        have hse := HSE.out w1
        rw [show (x.s0 == 0 && (x.s1 == 0 && (x.s2 == 0 && x.s3 == 0))) = zB x from rfl] at hse
        clear hn hbg HSE HO x0 x1 x2 x3 x4 y0 HX he
        generalize arity x.kind = a at *
        generalize zB x = zb at *
        by_cases ha : a < 0
        · have hr := hidden (HB1.out (.inl ha))
          have hd0 : decide (0 ≤ a) = false := by simp; omega
          clear HB1 HB3 HB0
          go_wp2
          go_ret3
          exact ⟨⟨_, _, _, rfl, hidden ⟨fun _ => hr.out, fun e => by simp at e⟩⟩, hb⟩
        · have hd0 : decide (0 ≤ a) = true := by simp; omega
          have hmx : max a 0 = a := by omega
          rw [hmx]
          clear hmx
          by_cases hc : (x.kind != 1) = true ∧ zb = false
          · have hr := hidden (HB1.out (.inr hc))
            obtain ⟨hc1', hc2'⟩ := hc
            subst hc2'
            clear HB1 HB3 HB0
            go_wp2
            go_ret3
            exact ⟨⟨_, _, _, rfl, hidden ⟨fun _ => hr.out, fun e => by simp at e⟩⟩, hb⟩
          · have hn : ¬ (a < 0 ∨ ((x.kind != 1) = true ∧ zb = false)) := fun h => h.elim ha hc
            by_cases hp : p < a
            · have hr := hidden (HB3.out hn hp)
              clear HB1 HB3 HB0 hn
              cases hk1 : (x.kind != 1) <;> cases zb <;> simp [hk1] at hc
              all_goals (
                go_wp2
                go_ret3
                exact ⟨⟨_, _, _, rfl, hidden ⟨fun _ => hr.out, fun e => by simp at e⟩⟩, hb⟩)
            · have hr := hidden (HB0.out hn (by omega))
              clear HB1 HB3 HB0 hn
              cases hk1 : (x.kind != 1) <;> cases zb <;> simp [hk1] at hc
              all_goals (
                go_wp2
                exact ⟨⟨k + 1, p - a + 1, _, by omega, by go_num, rfl, by go_num, by omega, by omega, hr, hb⟩, by simp [intOf]; omega⟩)
      · obtain rfl : k = l.length := by omega
        have hx := HX.out
        rw [List.drop_length, rxRun] at hx
        have hee := he.out
        rw [hx] at hee
        have hee2 : rxErr l = if p = 1 then 0 else 3 := hee
        replace hee2 := hidden hee2
        clear hx hee HX he
        go_wp2
        go_ret3
        exact ⟨⟨_, _, _, rfl, hidden ⟨fun e => absurd rfl e, fun _ => hee2.out⟩⟩, hb⟩

set_option maxRecDepth 20000 in
set_option maxHeartbeats 4000000 in
theorem rx_check (v : Value) (l : List Rx) (w : World) (h : Rd w (Old w) 5 v l.length (l.flatMap rxCells)) :
    Calls Tryz.prog 72 #[v] w fun r w' => r = .returned (.int .i64 (rxErr l)) ∧ Below w.heap.size w w' := by
  have HW := hidden (rx_walk v l w h)
  obtain ⟨A, c, rfl, hc1, hc2⟩ := h.val
  clear h
  go_enter Tryz.func72, Tryz.ntmps72
  go_wp2_with fail
  refine HW.out.mono ?_
  rintro r w1 ⟨⟨p, m, e, rfl, H⟩, hb⟩
  obtain ⟨h1, h2⟩ := H.out
  clear H HW
  by_cases he : e = 0
  · subst he
    have h3 := hidden (h2 rfl)
    clear h1 h2
    by_cases hp : p = 1
    · subst hp
      go_wp2
      go_ret
      exact ⟨(by rw [h3.out, if_pos trivial]; rfl), hb⟩
    · have hp2 : (p != 1) = true := by simpa using hp
      go_wp2
      go_ret
      exact ⟨(by rw [h3.out, if_neg hp]; rfl), hb⟩
  · have h3 := hidden (h1 he)
    have he2 : (e == 0) = false := by simpa using he
    clear h1 h2
    go_wp2
    go_ret
    exact ⟨(by rw [h3.out]; rfl), hb⟩
end Go.Proofs.YtfmdmeokbbpmlaaGreat

namespace Go.Proofs.YtfmdmeokbbpmlaaGreat
open Go.RowKit Go.Shelf

set_option maxRecDepth 50000 in
theorem rx_eq_run (w : World) (x y : Rx) : (Op.equalIn 10000 103 (.agg #[.int .i64 x.kind, .int .u64 x.s0, .int .u64 x.s1, .int .u64 x.s2, .int .u64 x.s3]) (.agg #[.int .i64 y.kind, .int .u64 y.s0, .int .u64 y.s1, .int .u64 y.s2, .int .u64 y.s3])).run Tryz.prog w = .ok (eqB x y) w := by
  have e : eqB x y = (x.kind == y.kind && (x.s0 == y.s0 && (x.s1 == y.s1 && (x.s2 == y.s2 && x.s3 == y.s3)))) := by
    obtain ⟨a, b, c, d, f⟩ := x
    obtain ⟨a', b', c', d', f'⟩ := y
    rw [Bool.eq_iff_iff, eqB_iff]
    simp only [Rx.mk.injEq, Bool.and_eq_true, beq_iff_eq]
  rw [e, show (10000 : Nat) = 9999 + 1 from rfl, run_equalIn_agg _ _ _ _ _ (by kernel_rfl) (by kernel_rfl)]
  obtain ⟨f0, f1, hl, n0, n1, o0, o1, t0, t1⟩ : ∃ f0 f1 : Field, (Tryz.prog.fieldsOf 103).toList = [f0, f1] ∧ f0.name ≠ "_" ∧ f1.name ≠ "_" ∧ f0.offset = 0 ∧ f1.offset = 1 ∧ f0.type = 98 ∧ f1.type = 101 := ⟨_, _, rfl, by decide, by decide, rfl, rfl, rfl, rfl⟩
  have hu0 : Tryz.prog.underlying 98 = some (.int .i64) := by kernel_rfl
  rw [hl]
  simp only [Op.eqFields, n0, n1, o0, o1, t0, t1, ne_eq, not_false_eq_true, if_true]
  have p0 : ∀ (a b c d f : Value), (part 98 #[a, b, c, d, f] 0).run Tryz.prog w = .ok a w := fun _ _ _ _ _ => by kernel_rfl
  have p1 : ∀ (a b c d f : Value), (part 101 #[a, b, c, d, f] 1).run Tryz.prog w = .ok (.agg #[b, c, d, f]) w := fun _ _ _ _ _ => by kernel_rfl
  have hu : Tryz.prog.underlying 101 = some (.array 4 99) := by kernel_rfl
  have hs : ∀ d : Nat, (Op.equalIn (d + 1 + 1) 101 (.agg #[.int .u64 x.s0, .int .u64 x.s1, .int .u64 x.s2, .int .u64 x.s3]) (.agg #[.int .u64 y.s0, .int .u64 y.s1, .int .u64 y.s2, .int .u64 y.s3])).run Tryz.prog w = .ok (x.s0 == y.s0 && (x.s1 == y.s1 && (x.s2 == y.s2 && x.s3 == y.s3))) w := fun d => by
    have hu1 : Tryz.prog.underlying 99 = some (.int .u64) := by kernel_rfl
    obtain ⟨i, hi⟩ := info_of_underlying hu1
    have hc : Tryz.prog.cellsOf 99 = 1 := by kernel_rfl
    rw [run_equalIn_array w (d + 1) _ _ hu hi, hc]
    have q0 : ∀ (a b c d : Value), (part 99 #[a, b, c, d] (0 * 1)).run Tryz.prog w = .ok a w := fun _ _ _ _ => by kernel_rfl
    have q1 : ∀ (a b c d : Value), (part 99 #[a, b, c, d] (1 * 1)).run Tryz.prog w = .ok b w := fun _ _ _ _ => by kernel_rfl
    have q2 : ∀ (a b c d : Value), (part 99 #[a, b, c, d] (2 * 1)).run Tryz.prog w = .ok c w := fun _ _ _ _ => by kernel_rfl
    have q3 : ∀ (a b c d : Value), (part 99 #[a, b, c, d] (3 * 1)).run Tryz.prog w = .ok d w := fun _ _ _ _ => by kernel_rfl
    have hr : List.range 4 = [0, 1, 2, 3] := by decide
    rw [hr]
    simp only [Op.eqItems, Sem.run_bind, q0, q1, q2, q3, Result.andThen_ok, run_equalIn_int w _ _ _ _ _ _ hu1, Sem.run_ite, Sem.run_pure]
    cases x.s0 == y.s0 <;> cases x.s1 == y.s1 <;> cases x.s2 == y.s2 <;> cases x.s3 == y.s3 <;> simp
  have hs2 := hs 9997
  simp only [Sem.run_bind, p0, p1, Result.andThen_ok, run_equalIn_int w _ _ _ _ _ _ hu0, hs2, Sem.run_ite, Sem.run_pure]
  cases x.kind == y.kind <;> cases (x.s0 == y.s0 && (x.s1 == y.s1 && (x.s2 == y.s2 && x.s3 == y.s3))) <;> simp
set_option maxRecDepth 20000 in
set_option maxHeartbeats 2000000 in
theorem ref07_same (a b : Value) (L M : List Rx) (w : World) (hA : Rd w (Old w) 5 a L.length (L.flatMap rxCells)) (hB : Rd w (Old w) 5 b M.length (M.flatMap rxCells)) :
    Calls Tryz.prog 55 #[a, b] w fun r w' => r = .returned (.bool (eqB L M)) ∧ Below w.heap.size w w' := by
  obtain ⟨A, c, rfl, hc1, hc2⟩ := hA.val
  obtain ⟨A2, c2, rfl, hd1, hd2⟩ := hB.val
  unfold maxLen at hc2 hd2
  have HA := hidden hA
  have HB := hidden hB
  clear hA hB
  by_cases hlen : L.length = M.length
  · have HT : Hid ((∀ k : Nat, k < L.length → L[k]? = M[k]?) → eqB L M = true) := hidden (fun h => eqB_true (list_ext_of hlen h))
    have HF : Hid ((∃ (k : Nat) (x y : Rx), L[k]? = some x ∧ M[k]? = some y ∧ x ≠ y) → eqB L M = false) := hidden (fun ⟨k, x, y, h1, h2, h3⟩ => eqB_false fun e => by
      subst e
      rw [h1] at h2
      exact h3 (Option.some.inj h2))
    generalize eqB L M = r at *
    have HLM := hidden hlen
    have hlm : L.length ≤ M.length := by omega
    have q0 : ((L.length : Int) != (M.length : Int)) = false := by simp; omega
    clear hlen
    go_enter Tryz.func55, Tryz.ntmps55
    go_wp2
    go_loopw [5] (fun kk wr => ∃ k : Nat, k ≤ L.length ∧ kk = .int .i64 k ∧ Hid (∀ j : Nat, j < k → L[j]? = M[j]?) ∧ Below w.heap.size w wr) (fun kk _ => L.length - (intOf kk).toNat)
    case atStart => exact ⟨0, by omega, rfl, hidden (fun j h => by omega), Below.refl _ _⟩
    case round =>
      obtain ⟨k, hk, rfl, HN, hb⟩ := hrel
      by_cases hlt : k < L.length
      · have hk2 : k < M.length := by omega
        have hx := List.getElem?_eq_getElem hlt
        have hy := List.getElem?_eq_getElem hk2
        obtain ⟨b1, o1, rfl, _, hat1⟩ := (HA.out.old hb).flat_at (fun _ => rfl) (by decide) hx
        obtain ⟨b2, o2, rfl, _, hat2⟩ := (HB.out.old hb).flat_at (fun _ => rfl) (by decide) hy
        have x0 := hat1 0 _ rfl
        have x1 := hat1 1 _ rfl
        have x2 := hat1 2 _ rfl
        have x3 := hat1 3 _ rfl
        have x4 := hat1 4 _ rfl
        have y0 := hat2 0 _ rfl
        have y1 := hat2 1 _ rfl
        have y2 := hat2 2 _ rfl
        have y3 := hat2 3 _ rfl
        have y4 := hat2 4 _ rfl
        rw [Nat.add_zero] at x0 y0
        generalize L[k] = x at *
        generalize M[k] = y at *
        have HX := hidden hx
        have HY := hidden hy
        clear hx hy hat1 hat2
        have z0 := Ext.cell x0; have z1 := Ext.cell x1; have z2 := Ext.cell x2; have z3 := Ext.cell x3; have z4 := Ext.cell x4
        have v0 := Ext.cell y0; have v1 := Ext.cell y1; have v2 := Ext.cell y2; have v3 := Ext.cell y3; have v4 := Ext.cell y4
        have hq := fun w => rx_eq_run w x y
        go_wp2_with fail
        refine wp_region_ext (by kernel_rfl) (by kernel_rfl) ?_
        repeat (go_big_quiet_step (fail))
        refine wpQuiet_nil ?_
        intro w2 hb2
        clear z0 z1 z2 z3 z4 v0 v1 v2 v3 v4 hq
        clear x0 x1 x2 x3 x4 y0 y1 y2 y3 y4
        replace hb := hb.trans (hb2.mono hb.size)
        by_cases hxy : x = y
        · have HN2 : Hid (∀ j : Nat, j < k + 1 → L[j]? = M[j]?) := hidden (fun j hj => by
            by_cases e : j = k
            · subst e; rw [HX.out, HY.out, hxy]
            · exact HN.out j (by omega))
          rw [eqB_true hxy]
          clear hxy HN HX HY
          go_wp2
          go_roundw
          case rel => exact ⟨k + 1, by omega, by go_num, HN2, hb⟩
          case measure => simp [intOf]; omega
        · have HE := hidden (HF.out ⟨k, _, _, HX.out, HY.out, hxy⟩)
          rw [eqB_false hxy]
          clear hxy
          go_wp2
          go_ret
          exact ⟨by rw [HE.out]; rfl, hb⟩
      · obtain rfl : k = L.length := by omega
        have HE := hidden (HT.out HN.out)
        go_wp2
        go_ret
        exact ⟨by rw [HE.out]; rfl, hb⟩
  · have q1 : (((L.length : Nat) : Int) != (M.length : Int)) = true := by rw [bne_iff_ne]; omega
    have HE : Hid (eqB L M = false) := hidden (eqB_false (by
      intro e; rw [e] at hlen; exact hlen rfl))
    generalize eqB L M = r at *
    clear hlen
    go_enter Tryz.func55, Tryz.ntmps55
    go_wp2
    go_ret
    exact ⟨by rw [HE.out]; rfl, Below.refl _ _⟩
end Go.Proofs.YtfmdmeokbbpmlaaGreat

namespace Go.Proofs.YtfmdmeokbbpmlaaGreat
open Go.RowKit Go.Shelf

end Go.Proofs.YtfmdmeokbbpmlaaGreat

namespace Go.Proofs.YtfmdmeokbbpmlaaGreat
open Go.RowKit Go.Shelf

structure Item where
  rule : Bool
  n : Int
  gap : Int
  in_ : Int
def itCells (x : Item) : List Value := [.bool x.rule, .int .i64 x.n, .int .i64 x.gap, .int .i64 x.in_]
set_option maxRecDepth 50000 in
theorem it_eq_run (w : World) (x y : Item) : (Op.equalIn 10000 47 (.agg #[.bool x.rule, .int .i64 x.n, .int .i64 x.gap, .int .i64 x.in_]) (.agg #[.bool y.rule, .int .i64 y.n, .int .i64 y.gap, .int .i64 y.in_])).run Tryz.prog w = .ok (eqB x y) w := by
  have e : eqB x y = (x.rule == y.rule && (x.n == y.n && (x.gap == y.gap && x.in_ == y.in_))) := by
    obtain ⟨a, b, c, d⟩ := x
    obtain ⟨a', b', c', d'⟩ := y
    rw [Bool.eq_iff_iff, eqB_iff]
    simp only [Item.mk.injEq, Bool.and_eq_true, beq_iff_eq]
  rw [e, show (10000 : Nat) = 9999 + 1 from rfl, run_equalIn_agg _ _ _ _ _ (by kernel_rfl) (by kernel_rfl)]
  obtain ⟨f0, f1, f2, f3, hl, n0, n1, n2, n3, o0, o1, o2, o3, t0, t1, t2, t3⟩ : ∃ f0 f1 f2 f3 : Field, (Tryz.prog.fieldsOf 47).toList = [f0, f1, f2, f3] ∧ f0.name ≠ "_" ∧ f1.name ≠ "_" ∧ f2.name ≠ "_" ∧ f3.name ≠ "_" ∧ f0.offset = 0 ∧ f1.offset = 1 ∧ f2.offset = 2 ∧ f3.offset = 3 ∧ f0.type = 4 ∧ f1.type = 3 ∧ f2.type = 45 ∧ f3.type = 3 := ⟨_, _, _, _, rfl, by decide, by decide, by decide, by decide, rfl, rfl, rfl, rfl, rfl, rfl, rfl, rfl⟩
  have hu0 : Tryz.prog.underlying 4 = some .bool := by kernel_rfl
  have hu1 : Tryz.prog.underlying 3 = some (.int .i64) := by kernel_rfl
  have hu2 : Tryz.prog.underlying 45 = some (.int .i64) := by kernel_rfl
  rw [hl]
  simp only [Op.eqFields, n0, n1, n2, n3, o0, o1, o2, o3, t0, t1, t2, t3, ne_eq, not_false_eq_true, if_true]
  have p0 : ∀ (a b c d : Value), (part 4 #[a, b, c, d] 0).run Tryz.prog w = .ok a w := fun _ _ _ _ => by kernel_rfl
  have p1 : ∀ (a b c d : Value), (part 3 #[a, b, c, d] 1).run Tryz.prog w = .ok b w := fun _ _ _ _ => by kernel_rfl
  have p2 : ∀ (a b c d : Value), (part 45 #[a, b, c, d] 2).run Tryz.prog w = .ok c w := fun _ _ _ _ => by kernel_rfl
  have p3 : ∀ (a b c d : Value), (part 3 #[a, b, c, d] 3).run Tryz.prog w = .ok d w := fun _ _ _ _ => by kernel_rfl
  simp only [Sem.run_bind, p0, p1, p2, p3, Result.andThen_ok, run_equalIn_bool' w _ _ _ _ hu0, run_equalIn_int w _ _ _ _ _ _ hu1, run_equalIn_int w _ _ _ _ _ _ hu2, Sem.run_ite, Sem.run_pure]
  cases x.rule == y.rule <;> cases x.n == y.n <;> cases x.gap == y.gap <;> cases x.in_ == y.in_ <;> simp

end Go.Proofs.YtfmdmeokbbpmlaaGreat

namespace Go.Proofs.YtfmdmeokbbpmlaaGreat
open Go.RowKit Go.Shelf

structure Token where
  name : ByteArray
  rex : List Rx
  cls : Int
structure Prod where
  left : Int
  right : List Item
structure Gram where
  toks : List Token
  rules : List ByteArray
  prods : List Prod
  start : Int
  states : Int
  text : Int
  nodes : Int
  pairs : Int

def tokR : Rec Token where
  k := 3
  cells x l := [.string x.name, l, .int .i64 x.cls]
  len _ _ := rfl
  pos := by decide
  kin := 5
  m x := x.rex.length
  inner x := x.rex.flatMap rxCells
  one x l h := by
    intro u hu
    simp only [List.mem_cons, List.not_mem_nil, or_false] at hu
    rcases hu with rfl | rfl | rfl <;> first | rfl | exact h
def prodR : Rec Prod where
  k := 2
  cells x l := [.int .i64 x.left, l]
  len _ _ := rfl
  pos := by decide
  kin := 4
  m x := x.right.length
  inner x := x.right.flatMap itCells
  one x l h := by
    intro u hu
    simp only [List.mem_cons, List.not_mem_nil, or_false] at hu
    rcases hu with rfl | rfl <;> first | rfl | exact h

/-- The slices a, b, c read as the tokens, rules' names and productions of g. -/
def GramIs (w : World) (T : Nat → Prop) (a b c : Value) (g : Gram) : Prop := Recs tokR w T a g.toks ∧ Strs w T b g.rules ∧ Recs prodR w T c g.prods
/-- A grammar by value: its cells. -/
def gramCells (a b c : Value) (g : Gram) : Array Value := #[a, b, c, .int .i64 g.start, .int .i64 g.states, .int .i64 g.text, .int .i64 g.nodes, .int .i64 g.pairs]
end Go.Proofs.YtfmdmeokbbpmlaaGreat

namespace Go.Proofs.YtfmdmeokbbpmlaaGreat
open Go.RowKit Go.Shelf

set_option maxRecDepth 20000 in
set_option maxHeartbeats 2000000 in
theorem ref_sameToken (x y : Token) (l1 l2 : Value) (w : World) (h1 : Rd w (Old w) 5 l1 x.rex.length (x.rex.flatMap rxCells)) (h2 : Rd w (Old w) 5 l2 y.rex.length (y.rex.flatMap rxCells)) :
    Calls Tryz.prog 24 #[.agg #[.string x.name, l1, .int .i64 x.cls], .agg #[.string y.name, l2, .int .i64 y.cls]] w fun r w' => r = .returned (.bool (eqB x y)) ∧ Below w.heap.size w w' := by
  obtain ⟨n1, r1, c1⟩ := x
  obtain ⟨n2, r2, c2⟩ := y
  dsimp only at h1 h2 ⊢
  have hal : Below w.heap.size w ((w.alloc (.cells #[.string n1, l1, .int .i64 c1] 42)).alloc (.cells #[.string n2, l2, .int .i64 c2] 42)) := ((Below.refl _ _).alloc (Nat.le_refl _) _).alloc (by simp) _
  have HS := hidden (ref07_same l1 l2 r1 r2 _ (h1.old hal) (h2.old hal))
  have HE : Hid (eqB (⟨n1, r1, c1⟩ : Token) ⟨n2, r2, c2⟩ = (eqB n1 n2 && (c1 == c2 && eqB r1 r2))) := hidden (by
    rw [Bool.eq_iff_iff, eqB_iff]
    simp only [Token.mk.injEq, Bool.and_eq_true, beq_iff_eq, eqB_iff]
    exact ⟨fun h => ⟨h.1, h.2.2, h.2.1⟩, fun h => ⟨h.1, h.2.2, h.2.1⟩⟩)
  obtain ⟨A1, k1, rfl, _, _⟩ := h1.val
  obtain ⟨A2, k2, rfl, _, _⟩ := h2.val
  have hsq := strs_eql n1 n2
  generalize eqB r1 r2 = er at *
  generalize eqB n1 n2 = en at *
  clear h1 h2
  cases en
  · go_enter Tryz.func24, Tryz.ntmps24
    go_wp2
    go_ret
    exact ⟨by rw [HE.out]; rfl, hal⟩
  · cases hc : (c1 == c2)
    · rw [hc] at HE
      go_enter Tryz.func24, Tryz.ntmps24
      go_wp2
      go_ret
      exact ⟨by rw [HE.out]; rfl, hal⟩
    · rw [hc] at HE
      go_enter Tryz.func24, Tryz.ntmps24
      go_wp2_with fail
      refine HS.out.mono ?_
      rintro r w1 ⟨rfl, hb⟩
      go_wp2
      go_ret
      exact ⟨by rw [HE.out]; simp, hal.trans (hb.mono hal.size)⟩
end Go.Proofs.YtfmdmeokbbpmlaaGreat

namespace Go.Proofs.YtfmdmeokbbpmlaaGreat
open Go.RowKit Go.Shelf

structure Defect where
  kind : Int
  at_ : Int
  more : Int
def D0 : Defect := ⟨0, 0, 0⟩
def orD (a b : Defect) : Defect := if a.kind = 0 then b else a
/-- The first that is something, of n from k on. -/
def firstD (f : Nat → Defect) : Nat → Nat → Defect
  | _, 0 => D0
  | k, n + 1 => orD (f k) (firstD f (k + 1) n)
def Clean (f : Nat → Defect) : Prop := ∀ k, (f k).kind = 0 → f k = D0

theorem orD_zero {a b : Defect} (h : a.kind = 0) : orD a b = b := by unfold orD; rw [if_pos h]
theorem orD_some {a b : Defect} (h : a.kind ≠ 0) : orD a b = a := by unfold orD; rw [if_neg h]
theorem orD_kind {a b : Defect} : (orD a b).kind = 0 ↔ a.kind = 0 ∧ b.kind = 0 := by
  unfold orD
  by_cases h : a.kind = 0 <;> simp [h]
theorem orD_D0 {b : Defect} : orD D0 b = b := orD_zero rfl
theorem orD_right {a : Defect} (h : a.kind = 0 → a = D0) : orD a D0 = a := by
  unfold orD
  by_cases e : a.kind = 0
  · rw [if_pos e, h e]
  · rw [if_neg e]
theorem firstD_hit {f : Nat → Defect} : ∀ (n k j : Nat), j < n → (f (k + j)).kind ≠ 0 → (∀ m, m < j → (f (k + m)).kind = 0) → firstD f k n = f (k + j) := by
  intro n
  induction n with
  | zero => intro k j h; omega
  | succ n ih =>
    intro k j h hp hn
    unfold firstD
    cases j with
    | zero => rw [orD_some (show (f k).kind ≠ 0 from hp)]; rfl
    | succ j =>
      rw [orD_zero (show (f k).kind = 0 from hn 0 (by omega)), ih (k + 1) j (by omega) (by rw [show k + 1 + j = k + (j + 1) by omega]; exact hp) (fun m hm => by
        have := hn (m + 1) (by omega)
        rwa [show k + 1 + m = k + (m + 1) by omega])]
      rw [show k + 1 + j = k + (j + 1) by omega]
theorem firstD_miss {f : Nat → Defect} : ∀ (n k : Nat), (∀ m, m < n → (f (k + m)).kind = 0) → firstD f k n = D0 := by
  intro n
  induction n with
  | zero => intro k _; rfl
  | succ n ih =>
    intro k hn
    unfold firstD
    rw [orD_zero (show (f k).kind = 0 from hn 0 (by omega))]
    exact ih (k + 1) (fun m hm => by
      have := hn (m + 1) (by omega)
      rwa [show k + 1 + m = k + (m + 1) by omega])
theorem firstD_kind {f : Nat → Defect} : ∀ (n k : Nat), (firstD f k n).kind = 0 ↔ ∀ m, m < n → (f (k + m)).kind = 0 := by
  intro n
  induction n with
  | zero => intro k; exact ⟨fun _ m h => by omega, fun _ => rfl⟩
  | succ n ih =>
    intro k
    unfold firstD
    rw [orD_kind, ih]
    constructor
    · rintro ⟨h1, h2⟩ m hm
      cases m with
      | zero => exact h1
      | succ m => have := h2 m (by omega); rwa [show k + 1 + m = k + (m + 1) by omega] at this
    · intro h
      exact ⟨h 0 (by omega), fun m hm => by have := h (m + 1) (by omega); rwa [show k + 1 + m = k + (m + 1) by omega]⟩
theorem firstD_clean {f : Nat → Defect} (n k : Nat) : (firstD f k n).kind = 0 → firstD f k n = D0 := by
  intro h
  exact firstD_miss n k ((firstD_kind n k).1 h)

theorem first0_hit {f : Nat → Defect} {n j : Nat} (h : j < n) (hp : (f j).kind ≠ 0) (hn : ∀ m, m < j → (f m).kind = 0) : firstD f 0 n = f j := by
  have := firstD_hit (f := f) n 0 j h (by rwa [Nat.zero_add]) (fun m hm => by rw [Nat.zero_add]; exact hn m hm)
  rwa [Nat.zero_add] at this
theorem first0_miss {f : Nat → Defect} {n : Nat} (hn : ∀ m, m < n → (f m).kind = 0) : firstD f 0 n = D0 := firstD_miss n 0 (fun m hm => by rw [Nat.zero_add]; exact hn m hm)
theorem first0_kind {f : Nat → Defect} {n : Nat} : (firstD f 0 n).kind = 0 ↔ ∀ m, m < n → (f m).kind = 0 := by
  rw [firstD_kind]
  simp

def tokNames (g : Gram) : List ByteArray := g.toks.map (·.name)
def allNames (g : Gram) : List ByteArray := tokNames g ++ g.rules
def sizesOf (g : Gram) : Defect :=
  if 64 < g.toks.length then ⟨4, 0, 0⟩ else if 64 < g.rules.length then ⟨4, 1, 0⟩ else if 256 < g.prods.length then ⟨4, 2, 0⟩
  else if g.states < 1 ∨ 4096 < g.states then ⟨2, 0, 0⟩ else if g.text < 0 ∨ 65536 < g.text then ⟨2, 1, 0⟩
  else if g.nodes < 1 ∨ 65536 < g.nodes then ⟨2, 2, 0⟩ else if g.pairs < 1 ∨ 1048576 < g.pairs then ⟨2, 3, 0⟩ else D0
noncomputable def nameErr (s : ByteArray) (ahead : List ByteArray) : Int := if nameB s = false then 7 else if holdsB (s ∈ ahead) = true then 8 else 0
noncomputable def tokErr (g : Gram) (i : Nat) (t : Token) : Defect :=
  let e := nameErr t.name ((allNames g).take i)
  if e ≠ 0 then ⟨e, i, 0⟩ else if rxErr t.rex ≠ 0 then ⟨9, i, rxErr t.rex⟩ else if t.cls < 0 ∨ 3 < t.cls then ⟨1, i, 0⟩ else D0
noncomputable def tokD (g : Gram) (i : Nat) : Defect := match g.toks[i]? with
  | some t => tokErr g i t
  | none => D0
noncomputable def ruleD (g : Gram) (i : Nat) : Defect := match g.rules[i]? with
  | some s => if nameErr s ((allNames g).take (g.toks.length + i)) ≠ 0 then ⟨nameErr s ((allNames g).take (g.toks.length + i)), i, 0⟩ else D0
  | none => D0
def clsAt (g : Gram) (n : Int) : Int := match g.toks[n.toNat]? with
  | some t => t.cls
  | none => 0
def itemErr (g : Gram) (x : Item) : Int :=
  if x.n < 0 ∨ (if x.rule then (g.rules.length : Int) else g.toks.length) ≤ x.n then 11 else if x.rule = false ∧ clsAt g x.n ≠ 0 then 12
  else if x.gap < 0 ∨ 2 < x.gap ∨ x.in_ < 0 ∨ 8 < x.in_ then 2 else 0
def itemD (g : Gram) (i : Nat) (r : List Item) (k : Nat) : Defect := match r[k]? with
  | some x => if itemErr g x ≠ 0 then ⟨itemErr g x, i, (k : Int) + 1⟩ else D0
  | none => D0
def prodErr (g : Gram) (i : Nat) (p : Prod) : Defect :=
  if p.left < 0 ∨ (g.rules.length : Int) ≤ p.left then ⟨11, i, 0⟩ else if 16 < p.right.length then ⟨4, i, 0⟩ else firstD (itemD g i p.right) 0 p.right.length
def prodD (g : Gram) (i : Nat) : Defect := match g.prods[i]? with
  | some p => prodErr g i p
  | none => D0
def isOf (g : Gram) (r : Int) (i : Nat) : Bool := match g.prods[i]? with
  | some p => p.left == r
  | none => false
/-- The productions of a rule, of the first k. -/
def ofUpto (g : Gram) (r : Int) (k : Nat) : List Int := ((List.range k).filter (isOf g r)).map (fun (i : Nat) => (i : Int))
def ofRule (g : Gram) (r : Int) : List Int := ofUpto g r g.prods.length
theorem ofUpto_snoc {g : Gram} {r : Int} {k : Nat} {p : Prod} (h : g.prods[k]? = some p) : ofUpto g r (k + 1) = if (p.left == r) = true then ofUpto g r k ++ [(k : Int)] else ofUpto g r k := by
  unfold ofUpto
  rw [List.range_succ, List.filter_append]
  have : isOf g r k = (p.left == r) := by unfold isOf; rw [h]
  cases hb : p.left == r
  · rw [hb] at this; simp [this]
  · rw [hb] at this; simp [this]
theorem ofUpto_len (g : Gram) (r : Int) (k : Nat) : (ofUpto g r k).length ≤ k := by
  unfold ofUpto
  have := List.length_filter_le (isOf g r) (List.range k)
  rw [List.length_range] at this
  rwa [List.length_map]
def noneD (g : Gram) (i : Nat) : Defect := if (ofRule g i).length = 0 then ⟨5, i, 0⟩ else D0
def startD (g : Gram) : Defect := if g.start < 0 ∨ (g.rules.length : Int) ≤ g.start then ⟨11, -1, 0⟩ else D0
def wholeD (g : Gram) : Defect := orD (startD g) (firstD (noneD g) 0 g.rules.length)
noncomputable def checkOf (g : Gram) : Defect :=
  orD (sizesOf g) (orD (firstD (tokD g) 0 g.toks.length) (orD (firstD (ruleD g) 0 g.rules.length) (orD (firstD (prodD g) 0 g.prods.length) (wholeD g))))
noncomputable def rightB (g : Gram) : Bool := decide ((checkOf g).kind = 0)

theorem sizes_clean (g : Gram) : (sizesOf g).kind = 0 → sizesOf g = D0 := by
  unfold sizesOf
  repeat' split
  all_goals first | (intro h; simp at h; done) | (intro _; rfl)
theorem start_clean (g : Gram) : (startD g).kind = 0 → startD g = D0 := by
  unfold startD
  split <;> simp
theorem whole_clean (g : Gram) : (wholeD g).kind = 0 → wholeD g = D0 := by
  unfold wholeD
  intro h
  obtain ⟨h1, h2⟩ := orD_kind.1 h
  rw [orD_zero h1, firstD_clean _ _ h2]
theorem check_clean (g : Gram) : (checkOf g).kind = 0 → checkOf g = D0 := by
  unfold checkOf
  intro h
  obtain ⟨h1, h2⟩ := orD_kind.1 h
  obtain ⟨h3, h4⟩ := orD_kind.1 h2
  obtain ⟨h5, h6⟩ := orD_kind.1 h4
  obtain ⟨h7, h8⟩ := orD_kind.1 h6
  rw [orD_zero h1, orD_zero h3, orD_zero h5, orD_zero h7, whole_clean _ h8]
theorem tok_clean (g : Gram) (i : Nat) : (tokD g i).kind = 0 → tokD g i = D0 := by
  unfold tokD tokErr
  cases g.toks[i]? with
  | none => intro _; rfl
  | some t =>
    dsimp only
    split
    · intro h; exact absurd h (by assumption)
    · split
      · intro h; simp at h
      · split
        · intro h; simp at h
        · intro _; rfl
theorem rule_clean (g : Gram) (i : Nat) : (ruleD g i).kind = 0 → ruleD g i = D0 := by
  unfold ruleD
  cases g.rules[i]? with
  | none => intro _; rfl
  | some t =>
    dsimp only
    split
    · intro h; exact absurd h (by assumption)
    · intro _; rfl
theorem prod_clean (g : Gram) (i : Nat) : (prodD g i).kind = 0 → prodD g i = D0 := by
  unfold prodD prodErr
  cases g.prods[i]? with
  | none => intro _; rfl
  | some t =>
    dsimp only
    split
    · intro h; simp at h
    · split
      · intro h; simp at h
      · exact firstD_clean _ _
/-- Where a name stands among all: as a token's, or a rule's. -/
noncomputable def findTok (g : Gram) (s : ByteArray) : Int := findOf (tokNames g) s
noncomputable def isRule (g : Gram) (s : ByteArray) : Bool := decide (findOf (tokNames g) s < 0) && decide (0 ≤ findOf g.rules s)
noncomputable def findNo (g : Gram) (s : ByteArray) : Int := if 0 ≤ findOf (tokNames g) s then findOf (tokNames g) s else findOf g.rules s
theorem find_append {α : Type} (l m : List α) (s : α) : findOf (l ++ m) s = if 0 ≤ findOf l s then findOf l s else if 0 ≤ findOf m s then l.length + findOf m s else -1 := by
  rcases first_cases (fun k => l[k]? = some s) l.length with ⟨h1, h2⟩ | ⟨j, h1, h2, h3, h4⟩
  · have e1 : findOf l s = -1 := h1
    rw [e1, if_neg (by omega)]
    rcases first_cases (fun k => m[k]? = some s) m.length with ⟨g1, g2⟩ | ⟨j, g1, g2, g3, g4⟩
    · have e2 : findOf m s = -1 := g1
      rw [e2, if_neg (by omega)]
      refine find_miss (fun i hi => ?_)
      rcases Nat.lt_or_ge i l.length with hl | hl
      · rw [List.getElem?_append_left hl]; exact h2 i hl
      · rw [List.getElem?_append_right hl]; exact g2 _ (by rw [List.length_append] at hi; omega)
    · have e2 : findOf m s = (j : Int) := g2
      rw [e2, if_pos (by omega)]
      have := find_hit (l := l ++ m) (s := s) (j := l.length + j) (by rw [List.getElem?_append_right (by omega), Nat.add_sub_cancel_left]; exact g3) (fun i hi => by
        rcases Nat.lt_or_ge i l.length with hl | hl
        · rw [List.getElem?_append_left hl]; exact h2 i hl
        · rw [List.getElem?_append_right hl]; exact g4 _ (by omega))
      rw [this]; omega
  · have e1 : findOf l s = (j : Int) := h2
    rw [e1, if_pos (by omega)]
    exact find_hit (by rw [List.getElem?_append_left h1]; exact h3) (fun i hi => by rw [List.getElem?_append_left (by omega)]; exact h4 i hi)
end Go.Proofs.YtfmdmeokbbpmlaaGreat
