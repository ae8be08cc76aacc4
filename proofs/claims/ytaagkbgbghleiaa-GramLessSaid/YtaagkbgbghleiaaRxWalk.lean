/-
  rx.walk and rx.Check.
-/
import Derived.Test.YtaagkbgbghleiaaRxCheck
namespace Go.Proofs.Ytaagkbgbghleiaa
open Go.RowKit Go.Shelf

def rxEnd : Int ⊕ Int → Int
  | .inr e => e
  | .inl p => if p = 1 then 0 else 3
theorem rxErr_end {l : List Rx} (h : ¬ 512 < l.length) : rxErr l = rxEnd (rxRun l 0) := by
  unfold rxErr
  rw [if_neg h]
  cases rxRun l 0 <;> rfl

set_option maxRecDepth 20000 in
set_option maxHeartbeats 4000000 in
theorem rx_walk (v : Value) (l : List Rx) (w : World) (h : Rd w (Old w) 5 v l.length (l.flatMap rxCells)) :
    Calls Try.prog 119 #[v] w fun r w' => (∃ p m e : Int, r = .returned (.tuple #[.int .i64 p, .int .i64 m, .int .i64 e]) ∧ Hid ((e ≠ 0 → rxErr l = e) ∧ (e = 0 → rxErr l = if p = 1 then 0 else 3))) ∧ Below w.heap.size w w' := by
  obtain ⟨A, c, rfl, hc1, hc2⟩ := h.val
  unfold maxLen at hc2
  have HR := hidden (fun w' (hb : Below w.heap.size w w') => h.old hb)
  clear h
  by_cases hl : 512 < l.length
  · have he : rxErr l = 4 := by unfold rxErr; rw [if_pos hl]
    have HE := hidden he
    clear he
    go_enter Try.func119, Try.ntmps119
    go_wp2
    go_ret3
    exact ⟨⟨_, _, _, rfl, hidden ⟨fun _ => HE.out, fun e => by simp at e⟩⟩, Below.refl _ _⟩
  · have he : Hid (rxErr l = rxEnd (rxRun l 0)) := hidden (rxErr_end hl)
    go_enter Try.func119, Try.ntmps119
    go_wp2
    go_loopw [5, 6, 16] (fun pp mm ii wr => ∃ (k : Nat) (p m : Int), k ≤ l.length ∧ pp = .int .i64 p ∧ mm = .int .i64 m ∧ ii = .int .i64 k ∧ 0 ≤ p ∧ p ≤ k ∧ Hid (rxRun l 0 = rxRun (l.drop k) p) ∧ Below w.heap.size w wr) (fun _ _ ii _ => l.length - (intOf ii).toNat)
    case atStart => exact ⟨0, 0, 0, by omega, rfl, rfl, rfl, by omega, by omega, hidden rfl, Below.refl _ _⟩
    case round =>
      obtain ⟨k, p, m, hk, rfl, rfl, rfl, hp0, hpk, HX, hb⟩ := hrel
      have hbz := hb.size
      by_cases hlt : k < l.length
      · obtain ⟨b, off, rfl, hT, hat⟩ := (HR.out _ hb).flat_at (fun _ => rfl) (by decide) (List.getElem?_eq_getElem hlt)
        have x0 := hat 0 _ rfl
        have x1 := hat 1 _ rfl
        have x2 := hat 2 _ rfl
        have x3 := hat 3 _ rfl
        have x4 := hat 4 _ rfl
        have hd : l.drop k = l[k] :: l.drop (k + 1) := List.drop_eq_getElem_cons hlt
        rw [hd] at HX
        clear hat hd
        generalize l[k] = x at *
        have y0 : wr.cell? ⟨b, off + k * 5, none⟩ = some (.int .i64 x.kind) := by simpa using x0
        obtain ⟨ha1, ha2⟩ := arity_le x.kind
        have HB1 : Hid (arity x.kind < 0 ∨ ((x.kind != 1) = true ∧ zB x = false) → rxErr l = 1) := hidden (fun h => by
          rw [he.out, HX.out, rxRun]
          have : stepBad x p = 1 := by unfold stepBad; rw [if_pos h]
          rw [this]; rfl)
        have HB3 : Hid (¬ (arity x.kind < 0 ∨ ((x.kind != 1) = true ∧ zB x = false)) → p < arity x.kind → rxErr l = 3) := hidden (fun h h2 => by
          rw [he.out, HX.out, rxRun]
          have : stepBad x p = 3 := by unfold stepBad; rw [if_neg h, if_pos h2]
          rw [this]; rfl)
        have HB0 : Hid (¬ (arity x.kind < 0 ∨ ((x.kind != 1) = true ∧ zB x = false)) → ¬ p < arity x.kind → rxRun l 0 = rxRun (l.drop (k + 1)) (p - arity x.kind + 1)) := hidden (fun h h2 => by
          have : stepBad x p = 0 := by unfold stepBad; rw [if_neg h, if_neg h2]
          rw [HX.out, rxRun, if_pos this])
        have HO := hidden (fun w' => rx_of x w')
        have HSE := hidden (fun w' => set_eq w' x.s0 x.s1 x.s2 x.s3 0 0 0 0)
        go_wp2_with fail
        refine (HO.out _).mono ?_
        rintro r w1 ⟨rfl, hbg⟩
        have hn := (Holds.new wr 103 #[.int .i64 x.kind, .int .u64 x.s0, .int .u64 x.s1, .int .u64 x.s2, .int .u64 x.s3]).below hbg (Holds.lt (Holds.new wr _ _))
        replace hb := (hb.alloc hbz _).trans (hbg.mono (hb.alloc hbz _).size)
        have z0 : w1.cell? ⟨wr.heap.size, 0, none⟩ = some (.int .i64 x.kind) := hn.cell 0
        have z1 : w1.cell? ⟨wr.heap.size, 1, none⟩ = some (.int .u64 x.s0) := hn.cell 1
        have z2 : w1.cell? ⟨wr.heap.size, 2, none⟩ = some (.int .u64 x.s1) := hn.cell 2
        have z3 : w1.cell? ⟨wr.heap.size, 3, none⟩ = some (.int .u64 x.s2) := hn.cell 3
        have z4 : w1.cell? ⟨wr.heap.size, 4, none⟩ = some (.int .u64 x.s3) := hn.cell 4
        have hse := HSE.out w1
        rw [show (x.s0 == 0 && (x.s1 == 0 && (x.s2 == 0 && x.s3 == 0))) = zB x from rfl] at hse
        clear hn hbg HSE HO x0 x1 x2 x3 x4 y0 HX he
        generalize arity x.kind = a at *
        generalize zB x = zb at *
        by_cases ha : a < 0
        · have hr := hidden (HB1.out (.inl ha))
          have hd0 : decide (0 ≤ a) = false := by simp; omega
          clear HB1 HB3 HB0
          go_wp2
          go_ret3
          exact ⟨⟨_, _, _, rfl, hidden ⟨fun _ => hr.out, fun e => by simp at e⟩⟩, hb⟩
        · have hd0 : decide (0 ≤ a) = true := by simp; omega
          have hmx : max a 0 = a := by omega
          rw [hmx]
          clear hmx
          by_cases hc : (x.kind != 1) = true ∧ zb = false
          · have hr := hidden (HB1.out (.inr hc))
            obtain ⟨hc1', hc2'⟩ := hc
            subst hc2'
            clear HB1 HB3 HB0
            go_wp2
            go_ret3
            exact ⟨⟨_, _, _, rfl, hidden ⟨fun _ => hr.out, fun e => by simp at e⟩⟩, hb⟩
          · have hn : ¬ (a < 0 ∨ ((x.kind != 1) = true ∧ zb = false)) := fun h => h.elim ha hc
            by_cases hp : p < a
            · have hr := hidden (HB3.out hn hp)
              clear HB1 HB3 HB0 hn
              cases hk1 : (x.kind != 1) <;> cases zb <;> simp [hk1] at hc
              all_goals (
                go_wp2
                go_ret3
                exact ⟨⟨_, _, _, rfl, hidden ⟨fun _ => hr.out, fun e => by simp at e⟩⟩, hb⟩)
            · have hr := hidden (HB0.out hn (by omega))
              clear HB1 HB3 HB0 hn
              cases hk1 : (x.kind != 1) <;> cases zb <;> simp [hk1] at hc
              all_goals (
                go_wp2
                exact ⟨⟨k + 1, p - a + 1, _, by omega, by go_num, rfl, by go_num, by omega, by omega, hr, hb⟩, by simp [intOf]; omega⟩)
      · obtain rfl : k = l.length := by omega
        have hx := HX.out
        rw [List.drop_length, rxRun] at hx
        have hee := he.out
        rw [hx] at hee
        have hee2 : rxErr l = if p = 1 then 0 else 3 := hee
        replace hee2 := hidden hee2
        clear hx hee HX he
        go_wp2
        go_ret3
        exact ⟨⟨_, _, _, rfl, hidden ⟨fun e => absurd rfl e, fun _ => hee2.out⟩⟩, hb⟩

set_option maxRecDepth 20000 in
set_option maxHeartbeats 4000000 in
theorem rx_check (v : Value) (l : List Rx) (w : World) (h : Rd w (Old w) 5 v l.length (l.flatMap rxCells)) :
    Calls Try.prog 107 #[v] w fun r w' => r = .returned (.int .i64 (rxErr l)) ∧ Below w.heap.size w w' := by
  have HW := hidden (rx_walk v l w h)
  obtain ⟨A, c, rfl, hc1, hc2⟩ := h.val
  clear h
  go_enter Try.func107, Try.ntmps107
  go_wp2_with fail
  refine HW.out.mono ?_
  rintro r w1 ⟨⟨p, m, e, rfl, H⟩, hb⟩
  obtain ⟨h1, h2⟩ := H.out
  clear H HW
  by_cases he : e = 0
  · subst he
    have h3 := hidden (h2 rfl)
    clear h1 h2
    by_cases hp : p = 1
    · subst hp
      go_wp2
      go_ret
      exact ⟨(by rw [h3.out, if_pos trivial]; rfl), hb⟩
    · have hp2 : (p != 1) = true := by simpa using hp
      go_wp2
      go_ret
      exact ⟨(by rw [h3.out, if_neg hp]; rfl), hb⟩
  · have h3 := hidden (h1 he)
    have he2 : (e == 0) = false := by simpa using he
    clear h1 h2
    go_wp2
    go_ret
    exact ⟨(by rw [h3.out]; rfl), hb⟩
end Go.Proofs.Ytaagkbgbghleiaa
