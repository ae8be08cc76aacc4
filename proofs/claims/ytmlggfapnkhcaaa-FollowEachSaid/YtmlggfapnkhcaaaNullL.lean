/-
  null: the closure of every.
-/
import Derived.Test.YtmlggfapnkhcaaaNullK
namespace Go.Proofs.Ytmlggfapnkhcaaa
open Go.RowKit Go.Shelf

/-- What every's closure has caught: the set, in block q, and what is asked. -/
structure EvAt (Bi Bs q n fid : Nat) (s : List Bool) (w : World) : Prop where
  is_ : Holds w Bi 42 #[.slice (some ⟨q, 0, none⟩) n n]
  so : Holds w Bs 135 #[.func (.func fid) #[] #[]]
  at_ : BoolsAt w q s
  len : s.length = n
theorem EvAt.next {Bi Bs q n fid : Nat} {s : List Bool} {w w' : World} (h : EvAt Bi Bs q n fid s w) (hb : Below w.heap.size w w') : EvAt Bi Bs q n fid s w' := ⟨h.is_.below hb h.is_.lt, h.so.below hb h.so.lt, h.at_.below hb h.at_.lt, h.len⟩

set_option maxRecDepth 20000 in
set_option maxHeartbeats 8000000 in
theorem ev_Empty (p : Prod) (l1 : Value) (Bi Bs q n : Nat) (s : List Bool) (w : World) (H : EvAt Bi Bs q n 111 s w) (hq : q ≠ Bi) (hq2 : q ≠ Bs) (hR : Rd w (fun k => k < w.heap.size ∧ k ≠ q) 4 l1 p.right.length (p.right.flatMap itCells)) (hl : 0 ≤ p.left ∧ p.left < n) (hx : ∀ x, x ∈ p.right → x.rule = true → 0 ≤ x.n ∧ x.n < n) (hn : n ≤ 100000) :
    Calls Try.prog 138 #[.agg #[.int .i64 p.left, l1], .pointer (some ⟨Bi, 0, none⟩), .pointer (some ⟨Bs, 0, none⟩)] w fun r w' => r = .returned (.bool (!(atB s p.left) && p.right.all (itemSo s false))) ∧ EvAt Bi Bs q n 111 (stepG false s p) w' ∧ But q w w' := by
  have HRo := hidden (fun (w' : World) (hb : Below w.heap.size w w') => Rd.below hR hb (fun _ h => h.1))
  obtain ⟨A, c, rfl, hc1, hc2⟩ := hR.val
  have HE := hidden (fun (w' : World) (hb : Below w.heap.size w w') => H.next hb)
  have hi := H.is_.lt
  have hs := H.so.lt
  have hqq := H.at_.lt
  have y0 := H.is_.c0
  have HLn := hidden H.len
  obtain ⟨m, bb, hm, hml, hsm, z0, z1⟩ := set_bool H.at_ hl.1 (by rw [H.len]; exact hl.2)
  have hmn : m < n := by rw [← H.len]; exact hml
  have ha : atB s p.left = bb := by unfold atB; rw [hm, Int.toNat_natCast, List.getD_eq_getElem?_getD, hsm]; rfl
  have HX := hidden hx
  obtain ⟨le, ri⟩ := p
  dsimp only at *
  rw [ha]
  have HSt : Hid (bb = false → ri.all (itemSo s false) = true → stepG false s ⟨le, ri⟩ = s.set m true) := hidden (fun _ h => by unfold stepG; rw [if_pos h, hm, Int.toNat_natCast])
  have HSn : Hid (ri.all (itemSo s false) = false → stepG false s ⟨le, ri⟩ = s) := hidden (fun h => by unfold stepG; rw [if_neg (by rw [h]; decide)])
  have HSs : Hid (bb = true → stepG false s ⟨le, ri⟩ = s) := hidden (fun h => by
    unfold stepG
    split
    · rw [hm, Int.toNat_natCast]; exact set_same (by rw [hsm, h])
    · rfl)
  have HF : Hid (∀ (k : Nat) x, ri[k]? = some x → itemSo s false x = false → ri.all (itemSo s false) = false) := hidden (fun k x h1 h2 => by
    rw [Bool.eq_false_iff]; intro h; rw [List.all_eq_true] at h
    have := h x (List.mem_of_getElem? h1); rw [h2] at this; cases this)
  have HT : Hid ((∀ (k : Nat) x, k < ri.length → ri[k]? = some x → itemSo s false x = true) → ri.all (itemSo s false) = true) := hidden (fun h => by
    rw [List.all_eq_true]; intro x hx
    obtain ⟨k, hk, e⟩ := List.mem_iff_getElem.1 hx
    exact h k x hk (by rw [List.getElem?_eq_getElem hk, e]))
  generalize ri.all (itemSo s false) = al at *
  generalize stepG false s ⟨le, ri⟩ = s' at *
  have HH := hidden H
  rw [hm]
  unfold maxLen at hc2
  clear hR H hx hm hsm ha hl hml
  cases bb
  · rw [Bool.not_false, Bool.true_and]
    go_enter Try.func138, Try.ntmps138
    go_wp2
    go_loopw [15] (fun ii wr => ∃ k : Nat, k ≤ ri.length ∧ ii = .int .i64 k ∧ Hid (∀ (j : Nat) x, j < k → ri[j]? = some x → itemSo s false x = true) ∧ Below w.heap.size w wr ∧ w.heap.size + 1 ≤ wr.heap.size ∧ Hid (Holds wr w.heap.size 45 #[.int .i64 (m : Int), .slice A ri.length c])) (fun ii _ => ri.length - (intOf ii).toNat)
    case atStart => exact ⟨0, by omega, rfl, hidden (fun j x h => by omega), (by repeat (first | (with_reducible exact Below.refl _ _) | (with_reducible assumption) | (with_reducible refine Below.drew ?_) | (with_reducible refine below_drewN ?_ _) | ((with_reducible refine below_alloc ?_ ?_); (focus (first | omega | (simp; done) | (simp; omega)))) | ((with_reducible refine below_set ?_ ?_); (focus (first | omega | (simp; done) | (simp; omega)))))), by simp, hidden (by repeat (first | (with_reducible assumption) | ((with_reducible refine holds_new ?_); (focus (first | rfl | (simp; done)))) | (with_reducible refine Holds.alloc ?_ _) | (with_reducible refine Holds.drew ?_)))⟩
    case round =>
      obtain ⟨k, hk, rfl, HN, hb, hz, HP⟩ := hrel
      have HEw := hidden (HE.out _ hb)
      have u0 := HEw.out.is_.c0
      have u1 := HEw.out.so.c0
      have v0 := HP.out.c20
      clear y0 z0 z1
      by_cases hlt : k < ri.length
      · have hx := List.getElem?_eq_getElem hlt
        generalize ri[k] = x at *
        obtain ⟨b, off, rfl, hT, hat⟩ := (HRo.out _ hb).flat_at (fun _ => rfl) (by decide) hx
        have i0 : wr.cell? ⟨b, off + k * 4, none⟩ = some (.bool x.rule) := hat 0 _ rfl
        have i1 : wr.cell? ⟨b, off + k * 4 + 1, none⟩ = some (.int .i64 x.n) := hat 1 _ rfl
        have i2 : wr.cell? ⟨b, off + k * 4 + 2, none⟩ = some (.int .i64 x.gap) := hat 2 _ rfl
        have i3 : wr.cell? ⟨b, off + k * 4 + 3, none⟩ = some (.int .i64 x.in_) := hat 3 _ rfl
        have hT' : b < wr.heap.size := by have := hT.1; omega
        have hbn := hb.alloc hb.size (.cells #[.bool x.rule, .int .i64 x.n, .int .i64 x.gap, .int .i64 x.in_] 49)
        have HEn := hidden (HE.out _ hbn)
        have HQ := hidden (null_Empty1 x (.slice (some ⟨q, 0, none⟩) n n) s _ (HEn.out.at_.row (T := Old (wr.alloc (.cells #[.bool x.rule, .int .i64 x.n, .int .i64 x.gap, .int .i64 x.in_] 49))) HLn.out.symm HEn.out.at_.lt (by unfold maxLen; omega)) (fun hr => by rw [HLn.out]; exact HX.out x (List.mem_of_getElem? hx) hr))
        have HNx : Hid (itemSo s false x = true → ∀ (j : Nat) y, j < k + 1 → ri[j]? = some y → itemSo s false y = true) := hidden (fun h j y hj hy => by
          by_cases e : j = k
          · subst e; rw [hx] at hy; cases hy; exact h
          · exact HN.out j y (by omega) hy)
        have HFx := hidden (HF.out k x hx)
        have HPn := hidden (HP.out.alloc (.cells #[.bool x.rule, .int .i64 x.n, .int .i64 x.gap, .int .i64 x.in_] 49))
        have hiw := HEw.out.is_.lt
        have hsw := HEw.out.so.lt
        generalize itemSo s false x = ok at *
        clear hat hx HP HEw HEn hT
        go_wp2_with fail
        refine HQ.out.mono ?_
        rintro r w3 ⟨rfl, hb3⟩
        have hb4 := hbn.more hb3
        have hz3 : w.heap.size + 1 ≤ w3.heap.size := by have := hb3.size; simp at this; omega
        have HP3 := hidden (HPn.out.below hb3 (by simp; omega))
        clear hb3 HPn HQ hbn i0 i1 i2 i3 u0 u1 v0
        cases ok
        · have HA := hidden (HFx.out rfl)
          have HS := hidden (HSn.out HA.out)
          have HEe := hidden (HE.out _ hb4)
          clear HNx HFx HN HT HF
          go_wp2
          go_ret
          exact ⟨by rw [HA.out]; rfl, by rw [HS.out]; exact HEe.out, But.of_below hb4⟩
        · have HN2 := hidden (HNx.out rfl)
          clear HNx HFx HN
          go_wp2
          go_roundw
          case rel => exact ⟨k + 1, by omega, by go_num, HN2, hb4, hz3, HP3⟩
          case measure => simp [intOf]; omega
      · obtain rfl : k = ri.length := by omega
        have HA := hidden (HT.out (fun j x h1 h2 => HN.out j x h1 h2))
        have HS := hidden (HSt.out (by trivial) HA.out)
        have hsx := List.getElem?_eq_getElem (show m < s.length by rw [HLn.out]; exact hmn)
        have z0 := HEw.out.at_.at_ hsx
        generalize s[m]'(by rw [HLn.out]; exact hmn) = bz at *
        have z1 := HEw.out.at_.frozen m
        have HFin : Hid (EvAt Bi Bs q n 111 (s.set m true) (wr.setCell ⟨q, m, none⟩ (.bool true)) ∧ But q w (wr.setCell ⟨q, m, none⟩ (.bool true))) := hidden ⟨⟨holds_far (fun e => hq e.symm) HEw.out.is_, holds_far (fun e => hq2 e.symm) HEw.out.so, BoolsAt.set HEw.out.at_ m true, by rw [List.length_set]; exact HLn.out⟩, (But.of_below hb).set m _⟩
        have hqw := HEw.out.at_.lt
        have hiw := HEw.out.is_.lt
        clear hsx HEw HP HN HT HF HSt HSn HSs
        go_wp2
        go_ret
        exact ⟨by rw [HA.out]; rfl, by rw [HS.out]; exact HFin.out.1, HFin.out.2⟩
  · have HS := hidden (HSs.out rfl)
    go_enter Try.func138, Try.ntmps138
    go_wp2
    go_ret
    have hal := (Below.refl w.heap.size w).alloc (Nat.le_refl _) (.cells #[.int .i64 (m : Int), .slice A ri.length c] 45)
    exact ⟨rfl, by rw [HS.out]; exact HE.out _ hal, But.of_below hal⟩

end Go.Proofs.Ytmlggfapnkhcaaa
