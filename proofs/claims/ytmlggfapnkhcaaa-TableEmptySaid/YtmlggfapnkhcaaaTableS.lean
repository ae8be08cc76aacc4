/-
  TableEmpty.
-/
import Derived.Test.YtmlggfapnkhcaaaH3
import Derived.BigQuiet
import Derived.Deep.QuietTactic
namespace Go.Proofs.Ytmlggfapnkhcaaa
open Go.RowKit Go.Shelf
attribute [local simp] wide_fn

theorem take_neg {g : Gram} {r k : Nat} : ∀ z ∈ cell24 g (r : Int) (k : Int), 0 ≤ z := fun _ hz => (cell_nat (n := g.prods.length) hz).1
theorem take_want {g : Gram} (hr : rightB g = true) (hc : clash24 g = none) {r k : Nat} (h1 : r < g.rules.length) (h2 : k < g.toks.length + 1) : decide (0 ≤ take24 (table24 g) (r : Int) (k : Int)) = (holdsB ((k : Int) ∈ (all22 g).getD r []) || (atB (growsB g false) (r : Int) && holdsB ((k : Int) ∈ (fol23 g).getD r []))) := by
  rw [take_table hr hc h1 h2, Bool.eq_iff_iff, decide_eq_true_iff, headOr_neg take_neg, cell_empty hr h1, Bool.or_eq_true, Bool.and_eq_true, holdsB_iff, holdsB_iff]
theorem take_out {g : Gram} (hr : rightB g = true) (hc : clash24 g = none) : take24 (table24 g) (g.rules.length : Int) 0 = -1 ∧ take24 (table24 g) 0 ((g.toks.length : Int) + 1) = -1 := by
  constructor
  · unfold take24
    rw [if_neg (by rw [table24_len hr hc]; omega)]
  · unfold take24
    split
    · rename_i h
      have h0 : 0 < g.rules.length := by have := h.2; rw [table24_len hr hc] at this; omega
      have e : (table24 g).getD (0 : Int).toNat [] = row24 g ((0 : Nat) : Int) := by rw [List.getD_eq_getElem?_getD]; show ((table24 g)[0]?).getD [] = _; rw [table24_at hr hc h0]; rfl
      rw [e, if_neg (by rw [row24_len]; omega)]
    · rfl

set_option maxRecDepth 20000 in
set_option maxHeartbeats 16000000 in
theorem law_tableEmpty (a b c : Value) (g : Gram) (w : World) (HG : GramIs w (Old w) a b c g) (hz : Named g) :
    Calls Try.prog 10 #[.agg (gramCells a b c g)] w fun r w' => r = .returned (.bool true) ∧ Below w.heap.size w w' := by
  have F1 := hidden (fun (w' : World) (hb : Below w.heap.size w w') => law_Small a b c g w' (HG.old hb) hz)
  have C1 := hidden (fun (hs : smallB g = true) (w' : World) (hb : Below w.heap.size w w') => ref_Check a b c g w' (HG.old hb) (small_is hs hz).1.toks (small_is hs hz).1.rules (small_is hs hz).1.prods hz)
  have N1 := hidden (fun (hs : smallB g = true) (w' : World) (hb : Below w.heap.size w w') => table_Build a b c g w' (HG.old hb) (small_is hs hz).1 (smallB_iff.1 hs).2.2.1 (smallB_iff.1 hs).2.1 (smallB_iff.1 hs).2.2.2)
  have N2 := hidden (fun (hs : smallB g = true) (w' : World) (hb : Below w.heap.size w w') => ref_Empty21 a b c g w' (HG.old hb) (small_is hs hz).1)
  have N3 := hidden (fun (hs : smallB g = true) (w' : World) (hb : Below w.heap.size w w') => ref_All22 a b c g w' (HG.old hb) (small_is hs hz).1)
  have N4 := hidden (fun (hs : smallB g = true) (w' : World) (hb : Below w.heap.size w w') => ref_All23 a b c g w' (HG.old hb) (small_is hs hz).1 (small_is hs hz).2)
  have HWt := hidden (fun (hr : rightB g = true) (hc : clash24 g = none) (r k : Nat) (h1 : r < g.rules.length) (h2 : k < g.toks.length + 1) => take_want hr hc h1 h2)
  have HOu := hidden (fun (hr : rightB g = true) (hc : clash24 g = none) => take_out hr hc)
  have HEr : Hid (err24 g = if rightB g = true then (if clash24 g = none then 0 else 15) else 3) := hidden rfl
  have HTb := hidden (fun (hc : ¬ clash24 g = none) => (show table24 g = [] from by unfold table24; rw [if_neg (fun h => hc h.2)]))
  have HA2 := hidden (fun (hr : rightB g = true) => all22_len hr)
  have HA3 := hidden (fun (hr : rightB g = true) => fol23_len hr)
  have HA4 := hidden (growsB_len g false)
  have HSm := hidden (fun (h : smallB g = true) => (smallB_iff.1 h).2)
  have HGo := hidden HG.2.2
  obtain ⟨⟨A1, k1, rfl, v1, m1⟩, ⟨A2, k2, rfl, v2, m2⟩, ⟨A3, k3, rfl, v3, m3⟩⟩ := HG.vals
  have hq1 : Hid (∀ w, (Op.equalIn 10000 40 (.agg #[.int .i64 (checkOf g).kind, .int .i64 (checkOf g).at_, .int .i64 (checkOf g).more]) (.agg #[.int .i64 0, .int .i64 0, .int .i64 0])).run Try.prog w = .ok (rightB g) w) := hidden (fun w => by
    have := def_eq_run w (checkOf g) D0
    rw [right_eq] at this
    exact this)
  clear HG
  unfold gramCells defC maxLen at *
  have hstop : smallB g = false ∨ (smallB g = true ∧ rightB g = false) ∨ (smallB g = true ∧ rightB g = true) := by
    cases smallB g <;> cases rightB g <;> simp
  have hb := Below.refl w.heap.size w
  rcases hstop with hf | ⟨hf, hr⟩ | ⟨hf, hr⟩
  · rw [hf] at F1
    clear hf
    go_enter Try.func10, Try.ntmps10
    go_wp2_with fail
    refine (F1.out _ ?_).mono ?_
    · exact (by repeat (first | (with_reducible exact Below.refl _ _) | (with_reducible assumption) | (with_reducible refine Below.drew ?_) | (with_reducible refine below_drewN ?_ _) | ((with_reducible refine below_alloc ?_ ?_); (focus (first | omega | (simp; done) | (simp; omega)))) | ((with_reducible refine below_set ?_ ?_); (focus (first | omega | (simp; done) | (simp; omega))))))
    rintro r w2 ⟨rfl, hb2⟩
    have hbw : Below w.heap.size w w2 := Below.trans (by repeat (first | (with_reducible exact Below.refl _ _) | (with_reducible assumption) | (with_reducible refine Below.drew ?_) | (with_reducible refine below_drewN ?_ _) | ((with_reducible refine below_alloc ?_ ?_); (focus (first | omega | (simp; done) | (simp; omega)))) | ((with_reducible refine below_set ?_ ?_); (focus (first | omega | (simp; done) | (simp; omega)))))) (hb2.mono (by simp))
    have HB1 := hidden (Holds.below (show Holds _ w.heap.size 26 #[.slice A1 g.toks.length k1, .slice A2 g.rules.length k2, .slice A3 g.prods.length k3, .int .i64 g.start, .int .i64 g.states, .int .i64 g.text, .int .i64 g.nodes, .int .i64 g.pairs] from (by repeat (first | (with_reducible assumption) | ((with_reducible refine holds_new ?_); (focus (first | rfl | (simp; done)))) | (with_reducible refine Holds.alloc ?_ _) | (with_reducible refine Holds.drew ?_)))) hb2 (by simp))
    obtain ⟨s0, s1, s2, s3, s4, s5, s6, s7⟩ := eight22 HB1.out
    clear hb2
    go_wp2_with fail
    refine (knows24 _).mono ?_
    rintro r w3 ⟨rfl, hb3⟩
    replace hbw := hbw.more hb3
    clear hb3
    go_wp2
    go_ret
    exact ⟨rfl, hbw⟩
  · rw [hf] at F1
    replace C1 := hidden (C1.out hf)
    rw [hr] at hq1
    clear hf hr
    go_enter Try.func10, Try.ntmps10
    go_wp2_with fail
    refine (F1.out _ ?_).mono ?_
    · exact (by repeat (first | (with_reducible exact Below.refl _ _) | (with_reducible assumption) | (with_reducible refine Below.drew ?_) | (with_reducible refine below_drewN ?_ _) | ((with_reducible refine below_alloc ?_ ?_); (focus (first | omega | (simp; done) | (simp; omega)))) | ((with_reducible refine below_set ?_ ?_); (focus (first | omega | (simp; done) | (simp; omega))))))
    rintro r w2 ⟨rfl, hb2⟩
    have hbw : Below w.heap.size w w2 := Below.trans (by repeat (first | (with_reducible exact Below.refl _ _) | (with_reducible assumption) | (with_reducible refine Below.drew ?_) | (with_reducible refine below_drewN ?_ _) | ((with_reducible refine below_alloc ?_ ?_); (focus (first | omega | (simp; done) | (simp; omega)))) | ((with_reducible refine below_set ?_ ?_); (focus (first | omega | (simp; done) | (simp; omega)))))) (hb2.mono (by simp))
    have HB1 := hidden (Holds.below (show Holds _ w.heap.size 26 #[.slice A1 g.toks.length k1, .slice A2 g.rules.length k2, .slice A3 g.prods.length k3, .int .i64 g.start, .int .i64 g.states, .int .i64 g.text, .int .i64 g.nodes, .int .i64 g.pairs] from (by repeat (first | (with_reducible assumption) | ((with_reducible refine holds_new ?_); (focus (first | rfl | (simp; done)))) | (with_reducible refine Holds.alloc ?_ _) | (with_reducible refine Holds.drew ?_)))) hb2 (by simp))
    obtain ⟨s0, s1, s2, s3, s4, s5, s6, s7⟩ := eight22 HB1.out
    clear hb2
    go_wp2_with fail
    refine (C1.out _ hbw).mono ?_
    rintro r w3 ⟨rfl, hb3⟩
    replace HB1 := hidden (HB1.out.below hb3 (by have := HB1.out.lt; omega))
    replace hbw := hbw.more hb3
    have hq := hq1.out
    clear hb3 s0 s1 s2 s3 s4 s5 s6 s7 C1 F1
    go_wp2_with fail
    refine (knows24 _).mono ?_
    rintro r w3 ⟨rfl, hb3⟩
    replace hbw := hbw.more hb3
    clear hb3
    go_wp2
    go_ret
    exact ⟨rfl, hbw⟩
  · rw [hf] at F1
    replace C1 := hidden (C1.out hf)
    replace N1 := hidden (N1.out hf)
    replace N2 := hidden (N2.out hf)
    replace N3 := hidden (N3.out hf)
    replace N4 := hidden (N4.out hf)
    replace HWt := hidden (HWt.out hr)
    replace HOu := hidden (HOu.out hr)
    replace HA2 := hidden (HA2.out hr)
    replace HA3 := hidden (HA3.out hr)
    rw [hr, if_pos rfl] at HEr
    have hsm := HSm.out hf
    have hgo : growsOr g false = growsB g false := by unfold growsOr; rw [if_pos hr]
    rw [hgo] at N2
    rw [hr] at hq1
    clear hf hr HSm hgo
    generalize err24 g = er at *
    generalize table24 g = tb at *
    generalize all22 g = F2 at *
    generalize fol23 g = F3 at *
    generalize growsB g false = E at *
    go_enter Try.func10, Try.ntmps10
    go_wp2_with fail
    refine (F1.out _ ?_).mono ?_
    · exact (by repeat (first | (with_reducible exact Below.refl _ _) | (with_reducible assumption) | (with_reducible refine Below.drew ?_) | (with_reducible refine below_drewN ?_ _) | ((with_reducible refine below_alloc ?_ ?_); (focus (first | omega | (simp; done) | (simp; omega)))) | ((with_reducible refine below_set ?_ ?_); (focus (first | omega | (simp; done) | (simp; omega))))))
    rintro r w2 ⟨rfl, hb2⟩
    have hbw : Below w.heap.size w w2 := Below.trans (by repeat (first | (with_reducible exact Below.refl _ _) | (with_reducible assumption) | (with_reducible refine Below.drew ?_) | (with_reducible refine below_drewN ?_ _) | ((with_reducible refine below_alloc ?_ ?_); (focus (first | omega | (simp; done) | (simp; omega)))) | ((with_reducible refine below_set ?_ ?_); (focus (first | omega | (simp; done) | (simp; omega)))))) (hb2.mono (by simp))
    have HB1 := hidden (Holds.below (show Holds _ w.heap.size 26 #[.slice A1 g.toks.length k1, .slice A2 g.rules.length k2, .slice A3 g.prods.length k3, .int .i64 g.start, .int .i64 g.states, .int .i64 g.text, .int .i64 g.nodes, .int .i64 g.pairs] from (by repeat (first | (with_reducible assumption) | ((with_reducible refine holds_new ?_); (focus (first | rfl | (simp; done)))) | (with_reducible refine Holds.alloc ?_ _) | (with_reducible refine Holds.drew ?_)))) hb2 (by simp))
    obtain ⟨s0, s1, s2, s3, s4, s5, s6, s7⟩ := eight22 HB1.out
    clear hb2
    go_wp2_with fail
    refine (C1.out _ hbw).mono ?_
    rintro r w3 ⟨rfl, hb3⟩
    replace HB1 := hidden (HB1.out.below hb3 (by have := HB1.out.lt; omega))
    replace hbw := hbw.more hb3
    have hq := hq1.out
    clear hb3 s0 s1 s2 s3 s4 s5 s6 s7 C1 F1
    obtain ⟨s0, s1, s2, s3, s4, s5, s6, s7⟩ := eight22 HB1.out
    go_wp2_with fail
    refine (N1.out _ hbw).mono ?_
    rintro r w4 ⟨⟨u4, rfl, hu4⟩, hb4⟩
    replace HB1 := hidden (HB1.out.below hb4 HB1.out.lt)
    replace hbw := hbw.more hb4
    clear hb4 s0 s1 s2 s3 s4 s5 s6 s7 hq hq1
    obtain ⟨s0, s1, s2, s3, s4, s5, s6, s7⟩ := eight22 HB1.out
    by_cases hc : clash24 g = none
    · rw [if_pos hc] at HEr
      have HE : Hid (er = 0) := HEr
      obtain rfl := HE.out
      replace HWt := hidden (HWt.out hc)
      replace HOu := hidden (HOu.out hc)
      obtain ⟨At, ct, rfl, _, _⟩ := hu4.out.value
      have HBw := hidden hbw
      clear HTb hc HEr hbw
      go_wp2_with fail
      go_region_held3 (fun w' => w'.cell? ⟨w.heap.size, 0, none⟩ = some (.slice A1 g.toks.length k1) ∧ w'.cell? ⟨w.heap.size, 1, none⟩ = some (.slice A2 g.rules.length k2) ∧ w'.cell? ⟨w.heap.size, 2, none⟩ = some (.slice A3 g.prods.length k3) ∧ w'.cell? ⟨w.heap.size, 3, none⟩ = some (.int .i64 g.start) ∧ w'.cell? ⟨w.heap.size, 4, none⟩ = some (.int .i64 g.states) ∧ w'.cell? ⟨w.heap.size, 5, none⟩ = some (.int .i64 g.text) ∧ w'.cell? ⟨w.heap.size, 6, none⟩ = some (.int .i64 g.nodes) ∧ w'.cell? ⟨w.heap.size, 7, none⟩ = some (.int .i64 g.pairs) ∧ Below w4.heap.size w4 w')
        (first | exact ⟨s0, s1, s2, s3, s4, s5, s6, s7, Below.drew (Below.refl _ _)⟩ | (go_split_ands; exact keep_one HB1.out (by (first | assumption | exact Below.drew (Below.refl _ _) | exact Below.refl _ _)) (by assumption)))
        (first | (go_at_call 24; go_split_ands; refine (N2.out _ (HBw.out.trans (Below.mono (by (first | assumption | exact Below.drew (Below.refl _ _) | exact Below.refl _ _)) HBw.out.size))).mono ?_; rintro e w5 ⟨⟨u5, rfl, hu5⟩, hb5⟩) | (go_at_call 17; go_split_ands; refine (N3.out _ (HBw.out.trans (Below.mono (by (first | assumption | exact Below.drew (Below.refl _ _) | exact Below.refl _ _)) HBw.out.size))).mono ?_; rintro e w6 ⟨⟨u6, rfl, hu6⟩, hb6⟩) | (go_at_call 30; go_split_ands; refine (N4.out _ (HBw.out.trans (Below.mono (by (first | assumption | exact Below.drew (Below.refl _ _) | exact Below.refl _ _)) HBw.out.size))).mono ?_; rintro e w7 ⟨⟨u7, rfl, hu7⟩, hb7⟩))
      have hb47 := ((((Below.refl w4.heap.size w4).drew).more hb5).more hb6).more hb7
      have hbe := HBw.out.more hb47
      have HB7 := hidden (HB1.out.below hb47 HB1.out.lt)
      have HT7 := hidden (Recs.old hu4.out hb47)
      have H57 := hidden (Rd.old (Rd.old hu5.out hb6) hb7)
      have H67 := hidden (Recs.old hu6.out hb7)
      have H77 := hu7
      have HZ := hidden hbe
      clear hb5 hb6 hb7 hb47 hu4 hu5 hu6 hu7 s0 s1 s2 s3 s4 s5 s6 s7 hbe HB1 N2 N3 N4
      obtain ⟨A5, c5, hv5, _, _⟩ := H57.out.val
      rw [HA4.out] at hv5
      subst hv5
      obtain ⟨A6, c6, hv6, _, _⟩ := H67.out.value
      rw [HA2.out] at hv6
      subst hv6
      obtain ⟨A7, c7, hv7, _, _⟩ := H77.out.value
      rw [HA3.out] at hv7
      subst hv7
      have HTk := hidden (fun (r k : Int) => table_Take (.slice At tb.length ct) tb r k (Old w7) w7 HT7.out)
      obtain ⟨s0, s1, s2, s3, s4, s5, s6, s7⟩ := eight22 HB7.out
      have hgl := HB7.out.lt
      clear HB7
      go_wp2
      go_loopg [8] g.rules.length (fun gh ii wx => ∃ r : Nat, r ≤ g.rules.length ∧ gh = g.rules.length - r ∧ ii = .int .i64 r ∧ w7 = wx)
      case atStart => exact ⟨0, by omega, by omega, rfl, rfl⟩
      case round =>
        obtain ⟨r, hrl, rfl, rfl, rfl⟩ := hrel
        by_cases hlr : r < g.rules.length
        · have x2 := List.getElem?_eq_getElem (show r < F2.length by rw [HA2.out]; exact hlr)
          have x3 := List.getElem?_eq_getElem (show r < F3.length by rw [HA3.out]; exact hlr)
          have x4 := List.getElem?_eq_getElem (show r < E.length by rw [HA4.out]; exact hlr)
          have HWr := hidden (fun (k : Nat) (hk : k < g.toks.length + 1) => HWt.out r k hlr hk)
          rw [show F2.getD r [] = F2[r]'(by rw [HA2.out]; exact hlr) by rw [List.getD_eq_getElem?_getD, x2]; rfl, show F3.getD r [] = F3[r]'(by rw [HA3.out]; exact hlr) by rw [List.getD_eq_getElem?_getD, x3]; rfl, show atB E (r : Int) = E[r]'(by rw [HA4.out]; exact hlr) by unfold atB; rw [Int.toNat_natCast, List.getD_eq_getElem?_getD, x4]; rfl] at HWr
          generalize F2[r]'(by rw [HA2.out]; exact hlr) = l2 at *
          generalize F3[r]'(by rw [HA3.out]; exact hlr) = l3 at *
          generalize E[r]'(by rw [HA4.out]; exact hlr) = em at *
          obtain ⟨b2, o2, u2', rfl, hT2, q2, hr2⟩ := Rows2.row H67.out x2
          obtain ⟨b3, o3, u3', rfl, hT3, q3, hr3⟩ := Rows2.row H77.out x3
          obtain ⟨b4, o4, rfl, hT4, q4⟩ := row_at (show Rd w7 (Old w7) 1 (.slice A5 g.rules.length c5) g.rules.length (E.flatMap (one1 Value.bool)) from by have := H57.out; rw [HA4.out] at this; exact this) x4
          obtain ⟨A8, c8, rfl, _, _⟩ := hr2.val
          obtain ⟨A9, c9, rfl, _, _⟩ := hr3.val
          have HR2 := hidden hr2
          have HR3 := hidden hr3
          have hT2' : b2 < w7.heap.size := hT2
          have hT3' : b3 < w7.heap.size := hT3
          have hT4' : b4 < w7.heap.size := hT4
          clear x2 x3 x4 hr2 hr3 hT2 hT3 hT4
          go_wp2
          go_loopg [9] (g.toks.length + 1) (fun gh ii wx => ∃ k : Nat, k ≤ g.toks.length + 1 ∧ gh = g.toks.length + 1 - k ∧ ii = .int .i64 k ∧ w7 = wx)
          case atStart => exact ⟨0, by omega, by omega, rfl, rfl⟩
          case round =>
            obtain ⟨k, hkl, rfl, rfl, rfl⟩ := hrel
            by_cases hlk : k < g.toks.length + 1
            · have dk : decide ((k : Int) ≤ (g.toks.length : Int)) = true := decide_eq_true (by omega)
              have HWk := hidden (HWr.out k hlk)
              have HH2 := hidden (ref11_has (.slice A8 l2.length c8) l2 (k : Int) (Old w7) w7 HR2.out)
              have HH3 := hidden (ref11_has (.slice A9 l3.length c9) l3 (k : Int) (Old w7) w7 HR3.out)
              have HT1 := hidden (HTk.out (r : Int) (k : Int))
              generalize take24 tb (r : Int) (k : Int) = z at *
              generalize holdsB ((k : Int) ∈ l2) = b1 at *
              generalize holdsB ((k : Int) ∈ l3) = b2' at *
              cases b1
              · cases em
                · have hd : decide (0 ≤ z) = false := HWk.out
                  clear HWk
                  go_wp2_with fail
                  refine HH2.out.mono ?_
                  rintro e w8 ⟨rfl, rfl⟩
                  go_wp2_with fail
                  refine HT1.out.mono ?_
                  rintro e w8 ⟨rfl, rfl⟩
                  go_wp2
                  go_roundg (g.toks.length + 1 - (k + 1))
                  case measure => omega
                  case rel => exact ⟨k + 1, by omega, rfl, by go_num, rfl⟩
                · have hd : decide (0 ≤ z) = b2' := HWk.out
                  clear HWk
                  go_wp2_with fail
                  refine HH2.out.mono ?_
                  rintro e w8 ⟨rfl, rfl⟩
                  go_wp2_with fail
                  refine HH3.out.mono ?_
                  rintro e w8 ⟨rfl, rfl⟩
                  cases b2'
                  all_goals
                    go_wp2_with fail
                    refine HT1.out.mono ?_
                    rintro e w8 ⟨rfl, rfl⟩
                    go_wp2
                    go_roundg (g.toks.length + 1 - (k + 1))
                    case measure => omega
                    case rel => exact ⟨k + 1, by omega, rfl, by go_num, rfl⟩
              · have hd : decide (0 ≤ z) = true := HWk.out
                clear HWk
                go_wp2_with fail
                refine HH2.out.mono ?_
                rintro e w8 ⟨rfl, rfl⟩
                go_wp2_with fail
                refine HT1.out.mono ?_
                rintro e w8 ⟨rfl, rfl⟩
                go_wp2
                go_roundg (g.toks.length + 1 - (k + 1))
                case measure => omega
                case rel => exact ⟨k + 1, by omega, rfl, by go_num, rfl⟩
            · obtain rfl : k = g.toks.length + 1 := by omega
              have dt : decide (((g.toks.length + 1 : Nat) : Int) ≤ (g.toks.length : Int)) = false := decide_eq_false (by omega)
              have dt2 : decide ((g.toks.length : Int) + 1 ≤ (g.toks.length : Int)) = false := decide_eq_false (by omega)
              go_wp2
              go_roundg (g.rules.length - (r + 1))
              case measure => omega
              case rel => exact ⟨r + 1, by omega, rfl, by go_num, rfl⟩
        · obtain rfl : r = g.rules.length := by omega
          have HT1 := hidden (HTk.out (g.rules.length : Int) 0)
          have HT2 := hidden (HTk.out 0 ((g.toks.length : Int) + 1))
          rw [HOu.out.1] at HT1
          rw [HOu.out.2] at HT2
          have hw1 : IntKind.i64.wrap ((g.toks.length : Int) + 1) = (g.toks.length : Int) + 1 := IntWalk.i64_in _ (by omega)
          clear HWt HTk
          go_wp2_with fail
          refine HT1.out.mono ?_
          rintro e w8 ⟨rfl, rfl⟩
          go_wp2_with fail
          refine HT2.out.mono ?_
          rintro e w8 ⟨rfl, rfl⟩
          go_wp2_with fail
          refine (knows24 _).mono ?_
          rintro e w9 ⟨rfl, hb9⟩
          have hbz := HZ.out.more hb9
          clear hb9
          go_wp2
          go_ret
          exact ⟨rfl, hbz⟩
    · rw [if_neg hc] at HEr
      have HE : Hid (er = 15) := HEr
      obtain rfl := HE.out
      have HE2 := hidden (HTb.out hc)
      obtain rfl := HE2.out
      obtain ⟨At, ct, rfl, _, _⟩ := hu4.out.value
      clear HTb hc HEr HWt HOu hu4
      go_wp2_with fail
      refine (knows24 _).mono ?_
      rintro r w5 ⟨rfl, hb5⟩
      replace hbw := hbw.more hb5
      clear hb5
      go_wp2
      go_ret
      exact ⟨rfl, hbw⟩
end Go.Proofs.Ytmlggfapnkhcaaa
