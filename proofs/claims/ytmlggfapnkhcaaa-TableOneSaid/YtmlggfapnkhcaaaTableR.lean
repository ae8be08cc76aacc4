/-
  TableOne.
-/
import Derived.Test.YtmlggfapnkhcaaaH3
import Derived.BigQuiet
import Derived.Deep.QuietTactic
namespace Go.Proofs.Ytmlggfapnkhcaaa
open Go.RowKit Go.Shelf
attribute [local simp] wide_fn

theorem one_take {g : Gram} (hr : rightB g = true) (hc : clash24 g = none) {r k : Nat} (h1 : r < g.rules.length) (h2 : k < g.toks.length + 1) : (cell24 g (r : Int) (k : Int) = [] ∧ take24 (table24 g) (r : Int) (k : Int) = -1) ∨ ∃ z, cell24 g (r : Int) (k : Int) = [z] ∧ take24 (table24 g) (r : Int) (k : Int) = z := by
  have e := take_table hr hc h1 h2
  have h := clash_none hr hc ((r : Int), (k : Int))
  unfold two24 at h
  have h := of_decide_eq_false h
  match hl : cell24 g (r : Int) (k : Int) with
  | [] => left; rw [hl] at e; exact ⟨rfl, e⟩
  | [z] => right; rw [hl] at e; exact ⟨z, rfl, e⟩
  | z :: y :: l => simp only [hl] at h; simp at h

set_option maxRecDepth 20000 in
set_option maxHeartbeats 16000000 in
theorem law_tableOne (a b c : Value) (g : Gram) (w : World) (HG : GramIs w (Old w) a b c g) (hz : Named g) :
    Calls Try.prog 12 #[.agg (gramCells a b c g)] w fun r w' => r = .returned (.bool true) ∧ Below w.heap.size w w' := by
  have F1 := hidden (fun (w' : World) (hb : Below w.heap.size w w') => law_Small a b c g w' (HG.old hb) hz)
  have C1 := hidden (fun (hs : smallB g = true) (w' : World) (hb : Below w.heap.size w w') => ref_Check a b c g w' (HG.old hb) (small_is hs hz).1.toks (small_is hs hz).1.rules (small_is hs hz).1.prods hz)
  have N1 := hidden (fun (hs : smallB g = true) (w' : World) (hb : Below w.heap.size w w') => table_Build a b c g w' (HG.old hb) (small_is hs hz).1 (smallB_iff.1 hs).2.2.1 (smallB_iff.1 hs).2.1 (smallB_iff.1 hs).2.2.2)
  have N2 := hidden (fun (hs : smallB g = true) (w' : World) (hb : Below w.heap.size w w') (i : Int) => table_Predict a b c g i w' (HG.old hb) (small_is hs hz).1)
  have HPa := hidden (fun (hr : rightB g = true) (i : Nat) (p : Prod) (h : g.prods[i]? = some p) => predN_at hr h)
  have HOt := hidden (fun (hr : rightB g = true) (hc : clash24 g = none) (r k : Nat) (h1 : r < g.rules.length) (h2 : k < g.toks.length + 1) => one_take hr hc h1 h2)
  have HTl := hidden (fun (hr : rightB g = true) (hc : clash24 g = none) => table24_len hr hc)
  have HEr : Hid (err24 g = if rightB g = true then (if clash24 g = none then 0 else 15) else 3) := hidden rfl
  have HCt := hidden (fun (hr : rightB g = true) (hc : clash24 g ≠ none) => (show ∃ a b : Nat, a < g.rules.length ∧ b < g.toks.length + 1 ∧ 2 ≤ (cell24 g (a : Int) (b : Int)).length from by
    obtain ⟨q, hq⟩ := Option.ne_none_iff_exists'.1 hc
    have h2 := clash_two hq
    have hin := mem_pairs.1 (two_in hr h2)
    refine ⟨q.1.toNat, q.2.toNat, by omega, by omega, ?_⟩
    rw [show ((q.1.toNat : Nat) : Int) = q.1 by omega, show ((q.2.toNat : Nat) : Int) = q.2 by omega]
    exact of_decide_eq_true h2))
  have HLn := hidden (fun (i : Nat) (r t : Int) => cellTo_len g r t i)
  have HS := hidden (fun (i : Nat) (p : Prod) (h : g.prods[i]? = some p) (r t : Int) hn => cellTo_same h (r := r) (t := t) hn)
  have HMo := hidden (fun (i : Nat) (p : Prod) (h : g.prods[i]? = some p) (r t : Int) h1 h2 => cellTo_more h (r := r) (t := t) h1 h2)
  have HSm := hidden (fun (h : smallB g = true) => (smallB_iff.1 h).2)
  have HGo := hidden HG.2.2
  obtain ⟨⟨A1, k1, rfl, v1, m1⟩, ⟨A2, k2, rfl, v2, m2⟩, ⟨A3, k3, rfl, v3, m3⟩⟩ := HG.vals
  have hq1 : Hid (∀ w, (Op.equalIn 10000 40 (.agg #[.int .i64 (checkOf g).kind, .int .i64 (checkOf g).at_, .int .i64 (checkOf g).more]) (.agg #[.int .i64 0, .int .i64 0, .int .i64 0])).run Try.prog w = .ok (rightB g) w) := hidden (fun w => by
    have := def_eq_run w (checkOf g) D0
    rw [right_eq] at this
    exact this)
  clear HG
  unfold gramCells defC maxLen at *
  have hstop : smallB g = false ∨ (smallB g = true ∧ rightB g = false) ∨ (smallB g = true ∧ rightB g = true) := by
    cases smallB g <;> cases rightB g <;> simp
  have hb := Below.refl w.heap.size w
  rcases hstop with hf | ⟨hf, hr⟩ | ⟨hf, hr⟩
  · rw [hf] at F1
    clear hf
    go_enter Try.func12, Try.ntmps12
    go_wp2_with fail
    refine (F1.out _ ?_).mono ?_
    · exact (by repeat (first | (with_reducible exact Below.refl _ _) | (with_reducible assumption) | (with_reducible refine Below.drew ?_) | (with_reducible refine below_drewN ?_ _) | ((with_reducible refine below_alloc ?_ ?_); (focus (first | omega | (simp; done) | (simp; omega)))) | ((with_reducible refine below_set ?_ ?_); (focus (first | omega | (simp; done) | (simp; omega))))))
    rintro r w2 ⟨rfl, hb2⟩
    have hbw : Below w.heap.size w w2 := Below.trans (by repeat (first | (with_reducible exact Below.refl _ _) | (with_reducible assumption) | (with_reducible refine Below.drew ?_) | (with_reducible refine below_drewN ?_ _) | ((with_reducible refine below_alloc ?_ ?_); (focus (first | omega | (simp; done) | (simp; omega)))) | ((with_reducible refine below_set ?_ ?_); (focus (first | omega | (simp; done) | (simp; omega)))))) (hb2.mono (by simp))
    have HB1 := hidden (Holds.below (show Holds _ w.heap.size 26 #[.slice A1 g.toks.length k1, .slice A2 g.rules.length k2, .slice A3 g.prods.length k3, .int .i64 g.start, .int .i64 g.states, .int .i64 g.text, .int .i64 g.nodes, .int .i64 g.pairs] from (by repeat (first | (with_reducible assumption) | ((with_reducible refine holds_new ?_); (focus (first | rfl | (simp; done)))) | (with_reducible refine Holds.alloc ?_ _) | (with_reducible refine Holds.drew ?_)))) hb2 (by simp))
    obtain ⟨s0, s1, s2, s3, s4, s5, s6, s7⟩ := eight22 HB1.out
    clear hb2
    go_wp2_with fail
    refine (knows24 _).mono ?_
    rintro r w3 ⟨rfl, hb3⟩
    replace hbw := hbw.more hb3
    clear hb3
    go_wp2
    go_ret
    exact ⟨rfl, hbw⟩
  · rw [hf] at F1
    replace C1 := hidden (C1.out hf)
    rw [hr] at hq1
    clear hf hr
    go_enter Try.func12, Try.ntmps12
    go_wp2_with fail
    refine (F1.out _ ?_).mono ?_
    · exact (by repeat (first | (with_reducible exact Below.refl _ _) | (with_reducible assumption) | (with_reducible refine Below.drew ?_) | (with_reducible refine below_drewN ?_ _) | ((with_reducible refine below_alloc ?_ ?_); (focus (first | omega | (simp; done) | (simp; omega)))) | ((with_reducible refine below_set ?_ ?_); (focus (first | omega | (simp; done) | (simp; omega))))))
    rintro r w2 ⟨rfl, hb2⟩
    have hbw : Below w.heap.size w w2 := Below.trans (by repeat (first | (with_reducible exact Below.refl _ _) | (with_reducible assumption) | (with_reducible refine Below.drew ?_) | (with_reducible refine below_drewN ?_ _) | ((with_reducible refine below_alloc ?_ ?_); (focus (first | omega | (simp; done) | (simp; omega)))) | ((with_reducible refine below_set ?_ ?_); (focus (first | omega | (simp; done) | (simp; omega)))))) (hb2.mono (by simp))
    have HB1 := hidden (Holds.below (show Holds _ w.heap.size 26 #[.slice A1 g.toks.length k1, .slice A2 g.rules.length k2, .slice A3 g.prods.length k3, .int .i64 g.start, .int .i64 g.states, .int .i64 g.text, .int .i64 g.nodes, .int .i64 g.pairs] from (by repeat (first | (with_reducible assumption) | ((with_reducible refine holds_new ?_); (focus (first | rfl | (simp; done)))) | (with_reducible refine Holds.alloc ?_ _) | (with_reducible refine Holds.drew ?_)))) hb2 (by simp))
    obtain ⟨s0, s1, s2, s3, s4, s5, s6, s7⟩ := eight22 HB1.out
    clear hb2
    go_wp2_with fail
    refine (C1.out _ hbw).mono ?_
    rintro r w3 ⟨rfl, hb3⟩
    replace HB1 := hidden (HB1.out.below hb3 (by have := HB1.out.lt; omega))
    replace hbw := hbw.more hb3
    have hq := hq1.out
    clear hb3 s0 s1 s2 s3 s4 s5 s6 s7 C1 F1
    go_wp2_with fail
    refine (knows24 _).mono ?_
    rintro r w3 ⟨rfl, hb3⟩
    replace hbw := hbw.more hb3
    clear hb3
    go_wp2
    go_ret
    exact ⟨rfl, hbw⟩
  · rw [hf] at F1
    replace C1 := hidden (C1.out hf)
    replace N1 := hidden (N1.out hf)
    replace N2 := hidden (N2.out hf)
    replace HPa := hidden (HPa.out hr)
    replace HOt := hidden (HOt.out hr)
    replace HTl := hidden (HTl.out hr)
    replace HCt := hidden (HCt.out hr)
    rw [hr, if_pos rfl] at HEr
    have hsm := HSm.out hf
    rw [hr] at hq1
    clear hf hr HSm
    generalize err24 g = er at *
    generalize table24 g = tb at *
    go_enter Try.func12, Try.ntmps12
    go_wp2_with fail
    refine (F1.out _ ?_).mono ?_
    · exact (by repeat (first | (with_reducible exact Below.refl _ _) | (with_reducible assumption) | (with_reducible refine Below.drew ?_) | (with_reducible refine below_drewN ?_ _) | ((with_reducible refine below_alloc ?_ ?_); (focus (first | omega | (simp; done) | (simp; omega)))) | ((with_reducible refine below_set ?_ ?_); (focus (first | omega | (simp; done) | (simp; omega))))))
    rintro r w2 ⟨rfl, hb2⟩
    have hbw : Below w.heap.size w w2 := Below.trans (by repeat (first | (with_reducible exact Below.refl _ _) | (with_reducible assumption) | (with_reducible refine Below.drew ?_) | (with_reducible refine below_drewN ?_ _) | ((with_reducible refine below_alloc ?_ ?_); (focus (first | omega | (simp; done) | (simp; omega)))) | ((with_reducible refine below_set ?_ ?_); (focus (first | omega | (simp; done) | (simp; omega)))))) (hb2.mono (by simp))
    have HB1 := hidden (Holds.below (show Holds _ w.heap.size 26 #[.slice A1 g.toks.length k1, .slice A2 g.rules.length k2, .slice A3 g.prods.length k3, .int .i64 g.start, .int .i64 g.states, .int .i64 g.text, .int .i64 g.nodes, .int .i64 g.pairs] from (by repeat (first | (with_reducible assumption) | ((with_reducible refine holds_new ?_); (focus (first | rfl | (simp; done)))) | (with_reducible refine Holds.alloc ?_ _) | (with_reducible refine Holds.drew ?_)))) hb2 (by simp))
    obtain ⟨s0, s1, s2, s3, s4, s5, s6, s7⟩ := eight22 HB1.out
    clear hb2
    go_wp2_with fail
    refine (C1.out _ hbw).mono ?_
    rintro r w3 ⟨rfl, hb3⟩
    replace HB1 := hidden (HB1.out.below hb3 (by have := HB1.out.lt; omega))
    replace hbw := hbw.more hb3
    have hq := hq1.out
    clear hb3 s0 s1 s2 s3 s4 s5 s6 s7 C1 F1
    obtain ⟨s0, s1, s2, s3, s4, s5, s6, s7⟩ := eight22 HB1.out
    go_wp2_with fail
    refine (N1.out _ hbw).mono ?_
    rintro r w4 ⟨⟨u4, rfl, hu4⟩, hb4⟩
    replace HB1 := hidden (HB1.out.below hb4 HB1.out.lt)
    replace hbw := hbw.more hb4
    obtain ⟨At, ct, rfl, _, _⟩ := hu4.out.value
    have HTo := hidden (fun (wx : World) (hb : Below w4.heap.size w4 wx) => Recs.old hu4.out hb)
    have HBo := hidden (fun (wx : World) (hb : Below w4.heap.size w4 wx) => HB1.out.below hb HB1.out.lt)
    have HWo := hidden (fun (wx : World) (hb : Below w4.heap.size w4 wx) => hbw.more hb)
    have h00 := HB1.out.lt
    clear hb4 s0 s1 s2 s3 s4 s5 s6 s7 hq hq1 hu4 N1
    obtain ⟨s0, s1, s2, s3, s4, s5, s6, s7⟩ := eight22 HB1.out
    clear HB1 hbw
    by_cases hc : clash24 g = none
    · rw [if_pos hc] at HEr
      have HE : Hid (er = 0) := HEr
      obtain rfl := HE.out
      replace HOt := hidden (HOt.out hc)
      have HTn := hidden (HTl.out hc)
      clear HTl HCt hc HEr
      go_wp2
      clear s0 s1 s2 s3 s4 s5 s6 s7
      go_loopg [5, 6] g.rules.length (fun gh tw ii wx => ∃ (r : Nat) (tb_ : Bool), r ≤ g.rules.length ∧ gh = g.rules.length - r ∧ ii = .int .i64 r ∧ tw = .bool tb_ ∧ Hid (tb_ = false) ∧ Hid (Below w4.heap.size w4 wx))
      case atStart => exact ⟨0, false, by omega, by omega, rfl, rfl, hidden (rfl), hidden (Below.refl _ _)⟩
      case round =>
        obtain ⟨r, tw, hrl, rfl, rfl, rfl, HI, hbx⟩ := hrel
        obtain ⟨s0, s1, s2, s3, s4, s5, s6, s7⟩ := eight22 (HBo.out _ hbx.out)
        have hgl := Nat.lt_of_lt_of_le h00 hbx.out.size
        by_cases hlr : r < g.rules.length
        · have HI2 : Hid (tw = false) := hidden (HI.out)
          clear HI
          go_wp2
          clear s0 s1 s2 s3 s4 s5 s6 s7 hgl
          go_loopg [5, 7] (g.toks.length + 1) (fun gh tw ii wx => ∃ (k : Nat) (tb_ : Bool), k ≤ g.toks.length + 1 ∧ gh = g.toks.length + 1 - k ∧ ii = .int .i64 k ∧ tw = .bool tb_ ∧ Hid (tb_ = false) ∧ Hid (Below w4.heap.size w4 wx))
          case atStart => exact ⟨0, tw, by omega, by omega, rfl, rfl, HI2, hbx⟩
          case round =>
            clear HI2 hbx
            obtain ⟨k, tw, hkl, rfl, rfl, rfl, HI, hbx⟩ := hrel
            obtain ⟨s0, s1, s2, s3, s4, s5, s6, s7⟩ := eight22 (HBo.out _ hbx.out)
            have hgl := Nat.lt_of_lt_of_le h00 hbx.out.size
            by_cases hlk : k < g.toks.length + 1
            · have dk : decide ((k : Int) ≤ (g.toks.length : Int)) = true := decide_eq_true (by omega)
              have dk2 : decide (k ≤ g.toks.length) = true := decide_eq_true (by omega)
              have dk3 : (k ≤ g.toks.length) = True := eq_true (by omega)
              have hal := below_new wr (.cells #[] 3)
              have HM0 : Hid (IntsM (wr.alloc (.cells #[] 3)) wr.heap.size (.slice (some ⟨wr.heap.size, 0, none⟩) 0 0) (cellTo g 0 (r : Int) (k : Int))) := hidden (Mine.fresh_nil _ _ _ _ _)
              have hb0 := hidden hal
              have hbz := hbx.out.size
              clear hal
              obtain ⟨B0, hB0⟩ : ∃ B0, B0 = wr.heap.size := ⟨_, rfl⟩
              have HW0 := hidden (hbx.out.more (below_new wr (.cells #[] 3)))
              rw [← hB0] at HM0 hbz
              have hz0 : B0 ≤ (wr.alloc (.cells #[] 3)).heap.size := by rw [hB0]; simp
              clear hbx hb0
              go_upto_region 12 with fail
              rw [← hB0]
              clear s0 s1 s2 s3 s4 s5 s6 s7 hB0 hgl
              generalize wr.alloc (.cells #[] 3) = w6 at *
              go_wp2
              go_loopg [8, 9] g.prods.length (fun gh vv ii wx => ∃ p : Nat, p ≤ g.prods.length ∧ gh = g.prods.length - p ∧ ii = .int .i64 p ∧ Hid (IntsM wx B0 vv (cellTo g p (r : Int) (k : Int))) ∧ Hid (Below w4.heap.size w4 wx) ∧ B0 ≤ wx.heap.size)
              case atStart => exact ⟨0, by omega, by omega, rfl, HM0, HW0, hz0⟩
              case round =>
                clear HM0 HW0 hz0
                obtain ⟨i, hil, rfl, rfl, HL, hbx, hzx⟩ := hrel
                have HG6 := hidden (HBo.out _ hbx.out)
                obtain ⟨s0, s1, s2, s3, s4, s5, s6, s7⟩ := eight22 HG6.out
                have hgl := HG6.out.lt
                have hbw := HWo.out _ hbx.out
                by_cases hip : i < g.prods.length
                · have hx := List.getElem?_eq_getElem hip
                  generalize g.prods[i] = p at *
                  have HSi := hidden (HS.out i p hx (r : Int) (k : Int))
                  have HMi := hidden (HMo.out i p hx (r : Int) (k : Int))
                  have HPi := hidden (HPa.out i p hx)
                  have hli := HLn.out i (r : Int) (k : Int)
                  obtain ⟨b1, o1, l1, rfl, hT, hat, -⟩ := HGo.out.at_ hx
                  have hT2 : b1 < w.heap.size := hT
                  have hT' : b1 < wr.heap.size := Nat.lt_of_lt_of_le hT2 hbw.size
                  have y0 : wr.cell? ⟨b1, o1 + i * 2, none⟩ = some (.int .i64 p.left) := (hbw.cell (p := ⟨b1, o1 + i * 2, none⟩) hT2).trans (hat 0 _ rfl)
                  obtain ⟨Al, cl, rfl⟩ := HL.out.value
                  have HC := hidden (N2.out _ hbw (i : Int))
                  rw [HPi.out] at HC
                  by_cases hpl : p.left = (r : Int)
                  · have HMj := hidden (HMi.out hpl)
                    have HSj := hidden (fun h => HSi.out (.inr h))
                    rw [hpl] at y0
                    clear hat hx hT hT2 hbw HSi HMi HPi hpl HG6
                    go_wp2_with fail
                    refine HC.out.mono ?_
                    rintro e w7 ⟨⟨u7, rfl, hu7⟩, hb7⟩
                    have HH := hidden (ref11_has u7 (predP g p) (k : Int) (Old w7) w7 (hu7.out.mono (fun _ h => h.2)))
                    have HL7 := hidden (Mine.below HL.out hb7)
                    have hbx7 := hidden (hbx.out.more hb7)
                    have hz7 := Nat.le_trans hzx hb7.size
                    obtain ⟨A7, c7, rfl, _, _⟩ := hu7.out.val
                    clear HC hb7 hu7 HL hbx hzx s0 s1 s2 s3 s4 s5 s6 s7 y0 hT'
                    generalize holdsB ((k : Int) ∈ predP g p) = hh at *
                    go_wp2_with fail
                    refine HH.out.mono ?_
                    rintro e w8 ⟨rfl, rfl⟩
                    clear HH
                    cases hh
                    · have HLk : Hid (IntsM w7 B0 (.slice Al (cellTo g i (r : Int) (k : Int)).length cl) (cellTo g (i + 1) (r : Int) (k : Int))) := hidden (by rw [HSj.out rfl]; exact HL7.out)
                      clear HL7 HMj HSj
                      go_wp2
                      go_roundg (g.prods.length - (i + 1))
                      case measure => omega
                      case rel => exact ⟨i + 1, by omega, rfl, by go_num, HLk, hbx7, hz7⟩
                    · have HE := hidden (HMj.out rfl)
                      clear HMj HSj
                      go_wp2_with (at_builtin; refine wpList_append_i rfl _ _ rfl B0 _ _ HL7 (i : Int) rfl rfl rfl (by first | rfl | simp) (by omega) (by omega) ?_; intro v' w' hA hb2 hK)
                      rw [← HE.out] at hA
                      have hbn := hidden (hbx7.out.trans (hb2.mono hbz))
                      have hzn := Nat.le_trans hz7 hb2.size
                      clear HL7 hb2 hK hbx7
                      go_roundg (g.prods.length - (i + 1))
                      case measure => omega
                      case rel => exact ⟨i + 1, by omega, rfl, by go_num, hA, hbn, hzn⟩
                  · have hd : (p.left == (r : Int)) = false := by simpa using hpl
                    have HLk : Hid (IntsM wr B0 (.slice Al (cellTo g i (r : Int) (k : Int)).length cl) (cellTo g (i + 1) (r : Int) (k : Int))) := hidden (by rw [HSi.out (.inl hpl)]; exact HL.out)
                    clear HL HMi HSi hpl hat hx hT hT2 hbw HC HPi HG6
                    go_wp2
                    go_roundg (g.prods.length - (i + 1))
                    case measure => omega
                    case rel => exact ⟨i + 1, by omega, rfl, by go_num, HLk, hbx, hzx⟩
                · obtain rfl : i = g.prods.length := by omega
                  have HLc : Hid (IntsM wr B0 _ (cell24 g (r : Int) (k : Int))) := HL
                  have hl30 : (cell24 g (r : Int) (k : Int)).length ≤ g.prods.length := HLn.out g.prods.length (r : Int) (k : Int)
                  have HRd := hidden (RowM.rd HLc.out)
                  obtain ⟨Al, cl, rfl⟩ := HLc.out.value
                  clear HL HLc hbw HG6
                  obtain rfl := HI.out
                  have HO := hidden (HOt.out r k hlr hlk)
                  have HTx := hidden (HTo.out _ hbx.out)
                  rcases HO.out with ⟨h0, hzt⟩ | ⟨z, h0, hzt⟩
                  · have hl : (cell24 g (r : Int) (k : Int)).length = 0 := by rw [h0]; rfl
                    have HZt := hidden hzt
                    clear HRd hzt HO HI
                    have e1 : decide ((1 : Int) < ((cell24 g (r : Int) (k : Int)).length : Int)) = false := decide_eq_false (by omega)
                    have e2 : (((cell24 g (r : Int) (k : Int)).length : Int) == 1) = false := by rw [hl]; rfl
                    have e3 : (((cell24 g (r : Int) (k : Int)).length : Int) == 0) = true := by rw [hl]; rfl
                    generalize (cell24 g (r : Int) (k : Int)).length = nl at *
                    clear hl h0
                    have HTw := hidden (fun (n : Nat) => (table_Take (.slice At tb.length ct) tb (r : Int) (k : Int) (Old wr) (wr.drewN n) (show Rows2 (wr.drewN n) (Old wr) (.slice At tb.length ct) tb from HTx.out)).mono (fun e w' h => (show e = .returned (.int .i64 (-1)) ∧ w' = wr.drewN n from ⟨h.1.trans (by rw [HZt.out]), h.2.symm⟩)))
                    clear HTx HZt
                    go_wp2_with fail
                    go_quiet ((go_at_call 53; exact Calls.quiet_of_same (HTw.out _)))
                    go_wp2
                    go_roundg (g.toks.length + 1 - (k + 1))
                    case measure => omega
                    case rel => exact ⟨k + 1, _, by omega, rfl, by go_num, rfl, hidden rfl, hidden (below_drewN hbx.out _)⟩
                  · have hl : (cell24 g (r : Int) (k : Int)).length = 1 := by rw [h0]; rfl
                    have HZt := hidden hzt
                    obtain ⟨gb, go_, rfl, hgT, x1'⟩ := row_at HRd.out (show (cell24 g (r : Int) (k : Int))[0]? = some z by rw [h0]; rfl)
                    have x1 : wr.cell? ⟨gb, go_, none⟩ = some (.int .i64 z) := by rw [Nat.add_zero] at x1'; exact x1'
                    have hgT' : gb < wr.heap.size := hgT
                    clear HRd hzt HO HI x1' hgT
                    have e0 : (0 : Int) < ((cell24 g (r : Int) (k : Int)).length : Int) := by omega
                    have e1 : decide ((1 : Int) < ((cell24 g (r : Int) (k : Int)).length : Int)) = false := decide_eq_false (by omega)
                    have e2 : (((cell24 g (r : Int) (k : Int)).length : Int) == 1) = true := by rw [hl]; rfl
                    have e3 : (((cell24 g (r : Int) (k : Int)).length : Int) == 0) = false := by rw [hl]; rfl
                    have e4 : (z == z) = true := by simp
                    generalize (cell24 g (r : Int) (k : Int)).length = nl at *
                    clear hl h0
                    have HTw := hidden (fun (n : Nat) => (table_Take (.slice At tb.length ct) tb (r : Int) (k : Int) (Old wr) (wr.drewN n) (show Rows2 (wr.drewN n) (Old wr) (.slice At tb.length ct) tb from HTx.out)).mono (fun e w' h => (show e = .returned (.int .i64 z) ∧ w' = wr.drewN n from ⟨h.1.trans (by rw [HZt.out]), h.2.symm⟩)))
                    clear HTx HZt
                    go_wp2_with fail
                    go_quiet ((go_at_call 53; exact Calls.quiet_of_same (HTw.out _)))
                    go_wp2
                    go_roundg (g.toks.length + 1 - (k + 1))
                    case measure => omega
                    case rel => exact ⟨k + 1, _, by omega, rfl, by go_num, rfl, hidden rfl, hidden (below_drewN hbx.out _)⟩
            · obtain rfl : k = g.toks.length + 1 := by omega
              have dt : decide (((g.toks.length + 1 : Nat) : Int) ≤ (g.toks.length : Int)) = false := decide_eq_false (by omega)
              have dt2 : decide ((g.toks.length : Int) + 1 ≤ (g.toks.length : Int)) = false := decide_eq_false (by omega)
              have HIn : Hid (tw = false) := hidden (HI.out)
              clear HI
              go_wp2
              go_roundg (g.rules.length - (r + 1))
              case measure => omega
              case rel => exact ⟨r + 1, tw, by omega, rfl, by go_num, rfl, HIn, hbx⟩
        · obtain rfl : r = g.rules.length := by omega
          obtain rfl := HI.out
          have q1 : ((tb.length : Int) == (g.rules.length : Int)) = true := by rw [HTn.out]; simp
          have HBe := hidden (HWo.out _ hbx.out)
          clear hbx HI
          go_wp2_with fail
          refine (knows24 _).mono ?_
          rintro e w9 ⟨rfl, hb9⟩
          have hbz := HBe.out.more hb9
          clear hb9
          go_wp2
          go_ret
          exact ⟨rfl, hbz⟩
    · rw [if_neg hc] at HEr
      have HE : Hid (er = 15) := HEr
      obtain rfl := HE.out
      have HCx := hidden (HCt.out hc)
      clear HTl HCt hc HEr HOt
      go_wp2
      clear s0 s1 s2 s3 s4 s5 s6 s7
      go_loopg [5, 6] g.rules.length (fun gh tw ii wx => ∃ (r : Nat) (tb_ : Bool), r ≤ g.rules.length ∧ gh = g.rules.length - r ∧ ii = .int .i64 r ∧ tw = .bool tb_ ∧ Hid (∀ x y : Nat, x < r → y < g.toks.length + 1 → 2 ≤ (cell24 g (x : Int) (y : Int)).length → tb_ = true) ∧ Hid (Below w4.heap.size w4 wx))
      case atStart => exact ⟨0, false, by omega, by omega, rfl, rfl, hidden (fun x y h => by omega), hidden (Below.refl _ _)⟩
      case round =>
        obtain ⟨r, tw, hrl, rfl, rfl, rfl, HI, hbx⟩ := hrel
        obtain ⟨s0, s1, s2, s3, s4, s5, s6, s7⟩ := eight22 (HBo.out _ hbx.out)
        have hgl := Nat.lt_of_lt_of_le h00 hbx.out.size
        by_cases hlr : r < g.rules.length
        · have HI2 : Hid ((∀ x y : Nat, x < r → y < g.toks.length + 1 → 2 ≤ (cell24 g (x : Int) (y : Int)).length → tw = true) ∧ ∀ y : Nat, y < 0 → 2 ≤ (cell24 g (r : Int) (y : Int)).length → tw = true) := hidden (⟨HI.out, fun y h => by omega⟩)
          clear HI
          go_wp2
          clear s0 s1 s2 s3 s4 s5 s6 s7 hgl
          go_loopg [5, 7] (g.toks.length + 1) (fun gh tw ii wx => ∃ (k : Nat) (tb_ : Bool), k ≤ g.toks.length + 1 ∧ gh = g.toks.length + 1 - k ∧ ii = .int .i64 k ∧ tw = .bool tb_ ∧ Hid ((∀ x y : Nat, x < r → y < g.toks.length + 1 → 2 ≤ (cell24 g (x : Int) (y : Int)).length → tb_ = true) ∧ ∀ y : Nat, y < k → 2 ≤ (cell24 g (r : Int) (y : Int)).length → tb_ = true) ∧ Hid (Below w4.heap.size w4 wx))
          case atStart => exact ⟨0, tw, by omega, by omega, rfl, rfl, HI2, hbx⟩
          case round =>
            clear HI2 hbx
            obtain ⟨k, tw, hkl, rfl, rfl, rfl, HI, hbx⟩ := hrel
            obtain ⟨s0, s1, s2, s3, s4, s5, s6, s7⟩ := eight22 (HBo.out _ hbx.out)
            have hgl := Nat.lt_of_lt_of_le h00 hbx.out.size
            by_cases hlk : k < g.toks.length + 1
            · have dk : decide ((k : Int) ≤ (g.toks.length : Int)) = true := decide_eq_true (by omega)
              have dk2 : decide (k ≤ g.toks.length) = true := decide_eq_true (by omega)
              have dk3 : (k ≤ g.toks.length) = True := eq_true (by omega)
              have hal := below_new wr (.cells #[] 3)
              have HM0 : Hid (IntsM (wr.alloc (.cells #[] 3)) wr.heap.size (.slice (some ⟨wr.heap.size, 0, none⟩) 0 0) (cellTo g 0 (r : Int) (k : Int))) := hidden (Mine.fresh_nil _ _ _ _ _)
              have hb0 := hidden hal
              have hbz := hbx.out.size
              clear hal
              obtain ⟨B0, hB0⟩ : ∃ B0, B0 = wr.heap.size := ⟨_, rfl⟩
              have HW0 := hidden (hbx.out.more (below_new wr (.cells #[] 3)))
              rw [← hB0] at HM0 hbz
              have hz0 : B0 ≤ (wr.alloc (.cells #[] 3)).heap.size := by rw [hB0]; simp
              clear hbx hb0
              go_upto_region 12 with fail
              rw [← hB0]
              clear s0 s1 s2 s3 s4 s5 s6 s7 hB0 hgl
              generalize wr.alloc (.cells #[] 3) = w6 at *
              go_wp2
              go_loopg [8, 9] g.prods.length (fun gh vv ii wx => ∃ p : Nat, p ≤ g.prods.length ∧ gh = g.prods.length - p ∧ ii = .int .i64 p ∧ Hid (IntsM wx B0 vv (cellTo g p (r : Int) (k : Int))) ∧ Hid (Below w4.heap.size w4 wx) ∧ B0 ≤ wx.heap.size)
              case atStart => exact ⟨0, by omega, by omega, rfl, HM0, HW0, hz0⟩
              case round =>
                clear HM0 HW0 hz0
                obtain ⟨i, hil, rfl, rfl, HL, hbx, hzx⟩ := hrel
                have HG6 := hidden (HBo.out _ hbx.out)
                obtain ⟨s0, s1, s2, s3, s4, s5, s6, s7⟩ := eight22 HG6.out
                have hgl := HG6.out.lt
                have hbw := HWo.out _ hbx.out
                by_cases hip : i < g.prods.length
                · have hx := List.getElem?_eq_getElem hip
                  generalize g.prods[i] = p at *
                  have HSi := hidden (HS.out i p hx (r : Int) (k : Int))
                  have HMi := hidden (HMo.out i p hx (r : Int) (k : Int))
                  have HPi := hidden (HPa.out i p hx)
                  have hli := HLn.out i (r : Int) (k : Int)
                  obtain ⟨b1, o1, l1, rfl, hT, hat, -⟩ := HGo.out.at_ hx
                  have hT2 : b1 < w.heap.size := hT
                  have hT' : b1 < wr.heap.size := Nat.lt_of_lt_of_le hT2 hbw.size
                  have y0 : wr.cell? ⟨b1, o1 + i * 2, none⟩ = some (.int .i64 p.left) := (hbw.cell (p := ⟨b1, o1 + i * 2, none⟩) hT2).trans (hat 0 _ rfl)
                  obtain ⟨Al, cl, rfl⟩ := HL.out.value
                  have HC := hidden (N2.out _ hbw (i : Int))
                  rw [HPi.out] at HC
                  by_cases hpl : p.left = (r : Int)
                  · have HMj := hidden (HMi.out hpl)
                    have HSj := hidden (fun h => HSi.out (.inr h))
                    rw [hpl] at y0
                    clear hat hx hT hT2 hbw HSi HMi HPi hpl HG6
                    go_wp2_with fail
                    refine HC.out.mono ?_
                    rintro e w7 ⟨⟨u7, rfl, hu7⟩, hb7⟩
                    have HH := hidden (ref11_has u7 (predP g p) (k : Int) (Old w7) w7 (hu7.out.mono (fun _ h => h.2)))
                    have HL7 := hidden (Mine.below HL.out hb7)
                    have hbx7 := hidden (hbx.out.more hb7)
                    have hz7 := Nat.le_trans hzx hb7.size
                    obtain ⟨A7, c7, rfl, _, _⟩ := hu7.out.val
                    clear HC hb7 hu7 HL hbx hzx s0 s1 s2 s3 s4 s5 s6 s7 y0 hT'
                    generalize holdsB ((k : Int) ∈ predP g p) = hh at *
                    go_wp2_with fail
                    refine HH.out.mono ?_
                    rintro e w8 ⟨rfl, rfl⟩
                    clear HH
                    cases hh
                    · have HLk : Hid (IntsM w7 B0 (.slice Al (cellTo g i (r : Int) (k : Int)).length cl) (cellTo g (i + 1) (r : Int) (k : Int))) := hidden (by rw [HSj.out rfl]; exact HL7.out)
                      clear HL7 HMj HSj
                      go_wp2
                      go_roundg (g.prods.length - (i + 1))
                      case measure => omega
                      case rel => exact ⟨i + 1, by omega, rfl, by go_num, HLk, hbx7, hz7⟩
                    · have HE := hidden (HMj.out rfl)
                      clear HMj HSj
                      go_wp2_with (at_builtin; refine wpList_append_i rfl _ _ rfl B0 _ _ HL7 (i : Int) rfl rfl rfl (by first | rfl | simp) (by omega) (by omega) ?_; intro v' w' hA hb2 hK)
                      rw [← HE.out] at hA
                      have hbn := hidden (hbx7.out.trans (hb2.mono hbz))
                      have hzn := Nat.le_trans hz7 hb2.size
                      clear HL7 hb2 hK hbx7
                      go_roundg (g.prods.length - (i + 1))
                      case measure => omega
                      case rel => exact ⟨i + 1, by omega, rfl, by go_num, hA, hbn, hzn⟩
                  · have hd : (p.left == (r : Int)) = false := by simpa using hpl
                    have HLk : Hid (IntsM wr B0 (.slice Al (cellTo g i (r : Int) (k : Int)).length cl) (cellTo g (i + 1) (r : Int) (k : Int))) := hidden (by rw [HSi.out (.inl hpl)]; exact HL.out)
                    clear HL HMi HSi hpl hat hx hT hT2 hbw HC HPi HG6
                    go_wp2
                    go_roundg (g.prods.length - (i + 1))
                    case measure => omega
                    case rel => exact ⟨i + 1, by omega, rfl, by go_num, HLk, hbx, hzx⟩
                · obtain rfl : i = g.prods.length := by omega
                  have HLc : Hid (IntsM wr B0 _ (cell24 g (r : Int) (k : Int))) := HL
                  have hl30 : (cell24 g (r : Int) (k : Int)).length ≤ g.prods.length := HLn.out g.prods.length (r : Int) (k : Int)
                  have HRd := hidden (RowM.rd HLc.out)
                  obtain ⟨Al, cl, rfl⟩ := HLc.out.value
                  clear HL HLc hbw HG6
                  have HTx := hidden (HTo.out _ hbx.out)
                  cases tw
                  · have HIn : Hid ((∀ x y : Nat, x < r → y < g.toks.length + 1 → 2 ≤ (cell24 g (x : Int) (y : Int)).length → decide ((1 : Int) < ((cell24 g (r : Int) (k : Int)).length : Int)) = true) ∧ ∀ y : Nat, y < k + 1 → 2 ≤ (cell24 g (r : Int) (y : Int)).length → decide ((1 : Int) < ((cell24 g (r : Int) (k : Int)).length : Int)) = true) := hidden ⟨fun x y h1 h2 h3 => Bool.noConfusion (HI.out.1 x y h1 h2 h3), fun y h1 h3 => by
                      by_cases e : y = k
                      · subst e; exact decide_eq_true (by omega)
                      · exact Bool.noConfusion (HI.out.2 y (by omega) h3)⟩
                    clear HI HRd HTx
                    generalize (cell24 g (r : Int) (k : Int)).length = nl at *
                    go_wp2_with fail
                    go_quiet (fail)
                    go_wp2
                    go_roundg (g.toks.length + 1 - (k + 1))
                    case measure => omega
                    case rel => exact ⟨k + 1, _, by omega, rfl, by go_num, rfl, HIn, hidden (below_drewN hbx.out _)⟩
                  · have HIn : Hid ((∀ x y : Nat, x < r → y < g.toks.length + 1 → 2 ≤ (cell24 g (x : Int) (y : Int)).length → true = true) ∧ ∀ y : Nat, y < k + 1 → 2 ≤ (cell24 g (r : Int) (y : Int)).length → true = true) := hidden ⟨fun _ _ _ _ _ => rfl, fun _ _ _ => rfl⟩
                    clear HI HRd HTx
                    generalize (cell24 g (r : Int) (k : Int)).length = nl at *
                    go_wp2_with fail
                    go_quiet (fail)
                    go_wp2
                    go_roundg (g.toks.length + 1 - (k + 1))
                    case measure => omega
                    case rel => exact ⟨k + 1, _, by omega, rfl, by go_num, rfl, hidden ⟨fun _ _ _ _ _ => rfl, fun _ _ _ => rfl⟩, hidden (below_drewN hbx.out _)⟩
            · obtain rfl : k = g.toks.length + 1 := by omega
              have dt : decide (((g.toks.length + 1 : Nat) : Int) ≤ (g.toks.length : Int)) = false := decide_eq_false (by omega)
              have dt2 : decide ((g.toks.length : Int) + 1 ≤ (g.toks.length : Int)) = false := decide_eq_false (by omega)
              have HIn : Hid (∀ x y : Nat, x < r + 1 → y < g.toks.length + 1 → 2 ≤ (cell24 g (x : Int) (y : Int)).length → tw = true) := hidden (fun x y h1 h2 h3 => by
                by_cases e : x = r
                · subst e; exact HI.out.2 y h2 h3
                · exact HI.out.1 x y (by omega) h2 h3)
              clear HI
              go_wp2
              go_roundg (g.rules.length - (r + 1))
              case measure => omega
              case rel => exact ⟨r + 1, tw, by omega, rfl, by go_num, rfl, HIn, hbx⟩
        · obtain rfl : r = g.rules.length := by omega
          obtain ⟨qa, qb, ha, hb', h2⟩ := HCx.out
          obtain rfl := HI.out qa qb ha hb' h2
          have HBe := hidden (HWo.out _ hbx.out)
          clear hbx HI
          go_wp2_with fail
          refine (knows24 _).mono ?_
          rintro e w9 ⟨rfl, hb9⟩
          have hbz := HBe.out.more hb9
          clear hb9
          go_wp2
          go_ret
          exact ⟨rfl, hbz⟩
end Go.Proofs.Ytmlggfapnkhcaaa
