/-
  law18: GramFinds.
-/
import Derived.Test.YtaagkbgbghleiaaGramFindsP
import Derived.Test.YtaagkbgbghleiaaGramLaws
namespace Go.Proofs.Ytaagkbgbghleiaa
open Go.RowKit Go.Shelf

set_option maxRecDepth 20000 in
set_option maxHeartbeats 8000000 in
theorem law_finds (a b c : Value) (g : Gram) (w : World) (HG : GramIs w (Old w) a b c g) (hz : Named g) :
    Calls Try.prog 7 #[.agg (gramCells a b c g)] w fun r w' => r = .returned (.bool true) ∧ Below w.heap.size w w' := by
  have HFw := hidden (fun (w' : World) (hb : Below w.heap.size w w') => law_Few a b c g w' (HG.old hb) hz)
  have HS := hidden (@few_small g)
  have H3 := hidden (fun (hs : fewB g = true) (w' : World) (hb : Below w.heap.size w w') => gram_Right a b c g w' (HG.old hb) (by have := (few_small hs).1; omega) (by have := (few_small hs).2.1; omega) (by have := (few_small hs).2.2; omega) hz)
  have C1 := hidden (fun (hs : fewB g = true) (s : ByteArray) (w' : World) (hb : Below w.heap.size w w') => gram_Find a b c g s w' (HG.old hb) (by have := (few_small hs).1; omega))
  have C3 := hidden (fun (hs : fewB g = true) (r : Int) (w' : World) (hb : Below w.heap.size w w') => gram_Of a b c g r w' (HG.old hb) (by have := (few_small hs).2.2; omega))
  have HR : Hid (rightB g = true → RightG g) := hidden (fun h => (right_iff g).1 (by unfold rightB at h; simpa using h))
  have HGo := hidden (fun (w' : World) (hb : Below w.heap.size w w') => HG.old hb)
  obtain ⟨⟨A1, k1, rfl, v1, m1⟩, ⟨A2, k2, rfl, v2, m2⟩, ⟨A3, k3, rfl, v3, m3⟩⟩ := HG.vals
  clear HG
  unfold gramCells at *
  generalize fewB g = few at *
  generalize rightB g = rb at *
  have hb := Below.refl w.heap.size w
  cases few
  · go_enter Try.func7, Try.ntmps7
    go_wp2_with fail
    refine (HFw.out _ ?_).mono ?_
    · exact (by repeat (first | (with_reducible exact Below.refl _ _) | (with_reducible assumption) | (with_reducible refine Below.drew ?_) | (with_reducible refine below_drewN ?_ _) | ((with_reducible refine below_alloc ?_ ?_); (focus (first | omega | (simp; done) | (simp; omega)))) | ((with_reducible refine below_set ?_ ?_); (focus (first | omega | (simp; done) | (simp; omega))))))
    rintro r w2 ⟨rfl, hb2⟩
    have hbw : Below w.heap.size w w2 := Below.trans (by repeat (first | (with_reducible exact Below.refl _ _) | (with_reducible assumption) | (with_reducible refine Below.drew ?_) | (with_reducible refine below_drewN ?_ _) | ((with_reducible refine below_alloc ?_ ?_); (focus (first | omega | (simp; done) | (simp; omega)))) | ((with_reducible refine below_set ?_ ?_); (focus (first | omega | (simp; done) | (simp; omega)))))) (hb2.mono (by simp))
    clear hb2
    go_wp2_with fail
    refine (knows18 _).mono ?_
    rintro r w3 ⟨rfl, hb3⟩
    replace hbw := hbw.more hb3
    clear hb3
    go_wp2
    go_ret
    exact ⟨rfl, hbw⟩
  · have hsm := HS.out rfl
    go_enter Try.func7, Try.ntmps7
    go_wp2_with fail
    refine (HFw.out _ ?_).mono ?_
    · exact (by repeat (first | (with_reducible exact Below.refl _ _) | (with_reducible assumption) | (with_reducible refine Below.drew ?_) | (with_reducible refine below_drewN ?_ _) | ((with_reducible refine below_alloc ?_ ?_); (focus (first | omega | (simp; done) | (simp; omega)))) | ((with_reducible refine below_set ?_ ?_); (focus (first | omega | (simp; done) | (simp; omega))))))
    rintro r w2 ⟨rfl, hb2⟩
    have hbw : Below w.heap.size w w2 := Below.trans (by repeat (first | (with_reducible exact Below.refl _ _) | (with_reducible assumption) | (with_reducible refine Below.drew ?_) | (with_reducible refine below_drewN ?_ _) | ((with_reducible refine below_alloc ?_ ?_); (focus (first | omega | (simp; done) | (simp; omega)))) | ((with_reducible refine below_set ?_ ?_); (focus (first | omega | (simp; done) | (simp; omega)))))) (hb2.mono (by simp))
    have P3 := hidden (Holds.below (show Holds _ w.heap.size 36 #[.slice A1 g.toks.length k1, .slice A2 g.rules.length k2, .slice A3 g.prods.length k3, .int .i64 g.start, .int .i64 g.states, .int .i64 g.text, .int .i64 g.nodes, .int .i64 g.pairs] from (by repeat (first | (with_reducible assumption) | ((with_reducible refine holds_new ?_); (focus (first | rfl | (simp; done)))) | (with_reducible refine Holds.alloc ?_ _) | (with_reducible refine Holds.drew ?_)))) hb2 (by simp))
    obtain ⟨s0, s1, s2, s3, s4, s5, s6, s7⟩ := eight P3.out
    have hz2 : w.heap.size + 1 ≤ w2.heap.size := by have := hb2.size; simpa using this
    clear hb2 HFw hb
    go_wp2_with fail
    refine (H3.out (by trivial) _ hbw).mono ?_
    rintro r w3 ⟨rfl, hb3⟩
    replace P3 := hidden (P3.out.below hb3 (by omega))
    have hz3 := hb3.size
    replace hbw := hbw.more hb3
    clear hb3 s0 s1 s2 s3 s4 s5 s6 s7 H3
    cases rb
    · go_wp2_with fail
      refine (knows18 _).mono ?_
      rintro r w4 ⟨rfl, hb4⟩
      replace hbw := hbw.more hb4
      clear hb4
      go_wp2
      go_ret
      exact ⟨rfl, hbw⟩
    · have HRG := hidden (HR.out rfl)
      clear HR HS
      go_wp2
      go_loopw [3] (fun ii wr => ∃ k : Nat, k ≤ g.toks.length ∧ ii = .int .i64 k ∧ Below w.heap.size w wr ∧ w.heap.size + 1 ≤ wr.heap.size ∧ Hid (Holds wr w.heap.size 36 #[.slice A1 g.toks.length k1, .slice A2 g.rules.length k2, .slice A3 g.prods.length k3, .int .i64 g.start, .int .i64 g.states, .int .i64 g.text, .int .i64 g.nodes, .int .i64 g.pairs])) (fun ii _ => g.toks.length - (intOf ii).toNat)
      case atStart => exact ⟨0, by omega, rfl, hbw, by omega, P3⟩
      case round =>
        clear hbw P3
        obtain ⟨k, hk, rfl, hbw, hz, P3⟩ := hrel
        obtain ⟨s0, s1, s2, s3, s4, s5, s6, s7⟩ := eight P3.out
        by_cases hlt : k < g.toks.length
        · have hx := List.getElem?_eq_getElem hlt
          generalize g.toks[k] = t at *
          obtain ⟨b1, o1, l1, rfl, _, hat, _⟩ := (HGo.out _ hbw).1.at_ hx
          have y0 : wr.cell? ⟨b1, o1 + k * 3, none⟩ = some (.string t.name) := hat 0 _ rfl
          have HFt := hidden (HRG.out.findTok hx)
          have CF := hidden (fun (y : Ext wr) => C1.out (by trivial) t.name y.w (hbw.trans (y.below.mono hbw.size)))
          rw [HFt.out.1, HFt.out.2] at CF
          clear hat hx HFt
          have e0 := Ext.cell s0; have e1 := Ext.cell s1; have e2 := Ext.cell s2; have e3 := Ext.cell s3; have e4 := Ext.cell s4; have e5 := Ext.cell s5; have e6 := Ext.cell s6; have e7 := Ext.cell s7
          have f0 := Ext.cell y0
          go_wp2_with fail
          refine wp_region_ext (by kernel_rfl) (by kernel_rfl) ?_
          repeat (go_big_quiet_step ((go_at_call 35; exact Ext.call (CF.out _))))
          refine wpQuiet_nil ?_
          intro w4 hb4
          clear e0 e1 e2 e3 e4 e5 e6 e7 f0 CF y0
          replace P3 := hidden (P3.out.below hb4 (by omega))
          have hz4 := hb4.size
          replace hbw := hbw.more hb4
          clear hb4 s0 s1 s2 s3 s4 s5 s6 s7
          have q : ((k : Int) != (k : Int)) = false := by simp
          go_wp2
          go_roundw
          case rel => exact ⟨k + 1, by omega, by go_num, hbw, by omega, P3⟩
          case measure => simp [intOf]; omega
        · have hbA := hbw
          have hzA := hz
          have PA := P3
          go_wp2
          clear hbw hz P3 s0 s1 s2 s3 s4 s5 s6 s7
          obtain ⟨wo, rfl⟩ : ∃ wo : World, wo = wr := ⟨_, rfl⟩
          go_loopw [6, 7] (fun vv ii wr => ∃ k : Nat, k ≤ g.rules.length ∧ ii = .int .i64 k ∧ Hid (IntsM wr (w.heap.size + 1) vv (allOf g k)) ∧ Below w.heap.size w wr ∧ w.heap.size + 1 ≤ wr.heap.size ∧ Hid (Holds wr w.heap.size 36 #[.slice A1 g.toks.length k1, .slice A2 g.rules.length k2, .slice A3 g.prods.length k3, .int .i64 g.start, .int .i64 g.states, .int .i64 g.text, .int .i64 g.nodes, .int .i64 g.pairs])) (fun _ ii _ => g.rules.length - (intOf ii).toNat)
          case atStart => exact ⟨0, by omega, rfl, hidden (Mine.fresh_nil _ _ _ _ _), (by repeat (first | (with_reducible exact Below.refl _ _) | (with_reducible assumption) | (with_reducible refine Below.drew ?_) | (with_reducible refine below_drewN ?_ _) | ((with_reducible refine below_alloc ?_ ?_); (focus (first | omega | (simp; done) | (simp; omega)))) | ((with_reducible refine below_set ?_ ?_); (focus (first | omega | (simp; done) | (simp; omega)))))), by simp; omega, hidden (PA.out.alloc _)⟩
          case round =>
            clear hbA hzA PA
            obtain ⟨k, hk, rfl, HM, hbw, hz, P3⟩ := hrel
            obtain ⟨s0, s1, s2, s3, s4, s5, s6, s7⟩ := eight P3.out
            by_cases hlt : k < g.rules.length
            · have hx := List.getElem?_eq_getElem hlt
              generalize g.rules[k] = s at *
              obtain ⟨b1, o1, rfl, _, y0⟩ := strs_at (HGo.out _ hbw).2.1 hx
              have HFt := hidden (HRG.out.findRule hx)
              have CF := hidden (fun (y : Ext wr) => C1.out (by trivial) s y.w (hbw.trans (y.below.mono hbw.size)))
              rw [HFt.out.1, HFt.out.2] at CF
              have HSo := hidden (HRG.out.someOf hlt)
              have CO := hidden (fun (w' : World) (hb : Below w.heap.size w w') => C3.out (by trivial) (k : Int) w' hb)
              have HAk : Hid (allOf g (k + 1) = allOf g k ++ ofRule g k) := hidden rfl
              have hal := allOf_len_le g k
              have hol := ofUpto_len g k g.prods.length
              rw [show ofUpto g k g.prods.length = ofRule g k from rfl] at hol
              generalize ofRule g k = ro at *
              generalize allOf g k = al at *
              clear hx HFt
              have e0 := Ext.cell s0; have e1 := Ext.cell s1; have e2 := Ext.cell s2; have e3 := Ext.cell s3; have e4 := Ext.cell s4; have e5 := Ext.cell s5; have e6 := Ext.cell s6; have e7 := Ext.cell s7
              have f0 := Ext.cell y0
              go_wp2_with fail
              refine wp_region_ext (by kernel_rfl) (by kernel_rfl) ?_
              repeat (go_big_quiet_step ((go_at_call 35; exact Ext.call (CF.out _))))
              refine wpQuiet_nil ?_
              intro w4 hb4
              clear e0 e1 e2 e3 e4 e5 e6 e7 f0 CF y0
              replace P3 := hidden (P3.out.below hb4 (by omega))
              replace HM := hidden (Mine.below HM.out hb4)
              have hz4 := hb4.size
              replace hbw := hbw.more hb4
              clear hb4 s0 s1 s2 s3 s4 s5 s6 s7
              obtain ⟨s0, s1, s2, s3, s4, s5, s6, s7⟩ := eight P3.out
              go_wp2_with fail
              refine (CO.out _ hbw).mono ?_
              rintro r w5 ⟨⟨u, rfl, HU⟩, hb5⟩
              replace P3 := hidden (P3.out.below hb5 (by omega))
              replace HM := hidden (Mine.below HM.out hb5)
              have hz5 := hb5.size
              replace hbw := hbw.more hb5
              have HX := hidden (RowM.rd HU.out)
              obtain ⟨Au, cu, rfl⟩ := Mine.value HU.out
              clear hb5 s0 s1 s2 s3 s4 s5 s6 s7 HU CO
              have q : ((k : Int) != (k : Int)) = false := by simp
              have q2 : ((ro.length : Int) == 0) = false := by have := HSo.out; simp; intro e; rw [e] at this; simp at this
              have H1 : Hid (∀ u ∈ ro.flatMap (one1 intV), u.oneCell' = true) := hidden (fun u hu => by
                rw [List.mem_flatMap] at hu
                obtain ⟨x, _, hx⟩ := hu
                simp [one1] at hx; subst hx; rfl)
              go_wp2_with (at_builtin; refine wpList_append_all rfl _ _ 48 3 rfl (by kernel_rfl) int_info rfl (by decide) (w.heap.size + 1) _ _ _ HM _ _ _ HX H1 rfl rfl (by omega) (by decide) (by omega) ?_; intro v' w' hA)
              go_roundw
              case rel =>
                refine ⟨k + 1, by omega, by go_num, ?_, hbw.trans (hA.out.below.mono (by omega)), by have := hA.out.below.size; omega, hidden (P3.out.below hA.out.below (by omega))⟩
                rw [HAk.out]
                have := hA.out.mine
                unfold IntsM RowM
                rw [List.length_append, List.flatMap_append]
                exact hidden this
              case measure => simp [intOf]; omega
            · obtain rfl : k = g.rules.length := by omega
              have HLn := hidden (HRG.out.allLen)
              have HSn := hidden (setOf_nodup (allOf_nodup g g.rules.length))
              have HOf := hidden (fun (w' : World) (u : Value) (h : Ints w' (Old w') u (allOf g g.rules.length)) => ref11_Of u _ w' h (by rw [HLn.out]; omega))
              have HR1 := hidden (RowM.rd HM.out)
              generalize allOf g g.rules.length = al at *
              obtain ⟨Au, cu, rfl⟩ := Mine.value HM.out
              have q1 : ((al.length : Int) == (g.prods.length : Int)) = true := by rw [HLn.out]; simp
              go_wp2_with fail
              refine (HOf.out _ _ HR1.out).mono ?_
              rintro r w5 ⟨⟨u, rfl, HU⟩, hb5⟩
              obtain ⟨Av, cv, rfl, _, _⟩ := HU.out.val
              replace hbw := hbw.more hb5
              clear hb5 HM HR1 HOf P3
              have q2 : (((setOf al).length : Int) == (al.length : Int)) = true := by rw [HSn.out]; simp
              generalize (setOf al).length = n5 at *
              go_wp2_with fail
              refine (knows18 _).mono ?_
              rintro r w6 ⟨rfl, hb6⟩
              replace hbw := hbw.more hb6
              clear hb6
              go_wp2
              go_ret
              exact ⟨rfl, hbw⟩
end Go.Proofs.Ytaagkbgbghleiaa
