/-
  TableTells.
-/
import Derived.Test.YtmlggfapnkhcaaaH3
namespace Go.Proofs.Ytmlggfapnkhcaaa
open Go.RowKit Go.Shelf
attribute [local simp] wide_fn

theorem keep_tells {wr w1 w2 : World} {p q q' : Nat} {t t1 t2 : TypeId} {a0 a1 a2 a3 a4 a5 a6 a7 x y z x' y' z' : Value} (H : Holds wr p t #[a0, a1, a2, a3, a4, a5, a6, a7]) (H1 : Holds wr q t1 #[x, y, z]) (H2 : Holds wr q' t2 #[x', y', z']) (hb : Below wr.heap.size wr w1) (hb2 : Below w1.heap.size w1 w2) :
    w2.cell? ⟨p, 0, none⟩ = some a0 ∧ w2.cell? ⟨p, 1, none⟩ = some a1 ∧ w2.cell? ⟨p, 2, none⟩ = some a2 ∧ w2.cell? ⟨p, 3, none⟩ = some a3 ∧ w2.cell? ⟨p, 4, none⟩ = some a4 ∧ w2.cell? ⟨p, 5, none⟩ = some a5 ∧ w2.cell? ⟨p, 6, none⟩ = some a6 ∧ w2.cell? ⟨p, 7, none⟩ = some a7 ∧ (w2.cell? ⟨q, 0, none⟩ = some x ∧ w2.cell? ⟨q, 1, none⟩ = some y ∧ w2.cell? ⟨q, 2, none⟩ = some z) ∧ (w2.cell? ⟨q', 0, none⟩ = some x' ∧ w2.cell? ⟨q', 1, none⟩ = some y' ∧ w2.cell? ⟨q', 2, none⟩ = some z') ∧ Below wr.heap.size wr w2 := by
  have hbb := hb.trans (hb2.mono hb.size)
  obtain ⟨x0, x1, x2, x3, x4, x5, x6, x7⟩ := eight22 (H.below hbb H.lt)
  have h1 := H1.below hbb H1.lt
  have h2 := H2.below hbb H2.lt
  exact ⟨x0, x1, x2, x3, x4, x5, x6, x7, ⟨h1.cell 0, h1.cell 1, h1.cell 2⟩, ⟨h2.cell 0, h2.cell 1, h2.cell 2⟩, hbb⟩

set_option maxRecDepth 20000 in
set_option maxHeartbeats 8000000 in
theorem law_tableTells (a b c : Value) (g : Gram) (i : Int) (w : World) (HG : GramIs w (Old w) a b c g) (hz : Named g) :
    Calls Try.prog 11 #[.agg (gramCells a b c g), .int .i64 i] w fun r w' => r = .returned (.bool true) ∧ Below w.heap.size w w' := by
  have F1 := hidden (fun (w' : World) (hb : Below w.heap.size w w') => law_Small a b c g w' (HG.old hb) hz)
  have N1 := hidden (fun (hs : smallB g = true) (w' : World) (hb : Below w.heap.size w w') => table_Clash a b c g w' (HG.old hb) (small_is hs hz).1 (smallB_iff.1 hs).2.2.1 (smallB_iff.1 hs).2.1 (smallB_iff.1 hs).2.2.2)
  have R1 := hidden (fun (hs : smallB g = true) (w' : World) (hb : Below w.heap.size w w') => ref_Clash24 a b c g w' (HG.old hb) (small_is hs hz).1 (smallB_iff.1 hs).2.2.1 (smallB_iff.1 hs).2.1 (smallB_iff.1 hs).2.2.2)
  have N2 := hidden (fun (hs : smallB g = true) (w' : World) (hb : Below w.heap.size w w') => table_Build a b c g w' (HG.old hb) (small_is hs hz).1 (smallB_iff.1 hs).2.2.1 (smallB_iff.1 hs).2.1 (smallB_iff.1 hs).2.2.2)
  have R2 := hidden (fun (hs : smallB g = true) (w' : World) (hb : Below w.heap.size w w') => ref_Build24 a b c g w' (HG.old hb) (small_is hs hz).1 (smallB_iff.1 hs).2.2.1 (smallB_iff.1 hs).2.1 (smallB_iff.1 hs).2.2.2)
  have N3 := hidden (fun (hs : smallB g = true) (w' : World) (hb : Below w.heap.size w w') => table_Predict a b c g i w' (HG.old hb) (small_is hs hz).1)
  have R3 := hidden (fun (hs : smallB g = true) (w' : World) (hb : Below w.heap.size w w') => ref_Predict24 a b c g i w' (HG.old hb) (small_is hs hz).1 (small_is hs hz).2)
  obtain ⟨⟨A1, k1, rfl, v1, m1⟩, ⟨A2, k2, rfl, v2, m2⟩, ⟨A3, k3, rfl, v3, m3⟩⟩ := HG.vals
  clear HG
  unfold gramCells defC maxLen at *
  generalize smallB g = fg at *
  generalize atD24 g = ad at *
  generalize second24 g = se at *
  generalize err24 g = er at *
  generalize table24 g = tb at *
  generalize predN g i = pn at *
  have hb := Below.refl w.heap.size w
  cases fg
  · go_enter Try.func11, Try.ntmps11
    go_wp2_with fail
    refine (F1.out _ ?_).mono ?_
    · exact (by repeat (first | (with_reducible exact Below.refl _ _) | (with_reducible assumption) | (with_reducible refine Below.drew ?_) | (with_reducible refine below_drewN ?_ _) | ((with_reducible refine below_alloc ?_ ?_); (focus (first | omega | (simp; done) | (simp; omega)))) | ((with_reducible refine below_set ?_ ?_); (focus (first | omega | (simp; done) | (simp; omega))))))
    rintro r w2 ⟨rfl, hb2⟩
    have hbw : Below w.heap.size w w2 := Below.trans (by repeat (first | (with_reducible exact Below.refl _ _) | (with_reducible assumption) | (with_reducible refine Below.drew ?_) | (with_reducible refine below_drewN ?_ _) | ((with_reducible refine below_alloc ?_ ?_); (focus (first | omega | (simp; done) | (simp; omega)))) | ((with_reducible refine below_set ?_ ?_); (focus (first | omega | (simp; done) | (simp; omega)))))) (hb2.mono (by simp))
    have HB1 := hidden (Holds.below (show Holds _ w.heap.size 26 #[.slice A1 g.toks.length k1, .slice A2 g.rules.length k2, .slice A3 g.prods.length k3, .int .i64 g.start, .int .i64 g.states, .int .i64 g.text, .int .i64 g.nodes, .int .i64 g.pairs] from (by repeat (first | (with_reducible assumption) | ((with_reducible refine holds_new ?_); (focus (first | rfl | (simp; done)))) | (with_reducible refine Holds.alloc ?_ _) | (with_reducible refine Holds.drew ?_)))) hb2 (by simp))
    obtain ⟨s0, s1, s2, s3, s4, s5, s6, s7⟩ := eight22 HB1.out
    clear hb2
    go_wp2_with fail
    refine (knows24 _).mono ?_
    rintro r w3 ⟨rfl, hb3⟩
    replace hbw := hbw.trans (hb3.mono hbw.size)
    clear hb3
    go_wp2
    go_ret
    exact ⟨rfl, hbw⟩
  · replace N1 := hidden (N1.out rfl)
    replace N2 := hidden (N2.out rfl)
    replace N3 := hidden (N3.out rfl)
    replace R1 := hidden (R1.out rfl)
    replace R2 := hidden (R2.out rfl)
    replace R3 := hidden (R3.out rfl)
    have hq : ∀ w, (Op.equalIn 10000 40 (.agg #[.int .i64 ad.kind, .int .i64 ad.at_, .int .i64 ad.more]) (.agg #[.int .i64 ad.kind, .int .i64 ad.at_, .int .i64 ad.more])).run Try.prog w = .ok true w := fun w => by
      have := def_eq_run w ad ad
      rwa [eqB_self] at this
    go_enter Try.func11, Try.ntmps11
    go_wp2_with fail
    refine (F1.out _ ?_).mono ?_
    · exact (by repeat (first | (with_reducible exact Below.refl _ _) | (with_reducible assumption) | (with_reducible refine Below.drew ?_) | (with_reducible refine below_drewN ?_ _) | ((with_reducible refine below_alloc ?_ ?_); (focus (first | omega | (simp; done) | (simp; omega)))) | ((with_reducible refine below_set ?_ ?_); (focus (first | omega | (simp; done) | (simp; omega))))))
    rintro r w2 ⟨rfl, hb2⟩
    have hbw : Below w.heap.size w w2 := Below.trans (by repeat (first | (with_reducible exact Below.refl _ _) | (with_reducible assumption) | (with_reducible refine Below.drew ?_) | (with_reducible refine below_drewN ?_ _) | ((with_reducible refine below_alloc ?_ ?_); (focus (first | omega | (simp; done) | (simp; omega)))) | ((with_reducible refine below_set ?_ ?_); (focus (first | omega | (simp; done) | (simp; omega)))))) (hb2.mono (by simp))
    have HB1 := hidden (Holds.below (show Holds _ w.heap.size 26 #[.slice A1 g.toks.length k1, .slice A2 g.rules.length k2, .slice A3 g.prods.length k3, .int .i64 g.start, .int .i64 g.states, .int .i64 g.text, .int .i64 g.nodes, .int .i64 g.pairs] from (by repeat (first | (with_reducible assumption) | ((with_reducible refine holds_new ?_); (focus (first | rfl | (simp; done)))) | (with_reducible refine Holds.alloc ?_ _) | (with_reducible refine Holds.drew ?_)))) hb2 (by simp))
    obtain ⟨s0, s1, s2, s3, s4, s5, s6, s7⟩ := eight22 HB1.out
    clear hb2
    go_wp2_with fail
    refine (N1.out _ hbw).mono ?_
    rintro r w3 ⟨rfl, hb3⟩
    replace HB1 := hidden ((HB1.out.below hb3 HB1.out.lt).alloc (.cells #[.int .i64 ad.kind, .int .i64 ad.at_, .int .i64 ad.more] 40))
    replace hbw := (hbw.more hb3).alloc (hbw.more hb3).size (.cells #[.int .i64 ad.kind, .int .i64 ad.at_, .int .i64 ad.more] 40)
    have HD1 := hidden (Holds.new w3 40 #[.int .i64 ad.kind, .int .i64 ad.at_, .int .i64 ad.more])
    clear hb3 s0 s1 s2 s3 s4 s5 s6 s7 N1
    go_upto_region 4 with fail
    generalize w3.alloc (.cells #[.int .i64 ad.kind, .int .i64 ad.at_, .int .i64 ad.more] 40) = w4 at *
    obtain ⟨s0, s1, s2, s3, s4, s5, s6, s7⟩ := eight22 HB1.out
    go_wp2_with fail
    refine (R1.out _ hbw).mono ?_
    rintro r w5 ⟨rfl, hb5⟩
    replace HB1 := hidden ((HB1.out.below hb5 HB1.out.lt).alloc (.cells #[.int .i64 ad.kind, .int .i64 ad.at_, .int .i64 ad.more] 40))
    replace HD1 := hidden ((HD1.out.below hb5 HD1.out.lt).alloc (.cells #[.int .i64 ad.kind, .int .i64 ad.at_, .int .i64 ad.more] 40))
    replace hbw := (hbw.more hb5).alloc (hbw.more hb5).size (.cells #[.int .i64 ad.kind, .int .i64 ad.at_, .int .i64 ad.more] 40)
    have HD2 := hidden (Holds.new w5 40 #[.int .i64 ad.kind, .int .i64 ad.at_, .int .i64 ad.more])
    clear hb5 s0 s1 s2 s3 s4 s5 s6 s7 R1
    go_upto_region 5 with fail
    generalize w5.alloc (.cells #[.int .i64 ad.kind, .int .i64 ad.at_, .int .i64 ad.more] 40) = w6 at *
    obtain ⟨s0, s1, s2, s3, s4, s5, s6, s7⟩ := eight22 HB1.out
    go_wp2_with fail
    refine (N2.out _ hbw).mono ?_
    rintro r w7 ⟨⟨u7, rfl, hu7⟩, hb7⟩
    replace HB1 := hidden (HB1.out.below hb7 HB1.out.lt)
    replace HD1 := hidden (HD1.out.below hb7 HD1.out.lt)
    replace HD2 := hidden (HD2.out.below hb7 HD2.out.lt)
    replace hbw := hbw.more hb7
    clear hb7 s0 s1 s2 s3 s4 s5 s6 s7 N2
    obtain ⟨s0, s1, s2, s3, s4, s5, s6, s7⟩ := eight22 HB1.out
    go_wp2_with fail
    refine (R2.out _ hbw).mono ?_
    rintro r w8 ⟨⟨u8, rfl, hu8⟩, hb8⟩
    replace HB1 := hidden (HB1.out.below hb8 HB1.out.lt)
    replace HD1 := hidden (HD1.out.below hb8 HD1.out.lt)
    replace HD2 := hidden (HD2.out.below hb8 HD2.out.lt)
    replace hbw := hbw.more hb8
    have HT1 := hidden (fun (wx : World) (hb : Below w8.heap.size w8 wx) => Recs.old (Recs.old hu7.out hb8) hb)
    have HT2 := hidden (fun (wx : World) (hb : Below w8.heap.size w8 wx) => Recs.old hu8.out hb)
    obtain ⟨A7, c7, rfl, _, _⟩ := hu7.out.value
    obtain ⟨A8, c8, rfl, _, _⟩ := hu8.out.value
    clear hb8 hu7 hu8 s0 s1 s2 s3 s4 s5 s6 s7 R2
    obtain ⟨s0, s1, s2, s3, s4, s5, s6, s7⟩ := eight22 HB1.out
    have d0 : w8.cell? ⟨w3.heap.size, 0, none⟩ = some (.int .i64 ad.kind) := HD1.out.cell 0
    have d1 : w8.cell? ⟨w3.heap.size, 1, none⟩ = some (.int .i64 ad.at_) := HD1.out.cell 1
    have d2 : w8.cell? ⟨w3.heap.size, 2, none⟩ = some (.int .i64 ad.more) := HD1.out.cell 2
    have e0 : w8.cell? ⟨w5.heap.size, 0, none⟩ = some (.int .i64 ad.kind) := HD2.out.cell 0
    have e1 : w8.cell? ⟨w5.heap.size, 1, none⟩ = some (.int .i64 ad.at_) := HD2.out.cell 1
    have e2 : w8.cell? ⟨w5.heap.size, 2, none⟩ = some (.int .i64 ad.more) := HD2.out.cell 2
    have t1 : (se == se) = true := by simp
    have t2 : (er == er) = true := by simp
    have HBw := hidden hbw
    clear hbw
    go_wp2_with fail
    go_region_held3 (fun w' => w'.cell? ⟨w.heap.size, 0, none⟩ = some (.slice A1 g.toks.length k1) ∧ w'.cell? ⟨w.heap.size, 1, none⟩ = some (.slice A2 g.rules.length k2) ∧ w'.cell? ⟨w.heap.size, 2, none⟩ = some (.slice A3 g.prods.length k3) ∧ w'.cell? ⟨w.heap.size, 3, none⟩ = some (.int .i64 g.start) ∧ w'.cell? ⟨w.heap.size, 4, none⟩ = some (.int .i64 g.states) ∧ w'.cell? ⟨w.heap.size, 5, none⟩ = some (.int .i64 g.text) ∧ w'.cell? ⟨w.heap.size, 6, none⟩ = some (.int .i64 g.nodes) ∧ w'.cell? ⟨w.heap.size, 7, none⟩ = some (.int .i64 g.pairs) ∧ (w'.cell? ⟨w3.heap.size, 0, none⟩ = some (.int .i64 ad.kind) ∧ w'.cell? ⟨w3.heap.size, 1, none⟩ = some (.int .i64 ad.at_) ∧ w'.cell? ⟨w3.heap.size, 2, none⟩ = some (.int .i64 ad.more)) ∧ (w'.cell? ⟨w5.heap.size, 0, none⟩ = some (.int .i64 ad.kind) ∧ w'.cell? ⟨w5.heap.size, 1, none⟩ = some (.int .i64 ad.at_) ∧ w'.cell? ⟨w5.heap.size, 2, none⟩ = some (.int .i64 ad.more)) ∧ Below w8.heap.size w8 w')
      (first | exact ⟨s0, s1, s2, s3, s4, s5, s6, s7, ⟨d0, d1, d2⟩, ⟨e0, e1, e2⟩, Below.drew (Below.refl _ _)⟩ | (go_split_ands; exact keep_tells HB1.out HD1.out HD2.out L12 hb13) | (go_split_ands; exact keep_tells HB1.out HD1.out HD2.out L11 hb12) | (go_split_ands; exact keep_tells HB1.out HD1.out HD2.out L10 hb11) | (go_split_ands; exact keep_tells HB1.out HD1.out HD2.out L9 hb10) | (go_split_ands; exact keep_tells HB1.out HD1.out HD2.out (Below.drew (Below.refl _ _)) hb9))
      (first | (go_at_call 60; go_split_ands; refine (N3.out _ (HBw.out.drew)).mono ?_; rintro e w9 ⟨⟨u9, rfl, hu9⟩, hb9⟩; have L9 := ((Below.refl w8.heap.size w8).drew).more hb9) | (go_at_call 61; go_split_ands; refine (R3.out _ (HBw.out.more L9)).mono ?_; rintro e w10 ⟨⟨u10, rfl, hu10⟩, hb10⟩; have L10 := L9.more hb10) | (go_at_call 18; go_split_ands; refine (ints_self (Rd.old (hu9.out.mono (fun _ h => h.2)) hb10) (hu10.out.mono (fun _ h => h.2))).mono ?_; rintro e w11 ⟨rfl, hb11⟩; have L11 := L10.more hb11) | (go_at_call 15; go_split_ands; refine (lists_self (HT1.out _ L11) (HT2.out _ L11)).mono ?_; rintro e w12 ⟨rfl, hb12⟩; have L12 := L11.more hb12) | (go_at_call 52; go_split_ands; refine (knows24 _).mono ?_; rintro e w13 ⟨rfl, hb13⟩))
    have hbe := HBw.out.more (L12.more hb13)
    clear hb9 hb10 hb11 hb12 hb13 L9 L10 L11 L12 hu9 hu10
    go_wp2
    go_ret
    exact ⟨rfl, hbe⟩
end Go.Proofs.Ytmlggfapnkhcaaa
