/-
  law18: GramAsks.
-/
import Derived.Test.YtaagkbgbghleiaaGramLaws
namespace Go.Proofs.Ytaagkbgbghleiaa
open Go.RowKit Go.Shelf

theorem keep_two {wr w1 w2 : World} {p q : Nat} {t t' : TypeId} {a b c d e f g h a' b' c' d' e' f' g' h' : Value} (H : Holds wr p t #[a, b, c, d, e, f, g, h]) (H' : Holds wr q t' #[a', b', c', d', e', f', g', h'])
    (hb : Below wr.heap.size wr w1) (hb2 : Below w1.heap.size w1 w2) :
    w2.cell? ⟨p, 0, none⟩ = some a ∧ w2.cell? ⟨p, 1, none⟩ = some b ∧ w2.cell? ⟨p, 2, none⟩ = some c ∧ w2.cell? ⟨p, 3, none⟩ = some d ∧ w2.cell? ⟨p, 4, none⟩ = some e ∧ w2.cell? ⟨p, 5, none⟩ = some f ∧ w2.cell? ⟨p, 6, none⟩ = some g ∧ w2.cell? ⟨p, 7, none⟩ = some h ∧
    w2.cell? ⟨q, 0, none⟩ = some a' ∧ w2.cell? ⟨q, 1, none⟩ = some b' ∧ w2.cell? ⟨q, 2, none⟩ = some c' ∧ w2.cell? ⟨q, 3, none⟩ = some d' ∧ w2.cell? ⟨q, 4, none⟩ = some e' ∧ w2.cell? ⟨q, 5, none⟩ = some f' ∧ w2.cell? ⟨q, 6, none⟩ = some g' ∧ w2.cell? ⟨q, 7, none⟩ = some h' ∧ Below wr.heap.size wr w2 := by
  have hb3 := hb.trans (hb2.mono hb.size)
  obtain ⟨x0, x1, x2, x3, x4, x5, x6, x7⟩ := eight (H.below hb3 H.lt)
  obtain ⟨y0, y1, y2, y3, y4, y5, y6, y7⟩ := eight (H'.below hb3 H'.lt)
  exact ⟨x0, x1, x2, x3, x4, x5, x6, x7, y0, y1, y2, y3, y4, y5, y6, y7, hb3⟩

theorem _root_.Go.RowKit.Below.more {w a w' : World} (h : Below w.heap.size w a) (k : Below a.heap.size a w') : Below w.heap.size w w' := h.trans (k.mono h.size)
theorem same_self (a b : Value) (L : List Int) {w w' : World} (hA : Ints w (Old w) a L) (hB : Ints w' (Old w') b L) (hb : Below w.heap.size w w') :
    Calls Try.prog 39 #[a, b] w' fun r w'' => r = .returned (.bool true) ∧ Below w'.heap.size w' w'' := by
  have := same_ints a b L L w' (Rd.old hA hb) hB
  rwa [eqB_self] at this

set_option maxRecDepth 20000 in
set_option maxHeartbeats 8000000 in
theorem law_asks (a b c a' b' c' : Value) (g h : Gram) (s : ByteArray) (r : Int) (w : World) (HG : GramIs w (Old w) a b c g) (HH : GramIs w (Old w) a' b' c' h) (hz : Named g) (hz' : Named h) (hs : s.size ≤ maxLen) :
    Calls Try.prog 8 #[.agg (gramCells a b c g), .agg (gramCells a' b' c' h), .string s, .int .i64 r] w fun r w' => r = .returned (.bool true) ∧ Below w.heap.size w w' := by
  have F1 := hidden (fun (w' : World) (hb : Below w.heap.size w w') => law_Few a b c g w' (HG.old hb) hz)
  have F2 := hidden (fun (w' : World) (hb : Below w.heap.size w w') => law_Few a' b' c' h w' (HH.old hb) hz')
  have C1 := hidden (fun (hs : fewB g = true) (w' : World) (hb : Below w.heap.size w w') => gram_Find a b c g s w' (HG.old hb) (by have := (few_small hs).1; omega))
  have C2 := hidden (fun (hs : fewB g = true) (w' : World) (hb : Below w.heap.size w w') => ref_Find18 a b c g s w' (HG.old hb) (by have := (few_small hs).1; omega) (by have := (few_small hs).2.1; omega))
  have C3 := hidden (fun (hs : fewB g = true) (w' : World) (hb : Below w.heap.size w w') => gram_Of a b c g r w' (HG.old hb) (by have := (few_small hs).2.2; omega))
  have C4 := hidden (fun (hs : fewB g = true) (w' : World) (hb : Below w.heap.size w w') => ref_Of18 a b c g r w' (HG.old hb) (by have := (few_small hs).2.2; omega))
  have C5 := hidden (fun (w' : World) (hb : Below w.heap.size w w') => gram_Same a b c a' b' c' g h w' (HG.old hb) (HH.old hb))
  have C6 := hidden (fun (w' : World) (hb : Below w.heap.size w w') => ref_Same18 a b c a' b' c' g h w' (HG.old hb) (HH.old hb))
  have C7 := hidden (fun (w' : World) (hb : Below w.heap.size w w') => gram_Same a b c a b c g g w' (HG.old hb) (HG.old hb))
  rw [eqB_self] at C7
  obtain ⟨⟨A1, k1, rfl, v1, m1⟩, ⟨A2, k2, rfl, v2, m2⟩, ⟨A3, k3, rfl, v3, m3⟩⟩ := HG.vals
  obtain ⟨⟨E1, l1, rfl, y1, n1⟩, ⟨E2, l2, rfl, y2, n2⟩, ⟨E3, l3, rfl, y3, n3⟩⟩ := HH.vals
  clear HG HH
  unfold gramCells maxLen at *
  generalize fewB g = fg at *
  generalize fewB h = fh at *
  generalize isRule g s = ir at *
  generalize findNo g s = fn at *
  generalize ofRule g r = ro at *
  generalize eqB g h = eg at *
  have hb := Below.refl w.heap.size w
  cases fg
  · go_enter Try.func8, Try.ntmps8
    go_wp2_with fail
    refine (F1.out _ ?_).mono ?_
    · exact (by repeat (first | (with_reducible exact Below.refl _ _) | (with_reducible assumption) | (with_reducible refine Below.drew ?_) | (with_reducible refine below_drewN ?_ _) | ((with_reducible refine below_alloc ?_ ?_); (focus (first | omega | (simp; done) | (simp; omega)))) | ((with_reducible refine below_set ?_ ?_); (focus (first | omega | (simp; done) | (simp; omega))))))
    rintro r w2 ⟨rfl, hb2⟩
    have hbw : Below w.heap.size w w2 := Below.trans (by repeat (first | (with_reducible exact Below.refl _ _) | (with_reducible assumption) | (with_reducible refine Below.drew ?_) | (with_reducible refine below_drewN ?_ _) | ((with_reducible refine below_alloc ?_ ?_); (focus (first | omega | (simp; done) | (simp; omega)))) | ((with_reducible refine below_set ?_ ?_); (focus (first | omega | (simp; done) | (simp; omega)))))) (hb2.mono (by simp; omega))
    clear hb2
    go_wp2_with fail
    refine (knows18 _).mono ?_
    rintro r w3 ⟨rfl, hb3⟩
    replace hbw := hbw.trans (hb3.mono hbw.size)
    clear hb3
    go_wp2
    go_ret
    exact ⟨rfl, hbw⟩
  · go_enter Try.func8, Try.ntmps8
    go_wp2_with fail
    refine (F1.out _ ?_).mono ?_
    · exact (by repeat (first | (with_reducible exact Below.refl _ _) | (with_reducible assumption) | (with_reducible refine Below.drew ?_) | (with_reducible refine below_drewN ?_ _) | ((with_reducible refine below_alloc ?_ ?_); (focus (first | omega | (simp; done) | (simp; omega)))) | ((with_reducible refine below_set ?_ ?_); (focus (first | omega | (simp; done) | (simp; omega))))))
    rintro r w2 ⟨rfl, hb2⟩
    have hbw : Below w.heap.size w w2 := Below.trans (by repeat (first | (with_reducible exact Below.refl _ _) | (with_reducible assumption) | (with_reducible refine Below.drew ?_) | (with_reducible refine below_drewN ?_ _) | ((with_reducible refine below_alloc ?_ ?_); (focus (first | omega | (simp; done) | (simp; omega)))) | ((with_reducible refine below_set ?_ ?_); (focus (first | omega | (simp; done) | (simp; omega)))))) (hb2.mono (by simp; omega))
    have HB1 := hidden (Holds.below (show Holds _ w.heap.size 36 #[.slice A1 g.toks.length k1, .slice A2 g.rules.length k2, .slice A3 g.prods.length k3, .int .i64 g.start, .int .i64 g.states, .int .i64 g.text, .int .i64 g.nodes, .int .i64 g.pairs] from (by repeat (first | (with_reducible assumption) | ((with_reducible refine holds_new ?_); (focus (first | rfl | (simp; done)))) | (with_reducible refine Holds.alloc ?_ _) | (with_reducible refine Holds.drew ?_)))) hb2 (by simp; omega))
    have HB2 := hidden (Holds.below (show Holds _ (w.heap.size + 1) 36 #[.slice E1 h.toks.length l1, .slice E2 h.rules.length l2, .slice E3 h.prods.length l3, .int .i64 h.start, .int .i64 h.states, .int .i64 h.text, .int .i64 h.nodes, .int .i64 h.pairs] from (by repeat (first | (with_reducible assumption) | ((with_reducible refine holds_new ?_); (focus (first | rfl | (simp; done)))) | (with_reducible refine Holds.alloc ?_ _) | (with_reducible refine Holds.drew ?_)))) hb2 (by simp))
    obtain ⟨s0, s1, s2, s3, s4, s5, s6, s7⟩ := eight HB1.out
    obtain ⟨t0, t1, t2, t3, t4, t5, t6, t7⟩ := eight HB2.out
    have hz2 : w.heap.size + 2 ≤ w2.heap.size := by have := hb2.size; simp at this; omega
    clear hb2 hb F1
    go_wp2_with fail
    refine (F2.out _ hbw).mono ?_
    rintro r w3 ⟨rfl, hb3⟩
    replace HB1 := hidden (HB1.out.below hb3 (by omega))
    replace HB2 := hidden (HB2.out.below hb3 (by omega))
    have hz3 := hb3.size
    replace hbw := hbw.trans (hb3.mono hbw.size)
    clear hb3 s0 s1 s2 s3 s4 s5 s6 s7 t0 t1 t2 t3 t4 t5 t6 t7 F2
    have hstop : fh = false ∨ (fh = true ∧ 100 < s.size) ∨ (fh = true ∧ ¬ 100 < s.size) := by
      cases fh
      · exact .inl rfl
      · rcases Nat.lt_or_ge 100 s.size with h | h
        · exact .inr (.inl ⟨rfl, h⟩)
        · exact .inr (.inr ⟨rfl, by omega⟩)
    rcases hstop with rfl | ⟨rfl, hl⟩ | ⟨rfl, hl⟩
    · go_wp2_with fail
      refine (knows18 _).mono ?_
      rintro r w3 ⟨rfl, hb3⟩
      replace hbw := hbw.trans (hb3.mono hbw.size)
      clear hb3
      go_wp2
      go_ret
      exact ⟨rfl, hbw⟩
    · go_wp2_with fail
      refine (knows18 _).mono ?_
      rintro r w3 ⟨rfl, hb3⟩
      replace hbw := hbw.trans (hb3.mono hbw.size)
      clear hb3
      go_wp2
      go_ret
      exact ⟨rfl, hbw⟩
    · obtain ⟨s0, s1, s2, s3, s4, s5, s6, s7⟩ := eight HB1.out
      go_wp2_with fail
      refine (C1.out (by trivial) _ hbw).mono ?_
      rintro r w4 ⟨rfl, hb4⟩
      replace HB1 := hidden (HB1.out.below hb4 (by omega))
      replace HB2 := hidden (HB2.out.below hb4 (by omega))
      have hz4 := hb4.size
      replace hbw := hbw.trans (hb4.mono hbw.size)
      clear hb4 s0 s1 s2 s3 s4 s5 s6 s7
      obtain ⟨s0, s1, s2, s3, s4, s5, s6, s7⟩ := eight HB1.out
      go_wp2_with fail
      refine (C2.out (by trivial) _ hbw).mono ?_
      rintro r w5 ⟨rfl, hb5⟩
      replace HB1 := hidden (HB1.out.below hb5 (by omega))
      replace HB2 := hidden (HB2.out.below hb5 (by omega))
      have hz5 := hb5.size
      replace hbw := hbw.trans (hb5.mono hbw.size)
      clear hb5 s0 s1 s2 s3 s4 s5 s6 s7
      have q1 : (ir == ir) = true := by simp
      have q2 : (fn == fn) = true := by simp
      have q3 : (eg == eg) = true := by simp
      have tok1 : True := trivial
      obtain ⟨s0, s1, s2, s3, s4, s5, s6, s7⟩ := eight HB1.out
      obtain ⟨t0, t1, t2, t3, t4, t5, t6, t7⟩ := eight HB2.out
      go_wp2_with fail
      go_region_held3 (fun w' => w'.cell? ⟨w.heap.size, 0, none⟩ = some (.slice A1 g.toks.length k1) ∧ w'.cell? ⟨w.heap.size, 1, none⟩ = some (.slice A2 g.rules.length k2) ∧ w'.cell? ⟨w.heap.size, 2, none⟩ = some (.slice A3 g.prods.length k3) ∧ w'.cell? ⟨w.heap.size, 3, none⟩ = some (.int .i64 g.start) ∧ w'.cell? ⟨w.heap.size, 4, none⟩ = some (.int .i64 g.states) ∧ w'.cell? ⟨w.heap.size, 5, none⟩ = some (.int .i64 g.text) ∧ w'.cell? ⟨w.heap.size, 6, none⟩ = some (.int .i64 g.nodes) ∧ w'.cell? ⟨w.heap.size, 7, none⟩ = some (.int .i64 g.pairs)
          ∧ w'.cell? ⟨w.heap.size + 1, 0, none⟩ = some (.slice E1 h.toks.length l1) ∧ w'.cell? ⟨w.heap.size + 1, 1, none⟩ = some (.slice E2 h.rules.length l2) ∧ w'.cell? ⟨w.heap.size + 1, 2, none⟩ = some (.slice E3 h.prods.length l3) ∧ w'.cell? ⟨w.heap.size + 1, 3, none⟩ = some (.int .i64 h.start) ∧ w'.cell? ⟨w.heap.size + 1, 4, none⟩ = some (.int .i64 h.states) ∧ w'.cell? ⟨w.heap.size + 1, 5, none⟩ = some (.int .i64 h.text) ∧ w'.cell? ⟨w.heap.size + 1, 6, none⟩ = some (.int .i64 h.nodes) ∧ w'.cell? ⟨w.heap.size + 1, 7, none⟩ = some (.int .i64 h.pairs) ∧ Below w5.heap.size w5 w')
        (first | exact ⟨s0, s1, s2, s3, s4, s5, s6, s7, t0, t1, t2, t3, t4, t5, t6, t7, Below.drew (Below.refl _ _)⟩ | (go_split_ands; exact keep_two HB1.out HB2.out (by (first | assumption | exact Below.drew (Below.refl _ _) | exact Below.refl _ _)) (by assumption)))
        (first | (go_at_call 36; go_split_ands; refine (C3.out (by trivial) _ (hbw.trans (Below.mono (by (first | assumption | exact Below.drew (Below.refl _ _) | exact Below.refl _ _)) hbw.size))).mono ?_; rintro e w6 ⟨⟨u6, rfl, HM6⟩, hb6⟩) | (go_at_call 40; go_split_ands; refine (C4.out (by trivial) _ (hbw.trans (Below.mono (by (first | assumption | exact Below.drew (Below.refl _ _) | exact Below.refl _ _)) hbw.size))).mono ?_; rintro e w7 ⟨⟨u7, rfl, HM7⟩, hb7⟩) | (go_at_call 39; go_split_ands; refine (same_self _ _ _ (RowM.rd HM6.out) (RowM.rd HM7.out) hb7).mono ?_; rintro e w8 ⟨rfl, hb8⟩) | (go_at_call 41; have _t := tok1; go_split_ands; refine (C5.out _ (hbw.trans (Below.mono (by (first | assumption | exact Below.drew (Below.refl _ _) | exact Below.refl _ _)) hbw.size))).mono ?_; rintro e w9a ⟨rfl, hb9a⟩; clear tok1 _t) | (go_at_call 41; go_split_ands; refine (C7.out _ (hbw.trans (Below.mono (by (first | assumption | exact Below.drew (Below.refl _ _) | exact Below.refl _ _)) hbw.size))).mono ?_; rintro e w9 ⟨rfl, hb9⟩) | (go_at_call 42; go_split_ands; refine (C6.out _ (hbw.trans (Below.mono (by (first | assumption | exact Below.drew (Below.refl _ _) | exact Below.refl _ _)) hbw.size))).mono ?_; rintro e w10 ⟨rfl, hb10⟩) | (go_at_call 31; go_split_ands; refine (knows18 _).mono ?_; rintro e w11 ⟨rfl, hb11⟩))
      have hbe := hidden (((((((hbw.drew.more hb6).more hb7).more hb8).more hb9a).more hb10).more hb9).more hb11)
      clear hb6 hb7 hb8 hb9 hb9a hb10 hb11 HM6 HM7
      go_wp2
      go_ret
      exact ⟨rfl, hbe.out⟩
end Go.Proofs.Ytaagkbgbghleiaa
