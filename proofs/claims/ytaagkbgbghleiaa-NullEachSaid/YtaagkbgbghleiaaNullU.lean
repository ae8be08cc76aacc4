/-
  law21: NullTells.
-/
import Derived.Test.YtaagkbgbghleiaaNullT
namespace Go.Proofs.Ytaagkbgbghleiaa
open Go.RowKit Go.Shelf

theorem keep_one {wr w1 w2 : World} {p : Nat} {t : TypeId} {a b c d e f g h : Value} (H : Holds wr p t #[a, b, c, d, e, f, g, h])
    (hb : Below wr.heap.size wr w1) (hb2 : Below w1.heap.size w1 w2) :
    w2.cell? ⟨p, 0, none⟩ = some a ∧ w2.cell? ⟨p, 1, none⟩ = some b ∧ w2.cell? ⟨p, 2, none⟩ = some c ∧ w2.cell? ⟨p, 3, none⟩ = some d ∧ w2.cell? ⟨p, 4, none⟩ = some e ∧ w2.cell? ⟨p, 5, none⟩ = some f ∧ w2.cell? ⟨p, 6, none⟩ = some g ∧ w2.cell? ⟨p, 7, none⟩ = some h ∧ Below wr.heap.size wr w2 := by
  have hb3 := hb.trans (hb2.mono hb.size)
  obtain ⟨x0, x1, x2, x3, x4, x5, x6, x7⟩ := eight (H.below hb3 H.lt)
  exact ⟨x0, x1, x2, x3, x4, x5, x6, x7, hb3⟩
theorem few_is {g : Gram} (h : fewB g = true) (hz : Named g) : Small g := ⟨by have := (few_small h).1; omega, by have := (few_small h).2.1; omega, by have := (few_small h).2.2; omega, hz⟩
/-- What comes of the six questions: rows of the same. -/
theorem null_sets (a b c : Value) (g : Gram) (w : World) (HG : GramIs w (Old w) a b c g) (hsm : Small g) :
    Calls Try.prog 44 #[.agg (gramCells a b c g)] w (fun r w' => (∃ u, r = .returned u ∧ Hid (Bools w' (Old w') u (growsOr g false))) ∧ Below w.heap.size w w') ∧
    Calls Try.prog 45 #[.agg (gramCells a b c g)] w (fun r w' => (∃ u, r = .returned u ∧ Hid (Bools w' (Old w') u (growsOr g true))) ∧ Below w.heap.size w w') ∧
    Calls Try.prog 46 #[.agg (gramCells a b c g)] w (fun r w' => (∃ u, r = .returned u ∧ Hid (Bools w' (Old w') u (reachOr g))) ∧ Below w.heap.size w w') := by
  refine ⟨(null_Empty a b c g w HG hsm).mono ?_, (null_Makes a b c g w HG hsm).mono ?_, (null_Reached a b c g w HG hsm).mono ?_⟩
  all_goals
    rintro r w' ⟨⟨u, rfl, hu⟩, hb⟩
    exact ⟨⟨u, rfl, hidden (hu.out.row (by have := hsm.rules; unfold maxLen; omega))⟩, hb⟩

set_option maxRecDepth 20000 in
set_option maxHeartbeats 8000000 in
theorem law_nullTells (a b c v : Value) (g : Gram) (l : List Item) (w : World) (HG : GramIs w (Old w) a b c g) (hz : Named g) (hR : Rd w (Old w) 4 v l.length (l.flatMap itCells)) :
    Calls Try.prog 11 #[.agg (gramCells a b c g), v] w fun r w' => r = .returned (.bool true) ∧ Below w.heap.size w w' := by
  have F1 := hidden (fun (w' : World) (hb : Below w.heap.size w w') => law_Few a b c g w' (HG.old hb) hz)
  have N1 := hidden (fun (hs : fewB g = true) (w' : World) (hb : Below w.heap.size w w') => (null_sets a b c g w' (HG.old hb) (few_is hs hz)).1)
  have N2 := hidden (fun (hs : fewB g = true) (w' : World) (hb : Below w.heap.size w w') => (null_sets a b c g w' (HG.old hb) (few_is hs hz)).2.1)
  have N3 := hidden (fun (hs : fewB g = true) (w' : World) (hb : Below w.heap.size w w') => (null_sets a b c g w' (HG.old hb) (few_is hs hz)).2.2)
  have R1 := hidden (fun (hs : fewB g = true) (w' : World) (hb : Below w.heap.size w w') => ref_Empty21 a b c g w' (HG.old hb) (few_is hs hz))
  have R2 := hidden (fun (hs : fewB g = true) (w' : World) (hb : Below w.heap.size w w') => ref_Makes21 a b c g w' (HG.old hb) (few_is hs hz))
  have R3 := hidden (fun (hs : fewB g = true) (w' : World) (hb : Below w.heap.size w w') => ref_Reached a b c g w' (HG.old hb) (few_is hs hz))
  have V1 := hidden (fun (hs : fewB g = true) (w' : World) (hb : Below w.heap.size w w') => null_Void a b c v g l w' (HG.old hb) (few_is hs hz) (Rd.old hR hb))
  have V2 := hidden (fun (hs : fewB g = true) (w' : World) (hb : Below w.heap.size w w') => ref_Void21 a b c v g l w' (HG.old hb) (few_is hs hz) (Rd.old hR hb))
  have e3 : (if rightB g = true then reachB g else []) = reachOr g := rfl
  rw [e3] at R3
  clear e3
  obtain ⟨⟨A1, k1, rfl, v1, m1⟩, ⟨A2, k2, rfl, v2, m2⟩, ⟨A3, k3, rfl, v3, m3⟩⟩ := HG.vals
  obtain ⟨A4, k4, rfl, v4, m4⟩ := hR.val
  clear HG hR
  unfold gramCells maxLen at *
  generalize fewB g = fg at *
  generalize growsOr g false = q1 at *
  generalize growsOr g true = q2 at *
  generalize reachOr g = q3 at *
  generalize voidOf g l = vo at *
  have hb := Below.refl w.heap.size w
  have hstop : fg = false ∨ (fg = true ∧ 60 < l.length) ∨ (fg = true ∧ ¬ 60 < l.length) := by
    cases fg
    · exact .inl rfl
    · rcases Nat.lt_or_ge 60 l.length with h | h
      · exact .inr (.inl ⟨rfl, h⟩)
      · exact .inr (.inr ⟨rfl, by omega⟩)
  rcases hstop with rfl | ⟨rfl, hl⟩ | ⟨rfl, hl⟩
  iterate 2
    · go_enter Try.func11, Try.ntmps11
      go_wp2_with fail
      refine (F1.out _ ?_).mono ?_
      · exact (by repeat (first | (with_reducible exact Below.refl _ _) | (with_reducible assumption) | (with_reducible refine Below.drew ?_) | (with_reducible refine below_drewN ?_ _) | ((with_reducible refine below_alloc ?_ ?_); (focus (first | omega | (simp; done) | (simp; omega)))) | ((with_reducible refine below_set ?_ ?_); (focus (first | omega | (simp; done) | (simp; omega))))))
      rintro r w2 ⟨rfl, hb2⟩
      have hbw : Below w.heap.size w w2 := Below.trans (by repeat (first | (with_reducible exact Below.refl _ _) | (with_reducible assumption) | (with_reducible refine Below.drew ?_) | (with_reducible refine below_drewN ?_ _) | ((with_reducible refine below_alloc ?_ ?_); (focus (first | omega | (simp; done) | (simp; omega)))) | ((with_reducible refine below_set ?_ ?_); (focus (first | omega | (simp; done) | (simp; omega)))))) (hb2.mono (by simp))
      clear hb2
      go_wp2_with fail
      refine (knows21 _).mono ?_
      rintro r w3 ⟨rfl, hb3⟩
      replace hbw := hbw.trans (hb3.mono hbw.size)
      clear hb3
      go_wp2
      go_ret
      exact ⟨rfl, hbw⟩
  · go_enter Try.func11, Try.ntmps11
    go_wp2_with fail
    refine (F1.out _ ?_).mono ?_
    · exact (by repeat (first | (with_reducible exact Below.refl _ _) | (with_reducible assumption) | (with_reducible refine Below.drew ?_) | (with_reducible refine below_drewN ?_ _) | ((with_reducible refine below_alloc ?_ ?_); (focus (first | omega | (simp; done) | (simp; omega)))) | ((with_reducible refine below_set ?_ ?_); (focus (first | omega | (simp; done) | (simp; omega))))))
    rintro r w2 ⟨rfl, hb2⟩
    have hbw : Below w.heap.size w w2 := Below.trans (by repeat (first | (with_reducible exact Below.refl _ _) | (with_reducible assumption) | (with_reducible refine Below.drew ?_) | (with_reducible refine below_drewN ?_ _) | ((with_reducible refine below_alloc ?_ ?_); (focus (first | omega | (simp; done) | (simp; omega)))) | ((with_reducible refine below_set ?_ ?_); (focus (first | omega | (simp; done) | (simp; omega)))))) (hb2.mono (by simp))
    have HB1 := hidden (Holds.below (show Holds _ w.heap.size 36 #[.slice A1 g.toks.length k1, .slice A2 g.rules.length k2, .slice A3 g.prods.length k3, .int .i64 g.start, .int .i64 g.states, .int .i64 g.text, .int .i64 g.nodes, .int .i64 g.pairs] from (by repeat (first | (with_reducible assumption) | ((with_reducible refine holds_new ?_); (focus (first | rfl | (simp; done)))) | (with_reducible refine Holds.alloc ?_ _) | (with_reducible refine Holds.drew ?_)))) hb2 (by simp))
    obtain ⟨s0, s1, s2, s3, s4, s5, s6, s7⟩ := eight HB1.out
    clear hb2 hb F1
    have t1 : (vo == vo) = true := by simp
    have tok1 : True := trivial
    have tok2 : True := trivial
    go_wp2_with fail
    go_region_held3 (fun w' => w'.cell? ⟨w.heap.size, 0, none⟩ = some (.slice A1 g.toks.length k1) ∧ w'.cell? ⟨w.heap.size, 1, none⟩ = some (.slice A2 g.rules.length k2) ∧ w'.cell? ⟨w.heap.size, 2, none⟩ = some (.slice A3 g.prods.length k3) ∧ w'.cell? ⟨w.heap.size, 3, none⟩ = some (.int .i64 g.start) ∧ w'.cell? ⟨w.heap.size, 4, none⟩ = some (.int .i64 g.states) ∧ w'.cell? ⟨w.heap.size, 5, none⟩ = some (.int .i64 g.text) ∧ w'.cell? ⟨w.heap.size, 6, none⟩ = some (.int .i64 g.nodes) ∧ w'.cell? ⟨w.heap.size, 7, none⟩ = some (.int .i64 g.pairs) ∧ Below w2.heap.size w2 w')
      (first | exact ⟨s0, s1, s2, s3, s4, s5, s6, s7, Below.drew (Below.refl _ _)⟩ | (go_split_ands; exact keep_one HB1.out (by (first | assumption | exact Below.drew (Below.refl _ _) | exact Below.refl _ _)) (by assumption)))
      (first | (go_at_call 44; go_split_ands; refine (N1.out (by trivial) _ (hbw.trans (Below.mono (by (first | assumption | exact Below.drew (Below.refl _ _) | exact Below.refl _ _)) hbw.size))).mono ?_; rintro e w4 ⟨⟨u4, rfl, hu4⟩, hb4⟩) | (go_at_call 48; go_split_ands; refine (R1.out (by trivial) _ (hbw.trans (Below.mono (by (first | assumption | exact Below.drew (Below.refl _ _) | exact Below.refl _ _)) hbw.size))).mono ?_; rintro e w5 ⟨⟨u5, rfl, hu5⟩, hb5⟩) | (go_at_call 47; have _t := tok1; go_split_ands; refine (bools_self (Rd.old hu4.out hb5) hu5.out).mono ?_; rintro e w6 ⟨rfl, hb6⟩; clear tok1 _t) | (go_at_call 45; go_split_ands; refine (N2.out (by trivial) _ (hbw.trans (Below.mono (by (first | assumption | exact Below.drew (Below.refl _ _) | exact Below.refl _ _)) hbw.size))).mono ?_; rintro e w7 ⟨⟨u7, rfl, hu7⟩, hb7⟩) | (go_at_call 49; go_split_ands; refine (R2.out (by trivial) _ (hbw.trans (Below.mono (by (first | assumption | exact Below.drew (Below.refl _ _) | exact Below.refl _ _)) hbw.size))).mono ?_; rintro e w8 ⟨⟨u8, rfl, hu8⟩, hb8⟩) | (go_at_call 47; have _t := tok2; go_split_ands; refine (bools_self (Rd.old hu7.out hb8) hu8.out).mono ?_; rintro e w9 ⟨rfl, hb9⟩; clear tok2 _t) | (go_at_call 46; go_split_ands; refine (N3.out (by trivial) _ (hbw.trans (Below.mono (by (first | assumption | exact Below.drew (Below.refl _ _) | exact Below.refl _ _)) hbw.size))).mono ?_; rintro e w10 ⟨⟨u10, rfl, hu10⟩, hb10⟩) | (go_at_call 50; go_split_ands; refine (R3.out (by trivial) _ (hbw.trans (Below.mono (by (first | assumption | exact Below.drew (Below.refl _ _) | exact Below.refl _ _)) hbw.size))).mono ?_; rintro e w11 ⟨⟨u11, rfl, hu11⟩, hb11⟩) | (go_at_call 47; go_split_ands; refine (bools_self (Rd.old hu10.out hb11) hu11.out).mono ?_; rintro e w12 ⟨rfl, hb12⟩) | (go_at_call 51; go_split_ands; refine (V1.out (by trivial) _ (hbw.trans (Below.mono (by (first | assumption | exact Below.drew (Below.refl _ _) | exact Below.refl _ _)) hbw.size))).mono ?_; rintro e w13 ⟨rfl, hb13⟩) | (go_at_call 52; go_split_ands; refine (V2.out (by trivial) _ (hbw.trans (Below.mono (by (first | assumption | exact Below.drew (Below.refl _ _) | exact Below.refl _ _)) hbw.size))).mono ?_; rintro e w14 ⟨rfl, hb14⟩) | (go_at_call 43; go_split_ands; refine (knows21 _).mono ?_; rintro e w15 ⟨rfl, hb15⟩))
    have hbe := hidden ((((((((((((hbw.drew.more hb4).more hb5).more hb6).more hb7).more hb8).more hb9).more hb10).more hb11).more hb12).more hb13).more hb14).more hb15)
    clear hb4 hb5 hb6 hb7 hb8 hb9 hb10 hb11 hb12 hb13 hb14 hb15
    go_wp2
    go_ret
    exact ⟨rfl, hbe.out⟩
end Go.Proofs.Ytaagkbgbghleiaa
