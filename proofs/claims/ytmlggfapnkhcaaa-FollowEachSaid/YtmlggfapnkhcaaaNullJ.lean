/-
  facsimileref21: Void.
-/
import Derived.Test.YtmlggfapnkhcaaaNullI
namespace Go.Proofs.Ytmlggfapnkhcaaa
open Go.RowKit Go.Shelf

/-- Whether items come to nothing. -/
noncomputable def voidOf (g : Gram) (l : List Item) : Bool := rightB g && (itemsIn g l && l.all (itemSo (growsB g false) false))
theorem itemsIn_rule {g : Gram} {l : List Item} (h : itemsIn g l = true) {x : Item} (hx : x ∈ l) (hr : x.rule = true) : 0 ≤ x.n ∧ x.n < g.rules.length := by
  unfold itemsIn at h
  rw [List.all_eq_true] at h
  have := h x hx
  unfold itemIn at this
  rw [if_pos hr, Bool.and_eq_true, decide_eq_true_iff, decide_eq_true_iff] at this
  exact this
theorem growsB_len (g : Gram) (tk : Bool) : (growsB g tk).length = g.rules.length := by simp [growsB]

set_option maxRecDepth 20000 in
set_option maxHeartbeats 8000000 in
theorem ref_Void21 (a b c v : Value) (g : Gram) (l : List Item) (w : World) (HG : GramIs w (Old w) a b c g) (hsm : Small g) (hR : Rd w (Old w) 4 v l.length (l.flatMap itCells)) :
    Calls Try.prog 36 #[.agg (gramCells a b c g), v] w fun r w' => r = .returned (.bool (voidOf g l)) ∧ Below w.heap.size w w' := by
  have H1 := hidden (fun (w' : World) (hb : Below w.heap.size w w') => ref_Right21 a b c g w' (HG.old hb) hsm.toks hsm.rules hsm.prods hsm.names)
  have H2 := hidden (fun (w' : World) (hb : Below w.heap.size w w') => ref_Items21 a b c v g l w' (HG.old hb) (Rd.old hR hb))
  have H3 := hidden (fun (w' : World) (hb : Below w.heap.size w w') => ref_Empty21 a b c g w' (HG.old hb) hsm)
  have H4 := hidden (fun (h : itemsIn g l = true) (u : Value) (w' : World) (hb : Below w.heap.size w w') (hu : Bools w' (Old w') u (growsB g false)) => ref_all21 v u l (growsB g false) false (Old w') w' (Rd.old hR hb) hu (fun x hx hr => by rw [growsB_len]; exact itemsIn_rule h hx hr))
  obtain ⟨⟨A1, k1, rfl, v1, m1⟩, ⟨A2, k2, rfl, v2, m2⟩, ⟨A3, k3, rfl, v3, m3⟩⟩ := HG.vals
  obtain ⟨A, c, rfl, hc1, hc2⟩ := hR.val
  have hb := Below.refl w.heap.size w
  unfold growsOr at H3
  unfold voidOf gramCells at *
  clear HG hR hsm
  generalize rightB g = rb at *
  generalize itemsIn g l = ib at *
  generalize growsB g false = s at *
  generalize l.all (itemSo s false) = al at *
  cases rb
  · rw [Bool.false_and]
    go_enter Try.func36, Try.ntmps36
    go_wp2_with fail
    refine (H1.out _ ?_).mono ?_
    · exact (by repeat (first | (with_reducible exact Below.refl _ _) | (with_reducible assumption) | (with_reducible refine Below.drew ?_) | (with_reducible refine below_drewN ?_ _) | ((with_reducible refine below_alloc ?_ ?_); (focus (first | omega | (simp; done) | (simp; omega)))) | ((with_reducible refine below_set ?_ ?_); (focus (first | omega | (simp; done) | (simp; omega))))))
    rintro r w2 ⟨rfl, hb2⟩
    have hbw : Below w.heap.size w w2 := Below.trans (by repeat (first | (with_reducible exact Below.refl _ _) | (with_reducible assumption) | (with_reducible refine Below.drew ?_) | (with_reducible refine below_drewN ?_ _) | ((with_reducible refine below_alloc ?_ ?_); (focus (first | omega | (simp; done) | (simp; omega)))) | ((with_reducible refine below_set ?_ ?_); (focus (first | omega | (simp; done) | (simp; omega)))))) (hb2.mono (by simp))
    clear hb2
    go_wp2
    go_ret
    exact ⟨rfl, hbw⟩
  rw [Bool.true_and]
  rw [if_pos rfl] at H3
  cases ib
  · rw [Bool.false_and]
    go_enter Try.func36, Try.ntmps36
    go_wp2_with fail
    refine (H1.out _ ?_).mono ?_
    · exact (by repeat (first | (with_reducible exact Below.refl _ _) | (with_reducible assumption) | (with_reducible refine Below.drew ?_) | (with_reducible refine below_drewN ?_ _) | ((with_reducible refine below_alloc ?_ ?_); (focus (first | omega | (simp; done) | (simp; omega)))) | ((with_reducible refine below_set ?_ ?_); (focus (first | omega | (simp; done) | (simp; omega))))))
    rintro r w2 ⟨rfl, hb2⟩
    have hbw : Below w.heap.size w w2 := Below.trans (by repeat (first | (with_reducible exact Below.refl _ _) | (with_reducible assumption) | (with_reducible refine Below.drew ?_) | (with_reducible refine below_drewN ?_ _) | ((with_reducible refine below_alloc ?_ ?_); (focus (first | omega | (simp; done) | (simp; omega)))) | ((with_reducible refine below_set ?_ ?_); (focus (first | omega | (simp; done) | (simp; omega)))))) (hb2.mono (by simp))
    have P3 := hidden (Holds.below (show Holds _ w.heap.size 26 #[.slice A1 g.toks.length k1, .slice A2 g.rules.length k2, .slice A3 g.prods.length k3, .int .i64 g.start, .int .i64 g.states, .int .i64 g.text, .int .i64 g.nodes, .int .i64 g.pairs] from (by repeat (first | (with_reducible assumption) | ((with_reducible refine holds_new ?_); (focus (first | rfl | (simp; done)))) | (with_reducible refine Holds.alloc ?_ _) | (with_reducible refine Holds.drew ?_)))) hb2 (by simp))
    obtain ⟨s0, s1, s2, s3, s4, s5, s6, s7⟩ := eight P3.out
    clear hb2
    go_wp2_with fail
    refine (H2.out _ hbw).mono ?_
    rintro r w3 ⟨rfl, hb3⟩
    replace hbw := hbw.more hb3
    clear hb3 s0 s1 s2 s3 s4 s5 s6 s7
    go_wp2
    go_ret
    exact ⟨rfl, hbw⟩
  rw [Bool.true_and]
  go_enter Try.func36, Try.ntmps36
  go_wp2_with fail
  refine (H1.out _ ?_).mono ?_
  · exact (by repeat (first | (with_reducible exact Below.refl _ _) | (with_reducible assumption) | (with_reducible refine Below.drew ?_) | (with_reducible refine below_drewN ?_ _) | ((with_reducible refine below_alloc ?_ ?_); (focus (first | omega | (simp; done) | (simp; omega)))) | ((with_reducible refine below_set ?_ ?_); (focus (first | omega | (simp; done) | (simp; omega))))))
  rintro r w2 ⟨rfl, hb2⟩
  have hbw : Below w.heap.size w w2 := Below.trans (by repeat (first | (with_reducible exact Below.refl _ _) | (with_reducible assumption) | (with_reducible refine Below.drew ?_) | (with_reducible refine below_drewN ?_ _) | ((with_reducible refine below_alloc ?_ ?_); (focus (first | omega | (simp; done) | (simp; omega)))) | ((with_reducible refine below_set ?_ ?_); (focus (first | omega | (simp; done) | (simp; omega)))))) (hb2.mono (by simp))
  have P3 := hidden (Holds.below (show Holds _ w.heap.size 26 #[.slice A1 g.toks.length k1, .slice A2 g.rules.length k2, .slice A3 g.prods.length k3, .int .i64 g.start, .int .i64 g.states, .int .i64 g.text, .int .i64 g.nodes, .int .i64 g.pairs] from (by repeat (first | (with_reducible assumption) | ((with_reducible refine holds_new ?_); (focus (first | rfl | (simp; done)))) | (with_reducible refine Holds.alloc ?_ _) | (with_reducible refine Holds.drew ?_)))) hb2 (by simp))
  obtain ⟨s0, s1, s2, s3, s4, s5, s6, s7⟩ := eight P3.out
  have hz2 : w.heap.size + 1 ≤ w2.heap.size := by have := hb2.size; simpa using this
  clear hb2 hb
  go_wp2_with fail
  refine (H2.out _ hbw).mono ?_
  rintro r w3 ⟨rfl, hb3⟩
  replace P3 := hidden (P3.out.below hb3 (by omega))
  replace hbw := hbw.more hb3
  clear hb3 s0 s1 s2 s3 s4 s5 s6 s7
  obtain ⟨s0, s1, s2, s3, s4, s5, s6, s7⟩ := eight P3.out
  go_wp2_with fail
  refine (H3.out _ hbw).mono ?_
  rintro r w4 ⟨⟨u, rfl, HU⟩, hb4⟩
  replace hbw := hbw.more hb4
  have HA := hidden (H4.out (by trivial) _ _ hbw HU.out)
  obtain ⟨Au, cu, rfl, _, _⟩ := HU.out.val
  clear hb4 s0 s1 s2 s3 s4 s5 s6 s7 P3 HU H4
  go_wp2_with fail
  refine HA.out.mono ?_
  rintro r w5 ⟨rfl, rfl⟩
  go_wp2
  go_ret
  exact ⟨rfl, hbw⟩
end Go.Proofs.Ytmlggfapnkhcaaa
