/-
  law23: FollowEach.
-/
import Derived.Test.YtmlggfapnkhcaaaH1
import Derived.Test.YtmlggfapnkhcaaaFollowH
import Derived.Test.YtmlggfapnkhcaaaK1
import Derived.StillTailTactics
import Derived.Deep.RegionWith
namespace Go.Proofs.Ytmlggfapnkhcaaa
open Go.RowKit Go.Shelf
attribute [local simp] wide_fn

theorem one_intsJ (l : List Int) : Hid (∀ u ∈ l.flatMap (one1 intV), u.oneCell' = true) := hidden (fun u hu => by
  rw [List.mem_flatMap] at hu
  obtain ⟨x, _, hu⟩ := hu
  simp [one1] at hu; subst hu; rfl)
/-- The list that is put together, between two steps. -/
structure BrAt (w5 : World) (B0 : Nat) (ll : Value) (l : List Int) (wx : World) : Prop where
  m : IntsM wx B0 ll l
  own : ∀ q, ll.ownBlock = some q → q < wx.heap.size
  b : Below w5.heap.size w5 wx
  z : B0 ≤ wx.heap.size
section
variable {w5 w w' : World} {B0 : Nat} {ll v' : Value} {l m : List Int}
theorem BrAt.next (h : BrAt w5 B0 ll l w) (hb : Below w.heap.size w w') : BrAt w5 B0 ll l w' :=
  ⟨Mine.below h.m hb, fun q hq => Nat.lt_of_lt_of_le (h.own q hq) hb.size, h.b.more hb, Nat.le_trans h.z hb.size⟩
theorem BrAt.app (h : BrAt w5 B0 ll l w) (hB : w5.heap.size ≤ B0) (hA : Appended w B0 3 1 ll (l.length + m.length) (l.flatMap (one1 intV) ++ m.flatMap (one1 intV)) v' w') : BrAt w5 B0 v' (l ++ m) w' := by
  refine ⟨?_, fun q hq => ?_, h.b.trans (hA.below.mono hB), Nat.le_trans h.z hA.below.size⟩
  · have := hA.mine
    unfold IntsM RowM
    rw [List.length_append, List.flatMap_append]
    exact this
  · rcases hA.at_ with e | ⟨g, e, _, h2⟩
    · rw [e] at hq; exact Nat.lt_of_lt_of_le (h.own q hq) hA.below.size
    · rw [e] at hq; cases hq; exact h2
theorem BrAt.one {u : Int} (h : BrAt w5 B0 ll [] w) (hB : w5.heap.size ≤ B0) (hA : IntsM w' B0 v' ([] ++ [u])) (hb : Below B0 w w') : BrAt w5 B0 v' [u] w' := by
  refine ⟨hA, fun q hq => ?_, h.b.trans (hb.mono hB), Nat.le_trans h.z hb.size⟩
  rcases hA with hA | ⟨h0, _⟩
  · exact (hA.lt q hq).2
  · simp at h0
theorem BrAt.apart (h : BrAt w5 B0 ll l w) : ll.ownBlock ≠ some w.heap.size := fun e => by have := h.own _ e; omega
theorem app_apart {n : Nat} {xs : List Value} {pb : Nat} (hA : Appended w B0 3 1 ll n xs v' w') (h : ll.ownBlock ≠ some pb) (hp : pb < w.heap.size) : v'.ownBlock ≠ some pb := by
  rcases hA.at_ with e | ⟨g, e, h1, _⟩
  · rw [e]; exact h
  · rw [e]; intro k; cases k; omega
end
theorem keep_br8 {wr w2 : World} {p B b o : Nat} {t : TypeId} {a0 a1 a2 a3 a4 a5 a6 a7 v : Value} (H : Holds wr p t #[a0, a1, a2, a3, a4, a5, a6, a7]) (hp : p < B) (hc : w2.cell? ⟨b, o, none⟩ = some v) (hB : Below B wr w2) :
    w2.cell? ⟨p, 0, none⟩ = some a0 ∧ w2.cell? ⟨p, 1, none⟩ = some a1 ∧ w2.cell? ⟨p, 2, none⟩ = some a2 ∧ w2.cell? ⟨p, 3, none⟩ = some a3 ∧ w2.cell? ⟨p, 4, none⟩ = some a4 ∧ w2.cell? ⟨p, 5, none⟩ = some a5 ∧ w2.cell? ⟨p, 6, none⟩ = some a6 ∧ w2.cell? ⟨p, 7, none⟩ = some a7 ∧ w2.cell? ⟨b, o, none⟩ = some v ∧ Below B wr w2 := by
  obtain ⟨x0, x1, x2, x3, x4, x5, x6, x7⟩ := eight22 (H.below hB hp)
  exact ⟨x0, x1, x2, x3, x4, x5, x6, x7, hc, hB⟩
theorem keep_nine {wr w1 w2 : World} {p b o : Nat} {t : TypeId} {a0 a1 a2 a3 a4 a5 a6 a7 v : Value} (H : Holds wr p t #[a0, a1, a2, a3, a4, a5, a6, a7]) (hc : wr.cell? ⟨b, o, none⟩ = some v) (hb : Below wr.heap.size wr w1) (hb2 : Below w1.heap.size w1 w2) :
    w2.cell? ⟨p, 0, none⟩ = some a0 ∧ w2.cell? ⟨p, 1, none⟩ = some a1 ∧ w2.cell? ⟨p, 2, none⟩ = some a2 ∧ w2.cell? ⟨p, 3, none⟩ = some a3 ∧ w2.cell? ⟨p, 4, none⟩ = some a4 ∧ w2.cell? ⟨p, 5, none⟩ = some a5 ∧ w2.cell? ⟨p, 6, none⟩ = some a6 ∧ w2.cell? ⟨p, 7, none⟩ = some a7 ∧ w2.cell? ⟨b, o, none⟩ = some v ∧ Below wr.heap.size wr w2 := by
  have hbb := hb.trans (hb2.mono hb.size)
  obtain ⟨x0, x1, x2, x3, x4, x5, x6, x7⟩ := eight22 (H.below hbb H.lt)
  exact ⟨x0, x1, x2, x3, x4, x5, x6, x7, cell_onI hc hbb, hbb⟩
theorem keep_two {wr w1 w2 : World} {b o b' o' : Nat} {v v' : Value} (h : wr.cell? ⟨b, o, none⟩ = some v) (h' : wr.cell? ⟨b', o', none⟩ = some v') (hb : Below wr.heap.size wr w1) (hb2 : Below w1.heap.size w1 w2) : w2.cell? ⟨b, o, none⟩ = some v ∧ w2.cell? ⟨b', o', none⟩ = some v' ∧ Below wr.heap.size wr w2 :=
  have hbb := hb.trans (hb2.mono hb.size)
  ⟨cell_onI h hbb, cell_onI h' hbb, hbb⟩

set_option maxRecDepth 20000 in
set_option maxHeartbeats 16000000 in
theorem law_followEach (a b c : Value) (g : Gram) (w : World) (HG : GramIs w (Old w) a b c g) (hz : Named g) :
    Calls Try.prog 6 #[.agg (gramCells a b c g)] w fun r w' => r = .returned (.bool true) ∧ Below w.heap.size w w' := by
  have F1 := hidden (fun (w' : World) (hb : Below w.heap.size w w') => law_Small a b c g w' (HG.old hb) hz)
  have C1 := hidden (fun (hs : smallB g = true) (w' : World) (hb : Below w.heap.size w w') => ref_Check a b c g w' (HG.old hb) (small_is hs hz).1.toks (small_is hs hz).1.rules (small_is hs hz).1.prods hz)
  have N1 := hidden (fun (hs : smallB g = true) (w' : World) (hb : Below w.heap.size w w') => follow_All a b c g w' (HG.old hb) (small_is hs hz).1)
  have N2 := hidden (fun (hs : smallB g = true) (w' : World) (hb : Below w.heap.size w w') => ref_Reached a b c g w' (HG.old hb) (small_is hs hz).1)
  have N3 := hidden (fun (hs : smallB g = true) (w' : World) (hb : Below w.heap.size w w') => follow_End a b c g w' (HG.old hb) (small_is hs hz).1)
  have N4 := hidden (fun (hs : smallB g = true) (w' : World) (hb : Below w.heap.size w w') => follow_Follows a b c g g.start (g.toks.length : Int) w' (HG.old hb) (small_is hs hz).1)
  have N5 := hidden (fun (hs : smallB g = true) (w' : World) (hb : Below w.heap.size w w') v (l : List Item) hR => ref_Of22 a b c v g l w' (HG.old hb) (small_is hs hz).1 hR)
  have N6 := hidden (fun (hs : smallB g = true) (w' : World) (hb : Below w.heap.size w w') v (l : List Item) hR => ref_Void21 a b c v g l w' (HG.old hb) (small_is hs hz).1 hR)
  have HGo := hidden HG.2.2
  have HSm := hidden (fun (h : smallB g = true) => (smallB_iff.1 h).2)
  have HEr := hidden (fun (h : rightB g = true) (r : Nat) (hl : r < g.rules.length) => each_follow h hl)
  have HEu := hidden (fun (h : rightB g = true) (r : Nat) (hl : r < g.rules.length) (hn : atB (reachB g) (r : Int) = false) => each_unreached h hl hn)
  have HSf := hidden (fun (h : rightB g = true) => start_follows h)
  have HWh := hidden (fun (h : rightB g = true) => whole22 h)
  have HFl := hidden (fun (h : rightB g = true) => fol23_len h)
  have HRl := hidden (reachB_len g)
  have HP0 := hidden (fun (r : Int) => bringP_zero g r)
  have HS0 := hidden (fun (r : Int) (i : Nat) (p : Prod) => bringS_zero g r i p)
  have HSk := hidden (fun (r : Int) (i k : Nat) (p : Prod) (x : Item) (hx : p.right[k]? = some x) (h : x.rule = false ∨ x.n ≠ r) => bringS_skip (g := g) (i := i) hx h)
  have HSt := hidden (fun (r : Int) (i k : Nat) (p : Prod) (x : Item) (hrb : atB (reachB g) p.left = true) (hx : p.right[k]? = some x) (h : x.rule = true) (hn : x.n = r) => bringS_take (i := i) hrb hx h hn)
  have HSe := hidden (fun (r : Int) (i : Nat) (p : Prod) (h : g.prods[i]? = some p) => bringS_end (r := r) h)
  have HSd := hidden (fun (r : Int) (i k : Nat) (p : Prod) (h : g.prods[i]? = some p) (hn : atB (reachB g) p.left = false) => bringS_dead (r := r) (k := k) h hn)
  have HPf := hidden (fun (h : rightB g = true) (h1 : g.prods.length ≤ 30) (h2 : g.toks.length ≤ 12) (r : Int) (n : Nat) (hn : n ≤ g.prods.length) => bringP_fin h h1 h2 r hn)
  have HSg := hidden (fun (h : rightB g = true) (h1 : g.prods.length ≤ 30) (h2 : g.toks.length ≤ 12) (r : Int) (i k : Nat) (p : Prod) (hx : g.prods[i]? = some p) (hk : k ≤ p.right.length) => bringS_fin h h1 h2 r hx hk)
  have HFd := hidden (fun (r : Nat) => getD_len (bd_fol23 g) r)
  have HLn := hidden (firsts_len g)
  obtain ⟨⟨A1, k1, rfl, v1, m1⟩, ⟨A2, k2, rfl, v2, m2⟩, ⟨A3, k3, rfl, v3, m3⟩⟩ := HG.vals
  have hq1 : Hid (∀ w, (Op.equalIn 10000 40 (.agg #[.int .i64 (checkOf g).kind, .int .i64 (checkOf g).at_, .int .i64 (checkOf g).more]) (.agg #[.int .i64 0, .int .i64 0, .int .i64 0])).run Try.prog w = .ok (rightB g) w) := hidden (fun w => by
    have := def_eq_run w (checkOf g) D0
    rw [right_eq] at this
    exact this)
  clear HG
  unfold gramCells defC maxLen at *
  have hstop : smallB g = false ∨ (smallB g = true ∧ rightB g = false) ∨ (smallB g = true ∧ rightB g = true) := by
    cases smallB g <;> cases rightB g <;> simp
  have hb := Below.refl w.heap.size w
  rcases hstop with hf | ⟨hf, hr⟩ | ⟨hf, hr⟩
  · rw [hf] at F1
    clear hf
    go_enter Try.func6, Try.ntmps6
    go_wp2_with fail
    refine (F1.out _ ?_).mono ?_
    · exact (by repeat (first | (with_reducible exact Below.refl _ _) | (with_reducible assumption) | (with_reducible refine Below.drew ?_) | (with_reducible refine below_drewN ?_ _) | ((with_reducible refine below_alloc ?_ ?_); (focus (first | omega | (simp; done) | (simp; omega)))) | ((with_reducible refine below_set ?_ ?_); (focus (first | omega | (simp; done) | (simp; omega))))))
    rintro r w2 ⟨rfl, hb2⟩
    have hbw : Below w.heap.size w w2 := Below.trans (by repeat (first | (with_reducible exact Below.refl _ _) | (with_reducible assumption) | (with_reducible refine Below.drew ?_) | (with_reducible refine below_drewN ?_ _) | ((with_reducible refine below_alloc ?_ ?_); (focus (first | omega | (simp; done) | (simp; omega)))) | ((with_reducible refine below_set ?_ ?_); (focus (first | omega | (simp; done) | (simp; omega)))))) (hb2.mono (by simp))
    have HB1 := hidden (Holds.below (show Holds _ w.heap.size 26 #[.slice A1 g.toks.length k1, .slice A2 g.rules.length k2, .slice A3 g.prods.length k3, .int .i64 g.start, .int .i64 g.states, .int .i64 g.text, .int .i64 g.nodes, .int .i64 g.pairs] from (by repeat (first | (with_reducible assumption) | ((with_reducible refine holds_new ?_); (focus (first | rfl | (simp; done)))) | (with_reducible refine Holds.alloc ?_ _) | (with_reducible refine Holds.drew ?_)))) hb2 (by simp))
    obtain ⟨s0, s1, s2, s3, s4, s5, s6, s7⟩ := eight22 HB1.out
    clear hb2
    go_wp2_with fail
    refine (knows23 _).mono ?_
    rintro r w3 ⟨rfl, hb3⟩
    replace hbw := hbw.more hb3
    clear hb3
    go_wp2
    go_ret
    exact ⟨rfl, hbw⟩
  · rw [hf] at F1
    replace C1 := hidden (C1.out hf)
    rw [hr] at hq1
    clear hf hr
    go_enter Try.func6, Try.ntmps6
    go_wp2_with fail
    refine (F1.out _ ?_).mono ?_
    · exact (by repeat (first | (with_reducible exact Below.refl _ _) | (with_reducible assumption) | (with_reducible refine Below.drew ?_) | (with_reducible refine below_drewN ?_ _) | ((with_reducible refine below_alloc ?_ ?_); (focus (first | omega | (simp; done) | (simp; omega)))) | ((with_reducible refine below_set ?_ ?_); (focus (first | omega | (simp; done) | (simp; omega))))))
    rintro r w2 ⟨rfl, hb2⟩
    have hbw : Below w.heap.size w w2 := Below.trans (by repeat (first | (with_reducible exact Below.refl _ _) | (with_reducible assumption) | (with_reducible refine Below.drew ?_) | (with_reducible refine below_drewN ?_ _) | ((with_reducible refine below_alloc ?_ ?_); (focus (first | omega | (simp; done) | (simp; omega)))) | ((with_reducible refine below_set ?_ ?_); (focus (first | omega | (simp; done) | (simp; omega)))))) (hb2.mono (by simp))
    have HB1 := hidden (Holds.below (show Holds _ w.heap.size 26 #[.slice A1 g.toks.length k1, .slice A2 g.rules.length k2, .slice A3 g.prods.length k3, .int .i64 g.start, .int .i64 g.states, .int .i64 g.text, .int .i64 g.nodes, .int .i64 g.pairs] from (by repeat (first | (with_reducible assumption) | ((with_reducible refine holds_new ?_); (focus (first | rfl | (simp; done)))) | (with_reducible refine Holds.alloc ?_ _) | (with_reducible refine Holds.drew ?_)))) hb2 (by simp))
    obtain ⟨s0, s1, s2, s3, s4, s5, s6, s7⟩ := eight22 HB1.out
    clear hb2
    go_wp2_with fail
    refine (C1.out _ hbw).mono ?_
    rintro r w3 ⟨rfl, hb3⟩
    replace HB1 := hidden (HB1.out.below hb3 (by have := HB1.out.lt; omega))
    replace hbw := hbw.more hb3
    have hq := hq1.out
    clear hb3 s0 s1 s2 s3 s4 s5 s6 s7 C1 F1
    go_wp2_with fail
    refine (knows23 _).mono ?_
    rintro r w3 ⟨rfl, hb3⟩
    replace hbw := hbw.more hb3
    clear hb3
    go_wp2
    go_ret
    exact ⟨rfl, hbw⟩
  · rw [hf] at F1
    replace C1 := hidden (C1.out hf)
    replace N1 := hidden (N1.out hf)
    replace N2 := hidden (N2.out hf)
    replace N3 := hidden (N3.out hf)
    replace N4 := hidden (N4.out hf)
    replace N5 := hidden (N5.out hf)
    replace N6 := hidden (N6.out hf)
    replace HEr := hidden (HEr.out hr)
    replace HEu := hidden (HEu.out hr)
    replace HWh := hidden (HWh.out hr)
    have HFL := hidden (HFl.out hr)
    have hsm := HSm.out hf
    have HSz := hidden hsm
    replace HPf := hidden (HPf.out hr hsm.2.2 hsm.2.1)
    replace HSg := hidden (HSg.out hr hsm.2.2 hsm.2.1)
    rw [HSf.out hr] at N4
    rw [hr, if_pos rfl] at N2 N3
    rw [hr] at hq1
    clear hf hr HSm HFl HSf
    generalize fol23 g = F at *
    generalize reachB g = R at *
    go_enter Try.func6, Try.ntmps6
    go_wp2_with fail
    refine (F1.out _ ?_).mono ?_
    · exact (by repeat (first | (with_reducible exact Below.refl _ _) | (with_reducible assumption) | (with_reducible refine Below.drew ?_) | (with_reducible refine below_drewN ?_ _) | ((with_reducible refine below_alloc ?_ ?_); (focus (first | omega | (simp; done) | (simp; omega)))) | ((with_reducible refine below_set ?_ ?_); (focus (first | omega | (simp; done) | (simp; omega))))))
    rintro r w2 ⟨rfl, hb2⟩
    have hbw : Below w.heap.size w w2 := Below.trans (by repeat (first | (with_reducible exact Below.refl _ _) | (with_reducible assumption) | (with_reducible refine Below.drew ?_) | (with_reducible refine below_drewN ?_ _) | ((with_reducible refine below_alloc ?_ ?_); (focus (first | omega | (simp; done) | (simp; omega)))) | ((with_reducible refine below_set ?_ ?_); (focus (first | omega | (simp; done) | (simp; omega)))))) (hb2.mono (by simp))
    have HB1 := hidden (Holds.below (show Holds _ w.heap.size 26 #[.slice A1 g.toks.length k1, .slice A2 g.rules.length k2, .slice A3 g.prods.length k3, .int .i64 g.start, .int .i64 g.states, .int .i64 g.text, .int .i64 g.nodes, .int .i64 g.pairs] from (by repeat (first | (with_reducible assumption) | ((with_reducible refine holds_new ?_); (focus (first | rfl | (simp; done)))) | (with_reducible refine Holds.alloc ?_ _) | (with_reducible refine Holds.drew ?_)))) hb2 (by simp))
    obtain ⟨s0, s1, s2, s3, s4, s5, s6, s7⟩ := eight22 HB1.out
    clear hb2
    go_wp2_with fail
    refine (C1.out _ hbw).mono ?_
    rintro r w3 ⟨rfl, hb3⟩
    replace HB1 := hidden (HB1.out.below hb3 (by have := HB1.out.lt; omega))
    replace hbw := hbw.more hb3
    have hq := hq1.out
    clear hb3 s0 s1 s2 s3 s4 s5 s6 s7 C1 F1
    obtain ⟨s0, s1, s2, s3, s4, s5, s6, s7⟩ := eight22 HB1.out
    go_wp2_with fail
    refine (N1.out _ hbw).mono ?_
    rintro r w4 ⟨⟨u4, rfl, hu4⟩, hb4⟩
    replace HB1 := hidden (HB1.out.below hb4 HB1.out.lt)
    replace hbw := hbw.more hb4
    clear hb4 s0 s1 s2 s3 s4 s5 s6 s7
    obtain ⟨s0, s1, s2, s3, s4, s5, s6, s7⟩ := eight22 HB1.out
    go_wp2_with fail
    refine (N2.out _ hbw).mono ?_
    rintro r w5 ⟨⟨u5, rfl, hu5⟩, hb5⟩
    replace HB1 := hidden (HB1.out.below hb5 HB1.out.lt)
    replace hbw := hbw.more hb5
    have HAl := hidden (Recs.old hu4.out hb5)
    have HEm := hidden hu5.out
    clear hb5 s0 s1 s2 s3 s4 s5 s6 s7 hu4 hu5 N1 N2 hq hq1
    obtain ⟨Af, cf, hvf, hcf1, hcf2⟩ := HAl.out.value
    obtain ⟨Ae, ce, hve, hce1, hce2⟩ := HEm.out.val
    rw [HFL.out] at hvf hcf1
    rw [HRl.out] at hve hce1
    subst hvf hve
    unfold maxLen at hcf2 hce2
    obtain ⟨s0, s1, s2, s3, s4, s5, s6, s7⟩ := eight22 HB1.out
    go_wp2_with fail
    go_region_held3 (fun w' => w'.cell? ⟨w.heap.size, 0, none⟩ = some (.slice A1 g.toks.length k1) ∧ w'.cell? ⟨w.heap.size, 1, none⟩ = some (.slice A2 g.rules.length k2) ∧ w'.cell? ⟨w.heap.size, 2, none⟩ = some (.slice A3 g.prods.length k3) ∧ w'.cell? ⟨w.heap.size, 3, none⟩ = some (.int .i64 g.start) ∧ w'.cell? ⟨w.heap.size, 4, none⟩ = some (.int .i64 g.states) ∧ w'.cell? ⟨w.heap.size, 5, none⟩ = some (.int .i64 g.text) ∧ w'.cell? ⟨w.heap.size, 6, none⟩ = some (.int .i64 g.nodes) ∧ w'.cell? ⟨w.heap.size, 7, none⟩ = some (.int .i64 g.pairs) ∧ Below w5.heap.size w5 w')
      (first | exact ⟨s0, s1, s2, s3, s4, s5, s6, s7, Below.drew (Below.refl _ _)⟩ | (go_split_ands; exact keep_one HB1.out (by (first | assumption | exact Below.drew (Below.refl _ _) | exact Below.refl _ _)) (by assumption)))
      (first | (go_at_call 31; go_split_ands; refine (N3.out _ (hbw.trans (Below.mono (by (first | assumption | exact Below.drew (Below.refl _ _) | exact Below.refl _ _)) hbw.size))).mono ?_; rintro e w6 ⟨rfl, hb6⟩) | (go_at_call 33; go_split_ands; refine (N4.out _ (hbw.trans (Below.mono (by (first | assumption | exact Below.drew (Below.refl _ _) | exact Below.refl _ _)) hbw.size))).mono ?_; rintro e w7 ⟨rfl, hb7⟩))
    have hb57 := ((Below.refl w5.heap.size w5).drew.more hb6).more hb7
    replace HB1 := hidden (HB1.out.below hb57 HB1.out.lt)
    replace hbw := hbw.more hb57
    replace HAl := hidden (Recs.old HAl.out hb57)
    replace HEm := hidden (Rd.old HEm.out hb57)
    clear hb6 hb57 s0 s1 s2 s3 s4 s5 s6 s7 N3 N4
    have HAo := hidden (fun (wx : World) (hb : Below w7.heap.size w7 wx) => Recs.old HAl.out hb)
    have HEo := hidden (fun (wx : World) (hb : Below w7.heap.size w7 wx) => Rd.old HEm.out hb)
    have HBo := hidden (fun (wx : World) (hb : Below w7.heap.size w7 wx) => HB1.out.below hb HB1.out.lt)
    have HWo := hidden (fun (wx : World) (hb : Below w7.heap.size w7 wx) => hbw.trans (hb.mono hbw.size))
    obtain ⟨s0, s1, s2, s3, s4, s5, s6, s7⟩ := eight22 HB1.out
    have h00 : w.heap.size < w7.heap.size := HB1.out.lt
    clear HAl HEm HB1 hb7
    go_wp2
    clear s0 s1 s2 s3 s4 s5 s6 s7
    have hb7 := hidden (Below.refl w7.heap.size w7)
    go_loopg [5] g.rules.length (fun gh rr wr => ∃ r : Nat, r ≤ g.rules.length ∧ gh = g.rules.length - r ∧ rr = .int .i64 r ∧ Hid (Below w7.heap.size w7 wr))
    case atStart => exact ⟨0, by omega, rfl, rfl, hb7⟩
    case round =>
      clear hb7
      obtain ⟨r, hrl, rfl, rfl, hbr⟩ := hrel
      by_cases hlr : r < g.rules.length
      · have HFr := hidden (HEr.out r hlr)
        have HBr := hidden (HBo.out _ hbr.out)
        obtain ⟨s0, s1, s2, s3, s4, s5, s6, s7⟩ := eight22 HBr.out
        have hgl : w.heap.size < wr.heap.size := Nat.lt_of_lt_of_le h00 hbr.out.size
        have hal := (Below.refl wr.heap.size wr).alloc (Nat.le_refl _) (.cells #[] 3)
        have HM6 : Hid (BrAt w7 wr.heap.size (.slice (some ⟨wr.heap.size, 0, none⟩) 0 0) [] (wr.alloc (.cells #[] 3))) := hidden ⟨Mine.fresh_nil _ _ _ _ _, fun q hq => by simp [Value.ownBlock] at hq; subst hq; simp, hbr.out.trans (hal.mono hbr.out.size), by simp⟩
        have HB6 := hidden (HBr.out.below hal HBr.out.lt)
        have HP0r := hidden (HP0.out (r : Int))
        clear hal HBr
        have hwb : Hid (w7.heap.size ≤ wr.heap.size) := hidden hbr.out.size
        generalize hwz : wr.heap.size = B0 at *
        have hB0 : w7.heap.size ≤ B0 := hwb.out
        go_upto_if 49 with fail
        clear s0 s1 s2 s3 s4 s5 s6 s7 hbr hwz
        generalize wr.alloc (.cells #[] 3) = w6 at *
        obtain ⟨s0, s1, s2, s3, s4, s5, s6, s7⟩ := eight22 HB6.out
        go_cut [6] (fun vv wx => Hid (BrAt w7 B0 vv (bringP g (r : Int) 0) wx))
        case first =>
          by_cases hst : (r : Int) = g.start
          · have HE : Hid (bringP g (r : Int) 0 = [(g.toks.length : Int)]) := hidden (by rw [HP0r.out, if_pos hst])
            have hbz := HM6.out.z
            have HM := hidden HM6.out.m
            have hd1 : ((r : Int) == g.start) = true := by simpa using hst
            clear hst
            go_wp2_with (at_builtin; refine wpList_append_i rfl _ _ rfl B0 _ _ HM (g.toks.length : Int) rfl rfl rfl (by first | rfl | simp) (by simp) hbz ?_; intro v' w' hA hb2 hK)
            go_meet
            case rel => rw [HE.out]; exact hidden (HM6.out.one hB0 hA.out hb2)
          · have HE : Hid (bringP g (r : Int) 0 = []) := hidden (by rw [HP0r.out, if_neg hst])
            have hd2 : ((r : Int) == g.start) = false := by simpa using hst
            clear hst
            go_wp2
            go_meet
            case rel => rw [HE.out]; exact HM6
        case rest =>
          clear HM6 HP0r s0 s1 s2 s3 s4 s5 s6 s7 HP0
          have HM6 := hcut
          clear hcut
          have hHB6 : w.heap.size < B0 := by omega
          clear HB6
          go_wp2
          go_loopg [6, 7] g.prods.length (fun gh ll ii wx => ∃ i : Nat, i ≤ g.prods.length ∧ gh = g.prods.length - i ∧ ii = .int .i64 i ∧ Hid (BrAt w7 B0 ll (bringP g (r : Int) i) wx))
          case atStart => exact ⟨0, by omega, rfl, rfl, HM6⟩
          case round =>
            clear HM6
            obtain ⟨i, hi, rfl, rfl, HM⟩ := hrel
            obtain ⟨s0, s1, s2, s3, s4, s5, s6, s7⟩ := eight22 (HBo.out _ HM.out.b)
            have hgx : w.heap.size < wr.heap.size := Nat.lt_of_lt_of_le h00 HM.out.b.size
            by_cases hil : i < g.prods.length
            · have hx := List.getElem?_eq_getElem hil
              have HPm := hidden (List.getElem_mem hil)
              generalize g.prods[i] = p at *
              have HPx := hidden hx
              have hbwx := HWo.out _ HM.out.b
              obtain ⟨b1, o1, l1, rfl, hT, hat, hin⟩ := HGo.out.at_ hx
              have hin : Rd w (Old w) 4 l1 p.right.length (p.right.flatMap itCells) := hin
              have hT2 : b1 < w.heap.size := hT
              have hT' : b1 < wr.heap.size := Nat.lt_of_lt_of_le hT2 hbwx.size
              have y0 : wr.cell? ⟨b1, o1 + i * 2, none⟩ = some (.int .i64 p.left) := (hbwx.cell (p := ⟨b1, o1 + i * 2, none⟩) hT2).trans (hat 0 _ rfl)
              have y1' := (hbwx.cell (p := ⟨b1, o1 + i * 2 + 1, none⟩) hT2).trans (hat 1 _ rfl)
              obtain ⟨A4, k4, rfl, hk4, hm4⟩ := hin.val
              have y1 : wr.cell? ⟨b1, o1 + i * 2 + 1, none⟩ = some (.slice A4 p.right.length k4) := y1'
              have HIn := hidden (fun (wx : World) (hb : Below w.heap.size w wx) => Rd.old hin hb)
              unfold maxLen at hm4
              have HS0' : Hid (BrAt w7 B0 _ (bringS g (r : Int) i p 0) wr) := hidden (by rw [HS0.out]; exact HM.out)
              have hap := HM.out.apart
              have hal := (Below.refl wr.heap.size wr).alloc (Nat.le_refl _) (.cells #[.int .i64 p.left, .slice A4 p.right.length k4] 45)
              have HM8 := hidden (HS0'.out.next hal)
              have HP8 := hidden (Holds.new wr 45 #[.int .i64 p.left, .slice A4 p.right.length k4])
              have hpl := HWh.out.left p HPm.out
              have hpl1 := hpl.1
              have hpl2 := hpl.2
              obtain ⟨m, hm⟩ : ∃ m : Nat, p.left = (m : Int) := ⟨p.left.toNat, by omega⟩
              have hmr : m < g.rules.length := by omega
              have gR := List.getElem?_eq_getElem (show m < R.length by rw [HRl.out]; exact hmr)
              have gF := List.getElem?_eq_getElem (show m < F.length by rw [HFL.out]; exact hmr)
              have hRD : atB R p.left = R[m]'(by rw [HRl.out]; exact hmr) := by unfold atB; rw [hm, Int.toNat_natCast, List.getD_eq_getElem?_getD, gR]; rfl
              have hFD : F.getD p.left.toNat [] = F[m]'(by rw [HFL.out]; exact hmr) := by rw [hm, Int.toNat_natCast, List.getD_eq_getElem?_getD, gF]; rfl
              have hfl := HFd.out p.left.toNat
              rw [hFD] at hfl
              have HSk' := hidden (fun (k : Nat) (x : Item) hx h => HSk.out (r : Int) i k p x hx h)
              have HSt' := hidden (fun (k : Nat) (x : Item) hrb hx h hn => HSt.out (r : Int) i k p x hrb hx h hn)
              have HSe' := hidden (HSe.out (r : Int) i p hx)
              have HSd' := hidden (fun (k : Nat) hn => HSd.out (r : Int) i k p hx hn)
              have HSg' := hidden (fun (k : Nat) hk => HSg.out (r : Int) i k p hx hk)
              rw [hRD, hFD] at HSt'
              rw [hRD] at HSd'
              generalize R[m]'(by rw [HRl.out]; exact hmr) = rm at *
              generalize F[m]'(by rw [HFL.out]; exact hmr) = fm at *
              have HgF := hidden gF
              have HgR := hidden gR
              have HMl := hidden hm
              clear hat hx y1' hT hT2 hin hbwx hpl hpl1 hpl2 hRD hFD gR gF hm HS0'
              go_wp2
              obtain ⟨w8, hw8⟩ : ∃ w8, w8 = wr.alloc (.cells #[.int .i64 p.left, .slice A4 p.right.length k4] 45) := ⟨_, rfl⟩
              rw [← hw8] at HM8 HP8 ⊢
              clear hw8 hal s0 s1 s2 s3 s4 s5 s6 s7 y0 y1 hT' HM hgx
              rw [HMl.out] at HP8
              generalize wr.heap.size = pb at *
              go_loopg [6, 9] p.right.length (fun gh ll kk wx => ∃ k : Nat, k ≤ p.right.length ∧ gh = p.right.length - k ∧ kk = .int .i64 k ∧ Hid (BrAt w7 B0 ll (bringS g (r : Int) i p k) wx) ∧ Hid (Holds wx pb 45 #[.int .i64 m, .slice A4 p.right.length k4]) ∧ Hid (ll.ownBlock ≠ some pb))
              case atStart => exact ⟨0, by omega, by omega, rfl, HM8, HP8, hidden hap⟩
              case round =>
                clear HM8 HP8 hap
                obtain ⟨k, hk, rfl, rfl, HM, HP, Hap⟩ := hrel
                have HBg := hidden (HBo.out _ HM.out.b)
                obtain ⟨s0, s1, s2, s3, s4, s5, s6, s7⟩ := eight22 HBg.out
                have hgx : w.heap.size < wr.heap.size := Nat.lt_of_lt_of_le h00 HM.out.b.size
                have c0 : wr.cell? ⟨pb, 0, none⟩ = some (.int .i64 m) := HP.out.cell 0
                have c1 : wr.cell? ⟨pb, 1, none⟩ = some (.slice A4 p.right.length k4) := HP.out.cell 1
                have hpb := HP.out.lt
                obtain ⟨be, oe, rfl, hTe, hce⟩ := row_at (show Rd wr (Old wr) 1 (.slice Ae g.rules.length ce) g.rules.length (R.flatMap (one1 Value.bool)) from by have := HEo.out _ HM.out.b; rw [HRl.out] at this; exact this) HgR.out
                have hTe' : be < wr.heap.size := hTe
                clear hTe
                cases rm
                · have HMn : Hid (BrAt w7 B0 _ (bringP g (r : Int) (i + 1)) wr) := hidden (by rw [← HSd'.out k rfl]; exact HM.out)
                  clear HM HP Hap
                  go_wp2
                  go_roundg (g.prods.length - (i + 1))
                  case measure => omega
                  case rel => exact ⟨i + 1, by omega, rfl, by go_num, HMn⟩
                · by_cases hkl : k < p.right.length
                  · have hx0 := List.getElem?_eq_getElem hkl
                    generalize p.right[k] = x at *
                    obtain ⟨b4, o4, rfl, hT4, hat⟩ := (HIn.out wr (HWo.out _ HM.out.b)).flat_at (fun _ => rfl) (by decide) hx0
                    have i0 := hat 0 _ rfl; have i1 := hat 1 _ rfl
                    rw [Nat.add_zero] at i0
                    have hT4' : b4 < wr.heap.size := hT4
                    have HX := hidden hx0
                    clear hat hT4 hx0
                    obtain ⟨xr, xn, xg, xi⟩ := x
                    dsimp only at *
                    cases xr
                    · have HMn : Hid (BrAt w7 B0 _ (bringS g (r : Int) i p (k + 1)) wr) := hidden (by rw [HSk'.out k _ HX.out (.inl rfl)]; exact HM.out)
                      clear HM
                      go_wp2
                      go_roundg (p.right.length - (k + 1))
                      case measure => omega
                      case rel => exact ⟨k + 1, by omega, rfl, by go_num, HMn, HP, Hap⟩
                    · by_cases hxr : xn = (r : Int)
                      · subst hxr
                        have HE1 := hidden (HSt'.out k _ rfl HX.out rfl rfl)
                        have hSl := HSg'.out k (by omega)
                        have hll := HLn.out (p.right.drop (k + 1))
                        have hw1 : IntKind.i64.wrap ((k : Int) + 1) = (k : Int) + 1 := IntWalk.i64_in _ (by omega)
                        clear HSk' HSt' HSd' HX HSk HSt HSd HS0
                        go_upto_region 21 with fail
                        clear hce hTe' i0 i1 hT4' c0 s0 s1 s2 s3 s4 s5 s6 s7
                        have hsm1 := HSz.out.2.1
                        have hbz := HM.out.z
                        obtain ⟨s0, s1, s2, s3, s4, s5, s6, s7⟩ := eight22 HBg.out
                        by_cases hc : k4 = k + 1
                        · subst hc
                          have HDr : Hid (∀ wx : World, Below w.heap.size w wx → Rd wx (Old wx) 4 (.slice (some ⟨b4, o4, none⟩) 0 0) (p.right.drop (k + 1)).length ((p.right.drop (k + 1)).flatMap itCells)) := hidden (fun wx _ => by rw [List.drop_of_length_le (by omega)]; exact rd_none _)
                          have HOf := hidden (fun (wx : World) (hb : Below w.heap.size w wx) => N5.out wx hb _ (p.right.drop (k + 1)) (HDr.out wx hb))
                          have HVo := hidden (fun (wx : World) (hb : Below w.heap.size w wx) => N6.out wx hb _ (p.right.drop (k + 1)) (HDr.out wx hb))
                          generalize firsts22 g (p.right.drop (k + 1)) = fs at *
                          generalize voidOf g (p.right.drop (k + 1)) = vo at *
                          generalize (p.right.drop (k + 1)).length = dl at *
                          generalize (p.right.drop (k + 1)).flatMap itCells = dc at *
                          have HO1 := one_intsJ fs
                          obtain ⟨Al, cl, rfl⟩ := HM.out.m.value
                          generalize bringS g (r : Int) i p k = cc at *
                          have hbwr := hidden (HWo.out _ HM.out.b)
                          have HC1 := hidden c1
                          clear HDr N5 N6
                          have hs0 : (0 : Int) ≤ (k : Int) + 1 := by omega
                          have hs1 : (k : Int) + 1 ≤ (p.right.length : Int) := by omega
                          go_wp2_with fail
                          go_region_held3 (fun w' => w'.cell? ⟨w.heap.size, 0, none⟩ = some (.slice A1 g.toks.length k1) ∧ w'.cell? ⟨w.heap.size, 1, none⟩ = some (.slice A2 g.rules.length k2) ∧ w'.cell? ⟨w.heap.size, 2, none⟩ = some (.slice (some ⟨b1, o1, none⟩) g.prods.length k3) ∧ w'.cell? ⟨w.heap.size, 3, none⟩ = some (.int .i64 g.start) ∧ w'.cell? ⟨w.heap.size, 4, none⟩ = some (.int .i64 g.states) ∧ w'.cell? ⟨w.heap.size, 5, none⟩ = some (.int .i64 g.text) ∧ w'.cell? ⟨w.heap.size, 6, none⟩ = some (.int .i64 g.nodes) ∧ w'.cell? ⟨w.heap.size, 7, none⟩ = some (.int .i64 g.pairs) ∧ w'.cell? ⟨pb, 1, none⟩ = some (.slice (some ⟨b4, o4, none⟩) p.right.length (k + 1)) ∧ Below B0 wr w')
                            (first | exact ⟨s0, s1, s2, s3, s4, s5, s6, s7, c1, (Below.refl _ _).drew⟩ | (go_split_ands; exact keep_br8 HBg.out hHB6 hc9.out L9.out) | (go_split_ands; exact keep_br8 HBg.out hHB6 hc8.out L8.out))
                            (first | (go_at_call 20; go_split_ands; refine (HOf.out _ hbwr.out.drew).mono ?_; rintro e w8 ⟨⟨u8, rfl, hu8⟩, hb8⟩; obtain ⟨A8, c8, rfl⟩ := hu8.out.value; have L8 := hidden (((Below.refl B0 wr).drew).trans (hb8.mono hbz)); have hc8 := hidden (cell_onI (w := wr.drew) HC1.out hb8); have HM8 := hidden (HM.out.next (((Below.refl wr.heap.size wr).drew).trans hb8)); have HP8 := hidden (HP.out.below (((Below.refl wr.heap.size wr).drew).trans hb8) hpb); have HI8 := hidden HM8.out.m; have HR8 := hidden (RowM.rd hu8.out)) | (go_split_ands; refine step_append_rd rfl _ _ 34 3 rfl (by kernel_rfl) int_info rfl (by decide) B0 _ cc.length _ HI8 _ fs.length _ HR8 HO1 rfl rfl (by omega) (by decide) HM8.out.z ?_; intro v9 w9 hA; have L9 := hidden (L8.out.trans hA.out.below); have hc9 := hidden ((Keeps.holds hA.out.keeps Hap.out HP8.out).cell 1)))
                          have HM9 := hidden (HM8.out.app hB0 hA.out)
                          have HP9 := hidden (Keeps.holds hA.out.keeps Hap.out HP8.out)
                          have Hap9 := hidden (app_apart hA.out Hap.out HP8.out.lt)
                          clear hA L8 L9 hc8 hc9 HI8 HR8 HM8 HP8 hb8 hu8 HM HP Hap HBg HC1 c1 s0 s1 s2 s3 s4 s5 s6 s7 hbwr HOf HO1 hpb hgx
                          have HBg := hidden (HBo.out _ HM9.out.b)
                          have hbwr := hidden (HWo.out _ HM9.out.b)
                          obtain ⟨s0, s1, s2, s3, s4, s5, s6, s7⟩ := eight22 HBg.out
                          have c1 : w9.cell? ⟨pb, 1, none⟩ = some (.slice (some ⟨b4, o4, none⟩) p.right.length (k + 1)) := HP9.out.cell 1
                          obtain ⟨A9, c9, rfl⟩ := HM9.out.m.value
                          generalize hcf : cc ++ fs = cf at *
                          have hcfl : cf.length ≤ 13000 := by rw [← hcf, List.length_append]; omega
                          clear hcf
                          go_wp2_with fail
                          go_region_held3 (fun w' => w'.cell? ⟨w.heap.size, 0, none⟩ = some (.slice A1 g.toks.length k1) ∧ w'.cell? ⟨w.heap.size, 1, none⟩ = some (.slice A2 g.rules.length k2) ∧ w'.cell? ⟨w.heap.size, 2, none⟩ = some (.slice (some ⟨b1, o1, none⟩) g.prods.length k3) ∧ w'.cell? ⟨w.heap.size, 3, none⟩ = some (.int .i64 g.start) ∧ w'.cell? ⟨w.heap.size, 4, none⟩ = some (.int .i64 g.states) ∧ w'.cell? ⟨w.heap.size, 5, none⟩ = some (.int .i64 g.text) ∧ w'.cell? ⟨w.heap.size, 6, none⟩ = some (.int .i64 g.nodes) ∧ w'.cell? ⟨w.heap.size, 7, none⟩ = some (.int .i64 g.pairs) ∧ w'.cell? ⟨pb, 1, none⟩ = some (.slice (some ⟨b4, o4, none⟩) p.right.length (k + 1)) ∧ Below w9.heap.size w9 w')
                            (first | exact ⟨s0, s1, s2, s3, s4, s5, s6, s7, c1, (Below.refl _ _).drew⟩ | (go_split_ands; exact keep_nine HBg.out c1 (by (first | assumption | exact Below.drew (Below.refl _ _) | exact Below.refl _ _)) (by assumption)))
                            (first | (go_at_call 36; go_split_ands; refine (HVo.out _ hbwr.out.drew).mono ?_; rintro e w10 ⟨rfl, hb10⟩))
                          have hb9 := ((Below.refl w9.heap.size w9).drew).trans hb10
                          have HM10 := hidden (HM9.out.next hb9)
                          have HP10 := hidden (HP9.out.below hb9 HP9.out.lt)
                          clear hb9 hb10 HM9 HP9 HBg hbwr c1 s0 s1 s2 s3 s4 s5 s6 s7 HVo
                          cases vo
                          · rw [if_neg (by decide), List.append_nil] at HE1
                            have HMn : Hid (BrAt w7 B0 (.slice A9 cf.length c9) (bringS g (r : Int) i p (k + 1)) w10) := hidden (by rw [HE1.out]; exact HM10.out)
                            clear HM10
                            go_wp2
                            go_roundg (p.right.length - (k + 1))
                            case measure => omega
                            case rel => exact ⟨k + 1, by omega, rfl, by go_num, HMn, HP10, Hap9⟩
                          · rw [if_pos rfl] at HE1
                            obtain ⟨bu, ou, ur, rfl, hTu, hcu, hru⟩ := Rows2.row (HAo.out _ HM10.out.b) HgF.out
                            obtain ⟨Ar, cr, rfl, _, _⟩ := hru.val
                            have hTu' : bu < w10.heap.size := hTu
                            have c0 : w10.cell? ⟨pb, 0, none⟩ = some (.int .i64 m) := HP10.out.cell 0
                            have HRu := hidden hru
                            have HI10 := hidden HM10.out.m
                            have hz10 := HM10.out.z
                            have HO1 := one_intsJ fm
                            clear hru hTu
                            go_wp2_with (at_builtin; refine wpList_append_all rfl _ _ 34 3 rfl (by kernel_rfl) int_info rfl (by decide) B0 _ cf.length _ HI10 _ fm.length _ HRu HO1 rfl rfl (by omega) (by decide) hz10 ?_; intro v11 w11 hA)
                            have HM11 := hidden (HM10.out.app hB0 hA.out)
                            have HP11 := hidden (Keeps.holds hA.out.keeps Hap9.out HP10.out)
                            have Hap11 := hidden (app_apart hA.out Hap9.out HP10.out.lt)
                            rw [← HE1.out] at HM11
                            clear hA HM10 HP10 Hap9 HI10 HRu HO1
                            go_roundg (p.right.length - (k + 1))
                            case measure => omega
                            case rel => exact ⟨k + 1, by omega, rfl, by go_num, HM11, HP11, Hap11⟩
                        · have HDr : Hid (∀ wx : World, Below w.heap.size w wx → Rd wx (Old wx) 4 (.slice (some ⟨b4, o4 + (k + 1) * 4, none⟩) (p.right.length - (k + 1)) (k4 - (k + 1))) (p.right.drop (k + 1)).length ((p.right.drop (k + 1)).flatMap itCells)) := hidden (fun wx hb => by
                            have hd := rd_drop (HIn.out wx hb) (i := k + 1) (by omega)
                            rw [List.length_drop]
                            rw [flat_drop] at hd
                            exact hd)
                          have HOf := hidden (fun (wx : World) (hb : Below w.heap.size w wx) => N5.out wx hb _ (p.right.drop (k + 1)) (HDr.out wx hb))
                          have HVo := hidden (fun (wx : World) (hb : Below w.heap.size w wx) => N6.out wx hb _ (p.right.drop (k + 1)) (HDr.out wx hb))
                          generalize firsts22 g (p.right.drop (k + 1)) = fs at *
                          generalize voidOf g (p.right.drop (k + 1)) = vo at *
                          generalize (p.right.drop (k + 1)).length = dl at *
                          generalize (p.right.drop (k + 1)).flatMap itCells = dc at *
                          have HO1 := one_intsJ fs
                          obtain ⟨Al, cl, rfl⟩ := HM.out.m.value
                          generalize bringS g (r : Int) i p k = cc at *
                          have hbwr := hidden (HWo.out _ HM.out.b)
                          have HC1 := hidden c1
                          clear HDr N5 N6
                          have hs0 : (0 : Int) ≤ (k : Int) + 1 := by omega
                          have hs1 : (k : Int) + 1 ≤ (p.right.length : Int) := by omega
                          go_wp2_with fail
                          go_region_held3 (fun w' => w'.cell? ⟨w.heap.size, 0, none⟩ = some (.slice A1 g.toks.length k1) ∧ w'.cell? ⟨w.heap.size, 1, none⟩ = some (.slice A2 g.rules.length k2) ∧ w'.cell? ⟨w.heap.size, 2, none⟩ = some (.slice (some ⟨b1, o1, none⟩) g.prods.length k3) ∧ w'.cell? ⟨w.heap.size, 3, none⟩ = some (.int .i64 g.start) ∧ w'.cell? ⟨w.heap.size, 4, none⟩ = some (.int .i64 g.states) ∧ w'.cell? ⟨w.heap.size, 5, none⟩ = some (.int .i64 g.text) ∧ w'.cell? ⟨w.heap.size, 6, none⟩ = some (.int .i64 g.nodes) ∧ w'.cell? ⟨w.heap.size, 7, none⟩ = some (.int .i64 g.pairs) ∧ w'.cell? ⟨pb, 1, none⟩ = some (.slice (some ⟨b4, o4, none⟩) p.right.length k4) ∧ Below B0 wr w')
                            (first | exact ⟨s0, s1, s2, s3, s4, s5, s6, s7, c1, (Below.refl _ _).drew⟩ | (go_split_ands; exact keep_br8 HBg.out hHB6 hc9.out L9.out) | (go_split_ands; exact keep_br8 HBg.out hHB6 hc8.out L8.out))
                            (first | (go_at_call 20; go_split_ands; refine (HOf.out _ hbwr.out.drew).mono ?_; rintro e w8 ⟨⟨u8, rfl, hu8⟩, hb8⟩; obtain ⟨A8, c8, rfl⟩ := hu8.out.value; have L8 := hidden (((Below.refl B0 wr).drew).trans (hb8.mono hbz)); have hc8 := hidden (cell_onI (w := wr.drew) HC1.out hb8); have HM8 := hidden (HM.out.next (((Below.refl wr.heap.size wr).drew).trans hb8)); have HP8 := hidden (HP.out.below (((Below.refl wr.heap.size wr).drew).trans hb8) hpb); have HI8 := hidden HM8.out.m; have HR8 := hidden (RowM.rd hu8.out)) | (go_split_ands; refine step_append_rd rfl _ _ 34 3 rfl (by kernel_rfl) int_info rfl (by decide) B0 _ cc.length _ HI8 _ fs.length _ HR8 HO1 rfl rfl (by omega) (by decide) HM8.out.z ?_; intro v9 w9 hA; have L9 := hidden (L8.out.trans hA.out.below); have hc9 := hidden ((Keeps.holds hA.out.keeps Hap.out HP8.out).cell 1)))
                          have HM9 := hidden (HM8.out.app hB0 hA.out)
                          have HP9 := hidden (Keeps.holds hA.out.keeps Hap.out HP8.out)
                          have Hap9 := hidden (app_apart hA.out Hap.out HP8.out.lt)
                          clear hA L8 L9 hc8 hc9 HI8 HR8 HM8 HP8 hb8 hu8 HM HP Hap HBg HC1 c1 s0 s1 s2 s3 s4 s5 s6 s7 hbwr HOf HO1 hpb hgx
                          have HBg := hidden (HBo.out _ HM9.out.b)
                          have hbwr := hidden (HWo.out _ HM9.out.b)
                          obtain ⟨s0, s1, s2, s3, s4, s5, s6, s7⟩ := eight22 HBg.out
                          have c1 : w9.cell? ⟨pb, 1, none⟩ = some (.slice (some ⟨b4, o4, none⟩) p.right.length k4) := HP9.out.cell 1
                          obtain ⟨A9, c9, rfl⟩ := HM9.out.m.value
                          generalize hcf : cc ++ fs = cf at *
                          have hcfl : cf.length ≤ 13000 := by rw [← hcf, List.length_append]; omega
                          clear hcf
                          go_wp2_with fail
                          go_region_held3 (fun w' => w'.cell? ⟨w.heap.size, 0, none⟩ = some (.slice A1 g.toks.length k1) ∧ w'.cell? ⟨w.heap.size, 1, none⟩ = some (.slice A2 g.rules.length k2) ∧ w'.cell? ⟨w.heap.size, 2, none⟩ = some (.slice (some ⟨b1, o1, none⟩) g.prods.length k3) ∧ w'.cell? ⟨w.heap.size, 3, none⟩ = some (.int .i64 g.start) ∧ w'.cell? ⟨w.heap.size, 4, none⟩ = some (.int .i64 g.states) ∧ w'.cell? ⟨w.heap.size, 5, none⟩ = some (.int .i64 g.text) ∧ w'.cell? ⟨w.heap.size, 6, none⟩ = some (.int .i64 g.nodes) ∧ w'.cell? ⟨w.heap.size, 7, none⟩ = some (.int .i64 g.pairs) ∧ w'.cell? ⟨pb, 1, none⟩ = some (.slice (some ⟨b4, o4, none⟩) p.right.length k4) ∧ Below w9.heap.size w9 w')
                            (first | exact ⟨s0, s1, s2, s3, s4, s5, s6, s7, c1, (Below.refl _ _).drew⟩ | (go_split_ands; exact keep_nine HBg.out c1 (by (first | assumption | exact Below.drew (Below.refl _ _) | exact Below.refl _ _)) (by assumption)))
                            (first | (go_at_call 36; go_split_ands; refine (HVo.out _ hbwr.out.drew).mono ?_; rintro e w10 ⟨rfl, hb10⟩))
                          have hb9 := ((Below.refl w9.heap.size w9).drew).trans hb10
                          have HM10 := hidden (HM9.out.next hb9)
                          have HP10 := hidden (HP9.out.below hb9 HP9.out.lt)
                          clear hb9 hb10 HM9 HP9 HBg hbwr c1 s0 s1 s2 s3 s4 s5 s6 s7 HVo
                          cases vo
                          · rw [if_neg (by decide), List.append_nil] at HE1
                            have HMn : Hid (BrAt w7 B0 (.slice A9 cf.length c9) (bringS g (r : Int) i p (k + 1)) w10) := hidden (by rw [HE1.out]; exact HM10.out)
                            clear HM10
                            go_wp2
                            go_roundg (p.right.length - (k + 1))
                            case measure => omega
                            case rel => exact ⟨k + 1, by omega, rfl, by go_num, HMn, HP10, Hap9⟩
                          · rw [if_pos rfl] at HE1
                            obtain ⟨bu, ou, ur, rfl, hTu, hcu, hru⟩ := Rows2.row (HAo.out _ HM10.out.b) HgF.out
                            obtain ⟨Ar, cr, rfl, _, _⟩ := hru.val
                            have hTu' : bu < w10.heap.size := hTu
                            have c0 : w10.cell? ⟨pb, 0, none⟩ = some (.int .i64 m) := HP10.out.cell 0
                            have HRu := hidden hru
                            have HI10 := hidden HM10.out.m
                            have hz10 := HM10.out.z
                            have HO1 := one_intsJ fm
                            clear hru hTu
                            go_wp2_with (at_builtin; refine wpList_append_all rfl _ _ 34 3 rfl (by kernel_rfl) int_info rfl (by decide) B0 _ cf.length _ HI10 _ fm.length _ HRu HO1 rfl rfl (by omega) (by decide) hz10 ?_; intro v11 w11 hA)
                            have HM11 := hidden (HM10.out.app hB0 hA.out)
                            have HP11 := hidden (Keeps.holds hA.out.keeps Hap9.out HP10.out)
                            have Hap11 := hidden (app_apart hA.out Hap9.out HP10.out.lt)
                            rw [← HE1.out] at HM11
                            clear hA HM10 HP10 Hap9 HI10 HRu HO1
                            go_roundg (p.right.length - (k + 1))
                            case measure => omega
                            case rel => exact ⟨k + 1, by omega, rfl, by go_num, HM11, HP11, Hap11⟩
                      · have hd2 : (xn == (r : Int)) = false := by simpa using hxr
                        have HMn : Hid (BrAt w7 B0 _ (bringS g (r : Int) i p (k + 1)) wr) := hidden (by rw [HSk'.out k _ HX.out (.inr hxr)]; exact HM.out)
                        clear HM
                        go_wp2
                        go_roundg (p.right.length - (k + 1))
                        case measure => omega
                        case rel => exact ⟨k + 1, by omega, rfl, by go_num, HMn, HP, Hap⟩
                  · obtain rfl : k = p.right.length := by omega
                    have HMn : Hid (BrAt w7 B0 _ (bringP g (r : Int) (i + 1)) wr) := hidden (by rw [← HSe'.out]; exact HM.out)
                    clear HM HP Hap
                    go_wp2
                    go_roundg (g.prods.length - (i + 1))
                    case measure => omega
                    case rel => exact ⟨i + 1, by omega, rfl, by go_num, HMn⟩
            · obtain rfl : i = g.prods.length := by omega
              go_upto_region 24 with fail
              have hcl2 := HPf.out (r : Int) g.prods.length (Nat.le_refl _)
              obtain ⟨bu, ou, ur, rfl, hTu, hcu, hru⟩ := Rows2.row (HAo.out _ HM.out.b) HFr.out
              obtain ⟨Ar, cr, rfl, _, _⟩ := hru.val
              have hTu' : bu < wr.heap.size := hTu
              have HRu := hidden hru
              have hrl' : r < R.length := by rw [HRl.out]; exact hlr
              have gR := List.getElem?_eq_getElem hrl'
              have hRD : atB R (r : Int) = R[r] := by unfold atB; rw [Int.toNat_natCast, List.getD_eq_getElem?_getD, gR]; rfl
              have HEu' := hidden (HEu.out r hlr)
              rw [hRD] at HEu'
              generalize R[r] = rv at *
              obtain ⟨be, oe, rfl, hTe, hce⟩ := row_at (show Rd wr (Old wr) 1 (.slice Ae g.rules.length ce) g.rules.length (R.flatMap (one1 Value.bool)) from by have := HEo.out _ HM.out.b; rw [HRl.out] at this; exact this) gR
              have hTe' : be < wr.heap.size := hTe
              have HOf := hidden (fun (wx : World) (hb : Below wr.heap.size wr wx) => ref11_OfT _ _ wx (Rd.old (RowM.rd HM.out.m) hb) (by omega))
              have hbx := hidden HM.out.b
              obtain ⟨Al, cl, rfl⟩ := HM.out.m.value
              clear HM hru hTu hTe gR hRD s0 s1 s2 s3 s4 s5 s6 s7 HEu HPf HSg HSe HSd HSt HSk HS0
              generalize bringP g (r : Int) g.prods.length = cc at *
              generalize setOf cc = sc at *
              cases rv
              · have HE0 := HEu'.out rfl
                subst HE0
                go_wp2_with fail
                go_region_held3 (fun w' => w'.cell? ⟨bu, ou + r, none⟩ = some (.slice Ar 0 cr) ∧ w'.cell? ⟨be, oe + r, none⟩ = some (.bool false) ∧ Below wr.heap.size wr w')
                  (first | exact ⟨hcu, hce, Below.drew (Below.refl _ _)⟩ | (go_split_ands; exact keep_two hcu hce (by (first | assumption | exact Below.drew (Below.refl _ _) | exact Below.refl _ _)) (by assumption)))
                  (first | (go_at_call 25; go_split_ands; refine (HOf.out _ (by (first | assumption | exact Below.drew (Below.refl _ _) | exact Below.refl _ _))).mono ?_; rintro e w7 ⟨⟨u7, rfl, hu7⟩, hb7⟩) | (go_at_call 18; go_split_ands; refine (ints_self (hu7.out.mono (fun _ h => h.2)) (Rd.old (w := wr.drew) HRu.out hb7)).mono ?_; rintro e w8 ⟨rfl, hb8⟩))
                have hbe := hidden ((hbx.out.drew.more hb7).more hb8)
                clear hb7 hb8 hu7
                go_wp2
                go_roundg (g.rules.length - (r + 1))
                case measure => omega
                case rel => exact ⟨r + 1, by omega, rfl, by go_num, hbe⟩
              · go_wp2_with fail
                refine (wpIn_wide (n := 5)).1 ?_
                refine wpIn_region_take (fun wv => Below wr.heap.size wr wv) 21 (by kernel_rfl) ?_
                have hCd : Below wr.heap.size wr wr.drew := (Below.refl _ _).drew
                refine take_read (i := 0) (v := ?_) (by kernel_rfl) (by rfl) rfl (by rfl) (by kernel_rfl) (by kernel_rfl) (fun _ _ _ h => h) (by assumption) ⟨Or.inl ⟨by rfl, fun wv hw => ?_⟩, fun _ => rfl⟩ ?_
                rotate_left
                · clear hw
                  go_simp
                  try rfl
                refine take_read (i := 2) (v := ?_) (by kernel_rfl) (by rfl) rfl (by rfl) (by kernel_rfl) (by kernel_rfl) (fun _ _ _ h => h) (by assumption) ⟨Or.inl ⟨by rfl, fun wv hw => ?_⟩, fun _ => rfl⟩ ?_
                rotate_left
                · clear hw
                  go_simp
                  try rfl
                refine take_read (i := 3) (v := ?_) (by kernel_rfl) (by rfl) rfl (by rfl) (by kernel_rfl) (by kernel_rfl) (fun _ _ _ h => h) (by assumption) ⟨Or.inl ⟨by rfl, fun wv hw => ?_⟩, fun _ => rfl⟩ ?_
                rotate_left
                · clear hw
                  go_simp
                  try rfl
                refine take_read (i := 4) (v := ?_) (by kernel_rfl) (by rfl) rfl (by rfl) (by kernel_rfl) (by kernel_rfl) (fun _ _ _ h => h) (by assumption) ⟨Or.inl ⟨by rfl, fun wv hw => ?_⟩, fun _ => rfl⟩ ?_
                rotate_left
                · clear hw
                  go_simp
                  try rfl
                refine take_read (i := 5) (v := ?_) (by kernel_rfl) (by rfl) rfl (by rfl) (by kernel_rfl) (by kernel_rfl) (fun _ _ _ h => h) (by assumption) ⟨Or.inl ⟨by rfl, fun wv hw => ?_⟩, fun _ => rfl⟩ ?_
                rotate_left
                · have q := cell_onI hcu hw; clear hw
                  go_simp
                  try rfl
                refine take_only (i := 1) (by kernel_rfl) rfl rfl (by rfl) (fun K hK => ?_)
                go_simp
                refine CallsIn.mono (F := Fence.wide) (callsIn_wide.2 (HOf.out _ hCd)) ?_
                rintro e w7 ⟨⟨u7, rfl, hu7⟩, hb7⟩
                have hC7 : Below wr.heap.size wr w7 := hCd.more hb7
                refine hK _ _ (by assumption) ?_
                clear hK K
                obtain ⟨A7, c7, rfl, _, _⟩ := hu7.out.val
                refine take_only (i := 6) (by kernel_rfl) rfl rfl (by rfl) (fun K hK => ?_)
                go_simp
                refine CallsIn.mono (F := Fence.wide) (callsIn_wide.2 (ints_self (hu7.out.mono (fun _ h => h.2)) (Rd.old (w := wr.drew) HRu.out hb7))) ?_
                rintro e w8 ⟨rfl, hb8⟩
                have hC8 : Below wr.heap.size wr w8 := hC7.more hb8
                refine hK _ _ (by assumption) ?_
                clear hK K
                refine take_only (i := 7) (by kernel_rfl) rfl rfl (by rfl) (fun K hK => ?_)
                go_simp
                refine hK _ _ (by assumption) ?_
                clear hK K
                refine take_only (i := 8) (by kernel_rfl) rfl rfl (by rfl) (fun K hK => ?_)
                go_simp
                refine hK _ _ (by assumption) ?_
                clear hK K
                refine take_read (i := 9) (v := ?_) (by kernel_rfl) (by rfl) rfl (by rfl) (by kernel_rfl) (by kernel_rfl) (fun _ _ _ h => h) (by assumption) ⟨Or.inl ⟨by rfl, fun wv hw => ?_⟩, fun _ => rfl⟩ ?_
                rotate_left
                · clear hw
                  go_simp
                  try rfl
                refine take_read (i := 10) (v := ?_) (by kernel_rfl) (by rfl) rfl (by rfl) (by kernel_rfl) (by kernel_rfl) (fun _ _ _ h => h) (by assumption) ⟨Or.inl ⟨by rfl, fun wv hw => ?_⟩, fun _ => rfl⟩ ?_
                rotate_left
                · clear hw
                  go_simp
                  try rfl
                refine take_read (i := 11) (v := ?_) (by kernel_rfl) (by rfl) rfl (by rfl) (by kernel_rfl) (by kernel_rfl) (fun _ _ _ h => h) (by assumption) ⟨Or.inl ⟨by rfl, fun wv hw => ?_⟩, fun _ => rfl⟩ ?_
                rotate_left
                · clear hw
                  go_simp
                  try rfl
                refine take_read (i := 12) (v := ?_) (by kernel_rfl) (by rfl) rfl (by rfl) (by kernel_rfl) (by kernel_rfl) (fun _ _ _ h => h) (by assumption) ⟨Or.inl ⟨by rfl, fun wv hw => ?_⟩, fun _ => rfl⟩ ?_
                rotate_left
                · have q := cell_onI hce hw; clear hw
                  go_simp
                  try rfl
                refine take_read (i := 13) (v := ?_) (by kernel_rfl) (by rfl) rfl (by rfl) (by kernel_rfl) (by kernel_rfl) (fun _ _ _ h => h) (by assumption) ⟨Or.inl ⟨by rfl, fun wv hw => ?_⟩, fun _ => rfl⟩ ?_
                rotate_left
                · clear hw
                  go_simp
                  try rfl
                refine take_read (i := 14) (v := ?_) (by kernel_rfl) (by rfl) rfl (by rfl) (by kernel_rfl) (by kernel_rfl) (fun _ _ _ h => h) (by assumption) ⟨Or.inl ⟨by rfl, fun wv hw => ?_⟩, fun _ => rfl⟩ ?_
                rotate_left
                · clear hw
                  go_simp
                  try rfl
                refine take_read (i := 15) (v := undef) (by kernel_rfl) (by rfl) rfl (by rfl) (by kernel_rfl) (by kernel_rfl) (fun _ _ _ h => h) (by assumption) ⟨Or.inr ⟨by kernel_rfl, rfl⟩, fun _ => rfl⟩ ?_
                refine take_read (i := 16) (v := undef) (by kernel_rfl) (by rfl) rfl (by rfl) (by kernel_rfl) (by kernel_rfl) (fun _ _ _ h => h) (by assumption) ⟨Or.inr ⟨by kernel_rfl, rfl⟩, fun _ => rfl⟩ ?_
                refine take_read (i := 17) (v := undef) (by kernel_rfl) (by rfl) rfl (by rfl) (by kernel_rfl) (by kernel_rfl) (fun _ _ _ h => h) (by assumption) ⟨Or.inr ⟨by kernel_rfl, rfl⟩, fun _ => rfl⟩ ?_
                refine take_read (i := 18) (v := undef) (by kernel_rfl) (by rfl) rfl (by rfl) (by kernel_rfl) (by kernel_rfl) (fun _ _ _ h => h) (by assumption) ⟨Or.inr ⟨by kernel_rfl, rfl⟩, fun _ => rfl⟩ ?_
                refine take_read (i := 19) (v := undef) (by kernel_rfl) (by rfl) rfl (by rfl) (by kernel_rfl) (by kernel_rfl) (fun _ _ _ h => h) (by assumption) ⟨Or.inr ⟨by kernel_rfl, rfl⟩, fun _ => rfl⟩ ?_
                refine take_read (i := 20) (v := undef) (by kernel_rfl) (by rfl) rfl (by rfl) (by kernel_rfl) (by kernel_rfl) (fun _ _ _ h => h) (by assumption) ⟨Or.inr ⟨by kernel_rfl, rfl⟩, fun _ => rfl⟩ ?_
                have hbe := hidden ((hbx.out.drew.more hb7).more hb8)
                clear hb7 hb8 hu7
                refine take_tail (by kernel_rfl) (by kernel_rfl) ?_
                simp only [List.drop_succ_cons, List.drop_zero]
                gi_wp2_with fail
                go_wp2
                go_roundg (g.rules.length - (r + 1))
                case measure => omega
                case rel => exact ⟨r + 1, by omega, rfl, by go_num, hbe⟩
      · obtain rfl : r = g.rules.length := by omega
        have hbe := hidden (HWo.out _ hbr.out)
        clear hbr HEr HEu HPf HSg HSe HSd HSt HSk HS0 HP0
        go_wp2_with fail
        refine (knows23 _).mono ?_
        rintro r w3 ⟨rfl, hb3⟩
        have hbz := hbe.out.more hb3
        clear hb3 hbe
        go_wp2
        go_ret
        exact ⟨rfl, hbz⟩
end Go.Proofs.Ytmlggfapnkhcaaa
