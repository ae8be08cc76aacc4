/-
  follow's sides: prod.
-/
import Derived.Test.YtmlggfapnkhcaaaFollowA
import Derived.Test.YtmlggfapnkhcaaaFollowQ
import Derived.WalkMore
namespace Go.Proofs.Ytmlggfapnkhcaaa
open Go.RowKit Go.Shelf
attribute [local simp] wide_fn

/-- What prod leaves, and what it says. -/
def ProdOut (g : Gram) (em rb : List Bool) (F : List (List Int)) (p : Prod) (base S q : Nat) (vf ve vr : Value) (A : List (List Int)) (W : World) (e : Ending) (W' : World) : Prop :=
  ∃ (F' : List (List Int)) (nb : Bool), e = .returned (.bool nb) ∧ Hid (SidesAt W' (fun _ => False) base S q vf ve vr A em rb F') ∧ Hid (∃ t, ProdAt g em rb F p 0 t F' nb) ∧ Hid (But q W W')
theorem item_holds (w : World) (x : Item) : Holds (w.alloc (.cells #[.bool x.rule, .int .i64 x.n, .int .i64 x.gap, .int .i64 x.in_] 49)) w.heap.size 49 #[.bool x.rule, .int .i64 x.n, .int .i64 x.gap, .int .i64 x.in_] := Holds.new _ _ _

set_option maxRecDepth 20000 in
set_option maxHeartbeats 16000000 in
theorem follow_prod (W : World) (base S q : Nat) (vf ve vr l1 : Value) (g : Gram) (em rb : List Bool) (F : List (List Int)) (p : Prod) (hs : Whole22 g) (hp : p ∈ g.prods) (hrb : atB rb p.left = true) (hem : em.length = g.rules.length) (hsm : g.toks.length ≤ 100000)
    (HS : SidesAt W (fun _ => False) base S q vf ve vr (allF g em) em rb F) (HK : KnownB g em rb F) (hR : Rd W (fun k => k < W.heap.size ∧ k ≠ q) 4 l1 p.right.length (p.right.flatMap itCells)) :
    Calls Try.prog 80 #[.pointer (some ⟨S, 0, none⟩), .agg #[.int .i64 p.left, l1]] W (ProdOut g em rb F p base S q vf ve vr (allF g em) W) := by
  have hlen := HK.len
  have hpl := hs.left p hp
  obtain ⟨r, hr⟩ := Int.eq_ofNat_of_zero_le hpl.1
  have hrl : r < F.length := by omega
  have hFr : F[r]? = some (F.getD p.left.toNat []) := by rw [hr, Int.toNat_natCast, List.getD_eq_getElem?_getD, List.getElem?_eq_getElem hrl]; rfl
  have HStart := hidden (ProdAt.start (p := p) HK)
  have HTok := hidden (fun (m : Nat) (x : Item) (hx : p.right[m]? = some x) (hr : x.rule = false) t F' nb (h : ProdAt g em rb F p (m + 1) t F' nb) => h.tok hs hp hx hr)
  have HRul := hidden (fun (m : Nat) (x : Item) (hx : p.right[m]? = some x) (hr : x.rule = true) t F' nb (h : ProdAt g em rb F p (m + 1) t F' nb) => h.rule hs hp hrb HK hx hr)
  have HXr := hidden (fun (m : Nat) (x : Item) (hx : p.right[m]? = some x) => hs.rule p hp x (List.mem_of_getElem? hx))
  have HAt := hidden (fun (i : Nat) (h : i < g.rules.length) => allF_at (g := g) (em := em) h)
  have HAd := hidden (bd_firstR g em g.toks.length)
  obtain ⟨ur, hur, _, hRow⟩ := HS.row hFr
  have hql := HS.qlt
  have hSl := HS.at_.lt
  have hSq := HS.sq
  obtain ⟨Al, cl, rfl, hl1, hl2⟩ := hR.val
  unfold maxLen at hl2
  -- the world behind the first lines
  have HW3 : Hid (∃ W3 : World, W3 = ((W.alloc (.cells #[.pointer (some ⟨S, 0, none⟩)] 96)).alloc (.cells #[.int .i64 p.left, .slice Al p.right.length cl] 45)).alloc (.cells #[.bool false] 4)) := hidden ⟨_, rfl⟩
  obtain ⟨W3, hW3⟩ := HW3.out
  have hb3 : Below W.heap.size W W3 := by rw [hW3]; exact (by repeat (first | (with_reducible exact Below.refl _ _) | (with_reducible assumption) | (with_reducible refine Below.drew ?_) | (with_reducible refine below_drewN ?_ _) | ((with_reducible refine below_alloc ?_ ?_); (focus (first | omega | (simp; done) | (simp; omega)))) | ((with_reducible refine below_set ?_ ?_); (focus (first | omega | (simp; done) | (simp; omega))))))
  have HBs3 : Hid (Holds W3 W.heap.size 96 #[.pointer (some ⟨S, 0, none⟩)]) := hidden (by rw [hW3]; exact (by repeat (first | (with_reducible assumption) | ((with_reducible refine holds_new ?_); (focus (first | rfl | (simp; done)))) | (with_reducible refine Holds.alloc ?_ _) | (with_reducible refine Holds.drew ?_))))
  have HBp3 : Hid (Holds W3 (W.heap.size + 1) 45 #[.int .i64 (r : Int), .slice Al p.right.length cl]) := hidden (by rw [hW3, ← hr]; exact (by repeat (first | (with_reducible assumption) | ((with_reducible refine holds_new ?_); (focus (first | rfl | (simp; done)))) | (with_reducible refine Holds.alloc ?_ _) | (with_reducible refine Holds.drew ?_))))
  have HBn3 : Hid (Holds W3 (W.heap.size + 1 + 1) 4 #[.bool false]) := hidden (by rw [hW3]; exact (by repeat (first | (with_reducible assumption) | ((with_reducible refine holds_new ?_); (focus (first | rfl | (simp; done)))) | (with_reducible refine Holds.alloc ?_ _) | (with_reducible refine Holds.drew ?_))))
  have hz3 : W3.heap.size = W.heap.size + 1 + 1 + 1 := by rw [hW3]; simp
  have HS3 : Hid (SidesAt W3 (fun k => k = W.heap.size + 1 + 1) base S q vf ve vr (allF g em) em rb F) := hidden ((HS.other (Y := fun k => k = W.heap.size + 1 + 1) (fun k hk _ => by omega)).later hb3)
  have HT3 : Hid (Ints W3 (fun k => k < W3.heap.size ∧ k ≠ q ∧ k ≠ W.heap.size + 1 + 1) ur (F.getD p.left.toNat [])) := hidden ((Rd.below hRow hb3 (fun _ h => h.1)).mono (fun k hk => ⟨by omega, hk.2.1, by have := hk.1; omega⟩))
  have HRd := hidden (fun (wx : World) (hb : But2 q (W.heap.size + 1 + 1) W3 wx) => (Rd.but2 ((Rd.below hR hb3 (fun _ h => h.1))) hb (fun k hk => ⟨by have := hk.1; omega, hk.2, by have := hk.1; omega⟩) (T' := Old wx) (fun k hk => by have := hk.1; have := hb.size; unfold Old; omega)))
  have hur3 := cell_onI hur hb3
  have hsc3 : W3.cell? ⟨S, 3, none⟩ = some (.slice (some ⟨q, 0, none⟩) F.length F.length) := HS3.out.at_.cell 3
  have hbs3 : W3.cell? ⟨W.heap.size, 0, none⟩ = some (.pointer (some ⟨S, 0, none⟩)) := HBs3.out.cell 0
  have hbp3 : W3.cell? ⟨W.heap.size + 1, 0, none⟩ = some (.int .i64 (r : Int)) := HBp3.out.cell 0
  have HHr := hidden hr
  have HHl := hidden hlen
  have HHe := hidden hem
  have HHs := hidden hsm
  have HB3 := hidden hb3
  have hl3 : W.heap.size < W3.heap.size ∧ W.heap.size + 1 < W3.heap.size := ⟨by omega, by omega⟩
  obtain ⟨Au, cu, rfl, _, _⟩ := hRow.val
  unfold ProdOut
  clear HW3 hb3 HS HK hR hFr hRow hur hs hp hrb hlen hpl hem hsm
  generalize hfl : F.getD p.left.toNat [] = fl at *
  clear hfl
  rw [hr] at hW3 ⊢
  clear hr
  generalize hAA : allF g em = A at *
  clear hAA
  go_enter Try.func80, Try.ntmps80
  go_wp2_with fail
  go_step3
  go_wp2_with fail
  rw [← hW3]
  clear hW3
  have z0 := Ext.cell hur3; have z1 := Ext.cell hsc3; have z2 := Ext.cell hbs3; have z3 := Ext.cell hbp3
  refine wp_region_ext (by kernel_rfl) (by kernel_rfl) ?_
  repeat (go_big_quiet_step (fail))
  refine wpQuiet_nil ?_
  intro w4 hb4
  have HBs4 := hidden (HBs3.out.below hb4 HBs3.out.lt)
  have HBp4 := hidden (HBp3.out.below hb4 HBp3.out.lt)
  have HBn4 := hidden (HBn3.out.below hb4 HBn3.out.lt)
  have HS4 := hidden (HS3.out.later hb4)
  have hz4 := hb4.size
  have HT4 : Hid (Ints w4 (fun k => k < w4.heap.size ∧ k ≠ q ∧ k ≠ W.heap.size + 1 + 1) (.slice Au fl.length cu) fl) := hidden ((Rd.below HT3.out hb4 (fun _ h => h.1)).mono (fun k hk => ⟨by have := hk.1; omega, hk.2⟩))
  have HB4 : Hid (But2 q (W.heap.size + 1 + 1) W3 w4) := hidden (But2.of_below hb4)
  have hp1 : w4.cell? ⟨W.heap.size + 1, 1, none⟩ = some (.slice Al p.right.length cl) := HBp4.out.cell 1
  have hw0 : IntKind.i64.wrap ((p.right.length : Int) - 1) = (p.right.length : Int) - 1 := IntWalk.i64_in _ (by omega)
  have hgl4 : W.heap.size + 1 < w4.heap.size := by omega
  clear z0 z1 z2 z3 hur3 hsc3 hbs3 hbp3 HBs3 HBp3 HBn3 HS3 HT3 hb4
  go_wp2
  go_step3
  go_wp2
  go_loopg [7, 8] (2 * p.right.length) (fun gh tt kk wr => ∃ (j : Nat) (z : Int) (t : List Int) (F' : List (List Int)) (nb : Bool), j ≤ p.right.length ∧ gh = 2 * j ∧ kk = .int .i64 z ∧ z = (j : Int) - 1 ∧ Hid (Ints wr (fun k => k < wr.heap.size ∧ k ≠ q ∧ k ≠ W.heap.size + 1 + 1) tt t) ∧ Hid (ProdAt g em rb F p j t F' nb) ∧ Hid (SidesAt wr (fun k => k = W.heap.size + 1 + 1) base S q vf ve vr A em rb F') ∧ Hid (Holds wr (W.heap.size + 1 + 1) 4 #[.bool nb]) ∧ Hid (Holds wr (W.heap.size + 1) 45 #[.int .i64 (r : Int), .slice Al p.right.length cl]) ∧ Hid (Holds wr W.heap.size 96 #[.pointer (some ⟨S, 0, none⟩)]) ∧ Hid (But2 q (W.heap.size + 1 + 1) W3 wr))
  case atStart => exact ⟨p.right.length, _, fl, F, false, Nat.le_refl _, rfl, rfl, rfl, HT4, HStart, HS4, HBn4, HBp4, HBs4, HB4⟩
  case round =>
    clear HT4 HStart HS4 HBn4 HBp4 HBs4 HB4 hp1 hgl4 hz4
    obtain ⟨j, z, t, F', nb, hj, rfl, rfl, hz, HT, HP, HSr, HBn, HBp, HBs, HBt⟩ := hrel
    have hzr := HBt.out.size
    have hp1 : wr.cell? ⟨W.heap.size + 1, 1, none⟩ = some (.slice Al p.right.length cl) := HBp.out.cell 1
    have hgl : W.heap.size + 1 < wr.heap.size := by omega
    have hgl0 : W.heap.size < wr.heap.size := by omega
    have hgln : W.heap.size + 1 + 1 < wr.heap.size := by omega
    cases j with
    | zero =>
      obtain rfl : z = -1 := by omega
      clear hz
      have hn0 : wr.cell? ⟨W.heap.size + 1 + 1, 0, none⟩ = some (.bool nb) := HBn.out.cell 0
      have HSn := hidden (HSr.out.other (Y := fun _ => False) (fun _ _ _ h => h))
      have HPn : Hid (∃ t, ProdAt g em rb F p 0 t F' nb) := hidden ⟨t, HP.out⟩
      have HBo := hidden (((But2.of_below HB3.out).trans HBt.out).one (by omega))
      clear HT HP HSr HBn HBp HBs HBt HTok HRul
      go_wp2
      (try rw [Exit.noGoto_ret])
      go_ret
      exact ⟨F', nb, rfl, HSn, HPn, HBo⟩
    | succ m =>
      obtain rfl : z = (m : Int) := by omega
      clear hz
      have hml : m < p.right.length := by omega
      have hx := List.getElem?_eq_getElem hml
      have hwm : IntKind.i64.wrap ((m : Int) - 1) = (m : Int) - 1 := IntWalk.i64_in _ (by omega)
      generalize p.right[m] = x at *
      have HTx := hidden (HTok.out m x hx)
      have HRx := hidden (HRul.out m x hx)
      have HXx := hidden (HXr.out m x hx)
      obtain ⟨b4, o4, rfl, hT4, hat⟩ := (HRd.out wr HBt.out).flat_at (fun _ => rfl) (by decide) hx
      have i0 := hat 0 _ rfl; have i1 := hat 1 _ rfl; have i2 := hat 2 _ rfl; have i3 := hat 3 _ rfl
      rw [Nat.add_zero] at i0
      have hT4 : b4 < wr.heap.size := hT4
      clear hat hx HTok HRul HXr
      obtain ⟨xr, xn, xg, xi⟩ := x
      dsimp only at *
      cases xr with
      | false =>
        have HPn := hidden (HTx.out rfl _ _ _ HP.out)
        have HTn : Hid (Ints ((wr.alloc (.cells #[.bool false, .int .i64 xn, .int .i64 xg, .int .i64 xi] 49)).alloc (.cells #[.int .i64 xn] 3)) (fun k => k < ((wr.alloc (.cells #[.bool false, .int .i64 xn, .int .i64 xg, .int .i64 xi] 49)).alloc (.cells #[.int .i64 xn] 3)).heap.size ∧ k ≠ q ∧ k ≠ W.heap.size + 1 + 1) (.slice (some ⟨wr.heap.size + 1, 0, none⟩) 1 1) [xn]) := hidden (rd_litI (Holds.new_at (by simp)) ⟨by simp, by omega, by omega⟩ rfl rfl (by decide))
        have hbe : Below wr.heap.size wr ((wr.alloc (.cells #[.bool false, .int .i64 xn, .int .i64 xg, .int .i64 xi] 49)).alloc (.cells #[.int .i64 xn] 3)) := (by repeat (first | (with_reducible exact Below.refl _ _) | (with_reducible assumption) | (with_reducible refine Below.drew ?_) | (with_reducible refine below_drewN ?_ _) | ((with_reducible refine below_alloc ?_ ?_); (focus (first | omega | (simp; done) | (simp; omega)))) | ((with_reducible refine below_set ?_ ?_); (focus (first | omega | (simp; done) | (simp; omega))))))
        have HSn := hidden (HSr.out.later hbe)
        have HNn := hidden (HBn.out.below hbe HBn.out.lt)
        have HPp := hidden (HBp.out.below hbe HBp.out.lt)
        have HPs := hidden (HBs.out.below hbe HBs.out.lt)
        have HBe := hidden (HBt.out.next hbe)
        clear hbe HT HP HSr HBn HBp HBs HBt HTx HRx HXx
        go_wp2
        go_roundg (2 * m)
        case measure => omega
        case rel => exact ⟨m, _, _, F', nb, by omega, rfl, rfl, rfl, HTn, HPn, HSn, HNn, HPp, HPs, HBe⟩
      | true =>
        obtain ⟨x1, x2⟩ := HXx.out rfl
        obtain ⟨n, rfl⟩ : ∃ n : Nat, xn = (n : Int) := ⟨xn.toNat, by omega⟩
        have hnr : n < g.rules.length := by omega
        have hnF : n < F'.length := by rw [HP.out.known.len]; omega
        have HPn := hidden (HRx.out rfl _ _ _ HP.out)
        have hal : Below wr.heap.size wr (wr.alloc (.cells #[.bool true, .int .i64 (n : Int), .int .i64 xg, .int .i64 xi] 49)) := (by repeat (first | (with_reducible exact Below.refl _ _) | (with_reducible assumption) | (with_reducible refine Below.drew ?_) | (with_reducible refine below_drewN ?_ _) | ((with_reducible refine below_alloc ?_ ?_); (focus (first | omega | (simp; done) | (simp; omega)))) | ((with_reducible refine below_set ?_ ?_); (focus (first | omega | (simp; done) | (simp; omega))))))
        have HX9 := hidden (Holds.new wr 49 #[.bool true, .int .i64 (n : Int), .int .i64 xg, .int .i64 xi])
        have HTa : Hid (Ints (wr.alloc (.cells #[.bool true, .int .i64 (n : Int), .int .i64 xg, .int .i64 xi] 49)) (fun k => k < wr.heap.size ∧ k ≠ q ∧ k ≠ W.heap.size + 1 + 1) _ t) := hidden (HT.out.alloc _)
        have HC := hidden (follow_bring (wr.alloc (.cells #[.bool true, .int .i64 (n : Int), .int .i64 xg, .int .i64 xi] 49)) base W.heap.size (W.heap.size + 1 + 1) S q (g.toks.length + 1) nb vf ve vr _ A em rb F' n t (HBs.out.below hal HBs.out.lt) (HBn.out.below hal HBn.out.lt) (HSr.out.later hal) (by omega) (by omega) (by omega) hnF HP.out.known.bd HP.out.tail.1 (by have := HHs.out; omega) (HTa.out.mono (fun k hk => Nat.lt_of_lt_of_le hk.1 (by simp))))
        have HBp9 := hidden (HBp.out.below hal HBp.out.lt)
        have HBs9 := hidden (HBs.out.below hal HBs.out.lt)
        have HBt9 := hidden (HBt.out.next hal)
        have hz9 : (wr.alloc (.cells #[.bool true, .int .i64 (n : Int), .int .i64 xg, .int .i64 xi] 49)).heap.size = wr.heap.size + 1 := by simp
        obtain ⟨At, ct, rfl, _, _⟩ := HT.out.val
        have hnn : ((n : Int)).toNat = n := Int.toNat_natCast n
        rw [hnn] at HPn
        generalize bringF F' n t = F2 at *
        generalize (nb || decide ((F'.getD n []).length < (mergeU (F'.getD n []) t).length)) = nb2 at *
        have hbd5 := (bd_more (HAd.out (n : Int)) (Nat.le_succ g.toks.length)).len
        have hAn := HAt.out n hnr
        have hEn := List.getElem?_eq_getElem (show n < em.length by rw [HHe.out]; exact hnr)
        have hEa : atB em (n : Int) = em[n]'(by rw [HHe.out]; exact hnr) := by unfold atB; rw [hnn, List.getD_eq_getElem?_getD, hEn]; rfl
        rw [hEa] at HPn
        have hTl := HP.out.tail.1.len
        clear hEa hal HT HP HSr HBn HBp HBs HBt HTx HRx HXx
        generalize em[n]'(by rw [HHe.out]; exact hnr) = eb at *
        generalize firstR g em g.toks.length (n : Int) = fr at *
        generalize hwa : wr.alloc (.cells #[.bool true, .int .i64 (n : Int), .int .i64 xg, .int .i64 xi] 49) = wa at *
        have a0 : wa.cell? ⟨wr.heap.size, 0, none⟩ = some (.bool true) := HX9.out.cell 0
        have a1 : wa.cell? ⟨wr.heap.size, 1, none⟩ = some (.int .i64 (n : Int)) := HX9.out.cell 1
        go_wp2_with fail
        (try rw [hwa])
        clear hwa
        refine HC.out.mono ?_
        rintro e w5 ⟨rfl, HS5, HN5, HB5⟩
        have HX5 := hidden (HX9.out.but2 HB5.out (by omega) (by omega))
        have HBp5 := hidden (HBp9.out.but2 HB5.out (by omega) (by omega))
        have HBs5 := hidden (HBs9.out.but2 HB5.out (by omega) (by omega))
        have HBt5 := hidden (HBt9.out.trans HB5.out)
        have hz5 := HB5.out.size
        have HT5 : Hid (Ints w5 (fun k => k < w5.heap.size ∧ k ≠ q ∧ k ≠ W.heap.size + 1 + 1) (.slice At t.length ct) t) := hidden (Rd.but2 HTa.out HB5.out (fun k hk => ⟨by have := hk.1; omega, hk.2⟩) (fun k hk => ⟨by have := hk.1; omega, hk.2⟩))
        have hEm := HS5.out.empty
        obtain ⟨Ae, ce, rfl, _, _⟩ := hEm.val
        obtain ⟨be, oe, rfl, hTe, hce⟩ := row_at hEm hEn
        have hFr := HS5.out.first
        obtain ⟨Af, cf, rfl, _, _⟩ := hFr.value
        obtain ⟨bf, of_, uf, rfl, hTf, hcf, hrf⟩ := Rows2.row hFr hAn
        obtain ⟨Af2, cf2, rfl, _, _⟩ := hrf.val
        have hRf := hidden hrf
        have c0 : w5.cell? ⟨W.heap.size, 0, none⟩ = some (.pointer (some ⟨S, 0, none⟩)) := HBs5.out.cell 0
        have c1 : w5.cell? ⟨wr.heap.size, 1, none⟩ = some (.int .i64 (n : Int)) := HX5.out.cell 1
        have c2 : w5.cell? ⟨S, 1, none⟩ = some (.slice (some ⟨be, oe, none⟩) em.length ce) := HS5.out.at_.cell 1
        have c3 : w5.cell? ⟨S, 0, none⟩ = some (.slice (some ⟨bf, of_, none⟩) A.length cf) := HS5.out.at_.cell 0
        have hnE : n < em.length := by rw [HHe.out]; exact hnr
        have hnA : n < A.length := (List.getElem?_eq_some_iff.1 hAn).1
        have t0 := Ext.cell c0; have t1 := Ext.cell c1; have t2 := Ext.cell c2; have t3 := Ext.cell hce
        clear hEm hFr hrf hTe hTf HB5 HX9 HBp9 HBs9 HBt9 HTa a0 a1 HC hEn hAn HX5
        go_wp2_with fail
        refine wp_region_ext (by kernel_rfl) (by kernel_rfl) ?_
        repeat (go_big_quiet_step (fail))
        refine wpQuiet_nil ?_
        intro w6 hb6
        have HS6 := hidden (HS5.out.later hb6)
        have HN6 := hidden (HN5.out.below hb6 HN5.out.lt)
        have HBp6 := hidden (HBp5.out.below hb6 HBp5.out.lt)
        have HBs6 := hidden (HBs5.out.below hb6 HBs5.out.lt)
        have HBt6 := hidden (HBt5.out.next hb6)
        have hz6 := hb6.size
        have HT6 : Hid (Ints w6 (fun k => k < w6.heap.size ∧ k ≠ q ∧ k ≠ W.heap.size + 1 + 1) (.slice At t.length ct) t) := hidden ((Rd.below HT5.out hb6 (fun _ h => h.1)).mono (fun k hk => ⟨by have := hk.1; omega, hk.2⟩))
        have HRf6 : Hid (Ints w6 (fun k => k < w6.heap.size ∧ k ≠ q ∧ k ≠ W.heap.size + 1 + 1) (.slice Af2 fr.length cf2) fr) := hidden ((Rd.below hRf.out hb6 (fun _ h => h.1)).mono (fun k hk => ⟨by have := hk.1; omega, hk.2⟩))
        have d0 := Ext.cell (cell_onI c0 hb6); have d1 := Ext.cell (cell_onI c1 hb6); have d3 := Ext.cell (cell_onI c3 hb6); have d4 := Ext.cell (cell_onI hcf hb6)
        clear t0 t1 t2 t3 c0 c1 c2 c3 hce hcf hb6 HS5 HN5 HBp5 HBs5 HBt5 HT5 hRf
        cases eb with
        | true =>
          rw [if_pos rfl] at HPn
          go_wp2_with fail
          refine (wpIn_wide (n := 5)).1 ?_
          refine wpIn_region_ext_tail 9 (by kernel_rfl) (by kernel_rfl) rfl ?_
          simp only [List.take_succ_cons, List.take_zero, List.drop_succ_cons, List.drop_zero]
          repeat (gi_big_quiet_step (fail))
          refine wpQuietIn_nil ?_
          intro w7 hb7
          have HC7 := hidden (many_Union w7 (.slice At t.length ct) (.slice Af2 fr.length cf2) t fr (Rd.old (HT6.out.mono (fun _ h => h.1)) hb7) (Rd.old (HRf6.out.mono (fun _ h => h.1)) hb7) (by have := HHs.out; omega))
          have hb7h := hidden hb7
          clear d0 d1 d3 d4 hb7 HT6 HRf6
          gi_wp2_with fail
          refine CallsIn.mono (F := Fence.wide) (callsIn_wide.2 HC7.out) ?_
          rintro rr w8 ⟨⟨u8, rfl, hu8⟩, hb8⟩
          have hb68 := hb7h.out.more hb8
          have HSn := hidden (HS6.out.later hb68)
          have HNn := hidden (HN6.out.below hb68 HN6.out.lt)
          have HPp := hidden (HBp6.out.below hb68 HBp6.out.lt)
          have HPs := hidden (HBs6.out.below hb68 HBs6.out.lt)
          have HBe := hidden (HBt6.out.next hb68)
          have hz7 := hb7h.out.size
          have HTn : Hid (Ints w8 (fun k => k < w8.heap.size ∧ k ≠ q ∧ k ≠ W.heap.size + 1 + 1) u8 (mergeU t fr)) := hidden (Mine.rd hu8.out (fun g9 _ h1 h2 => ⟨h2, by omega, by omega⟩))
          obtain ⟨A8, c8, rfl, _, _⟩ := HTn.out.val
          clear hb68 hb8 hb7h HC7 hu8 HS6 HN6 HBp6 HBs6 HBt6
          generalize mergeU t fr = tn at *
          gi_wp2_with fail
          go_wp2
          go_roundg (2 * m)
          case measure => omega
          case rel => exact ⟨m, _, _, F2, nb2, by omega, rfl, rfl, rfl, HTn, HPn, HSn, HNn, HPp, HPs, HBe⟩
        | false =>
          rw [if_neg (by decide)] at HPn
          go_wp2_with fail
          refine wp_region_ext (by kernel_rfl) (by kernel_rfl) ?_
          repeat (go_big_quiet_step (fail))
          refine wpQuiet_nil ?_
          intro w8 hb68
          have HSn := hidden (HS6.out.later hb68)
          have HNn := hidden (HN6.out.below hb68 HN6.out.lt)
          have HPp := hidden (HBp6.out.below hb68 HBp6.out.lt)
          have HPs := hidden (HBs6.out.below hb68 HBs6.out.lt)
          have HBe := hidden (HBt6.out.next hb68)
          have hz8 := hb68.size
          have HTn : Hid (Ints w8 (fun k => k < w8.heap.size ∧ k ≠ q ∧ k ≠ W.heap.size + 1 + 1) (.slice Af2 fr.length cf2) fr) := hidden ((Rd.below HRf6.out hb68 (fun _ h => h.1)).mono (fun k hk => ⟨by have := hk.1; omega, hk.2⟩))
          clear hb68 d0 d1 d3 d4 HS6 HN6 HBp6 HBs6 HBt6 HT6 HRf6
          go_wp2
          go_roundg (2 * m)
          case measure => omega
          case rel => exact ⟨m, _, _, F2, nb2, by omega, rfl, rfl, rfl, HTn, HPn, HSn, HNn, HPp, HPs, HBe⟩
end Go.Proofs.Ytmlggfapnkhcaaa
