/-
  law18: GramLess.
-/
import Derived.Test.YtaagkbgbghleiaaGramLessP
import Derived.Test.YtaagkbgbghleiaaRecsCut
import Derived.Test.YtaagkbgbghleiaaGramLaws
import Derived.Deep.RegionHeld3
import Derived.IntWalk
namespace Go.Proofs.Ytaagkbgbghleiaa
open Go.RowKit Go.Shelf

theorem prod_info : Hid (TyInfo Try.prog 56 (.agg #[.int .i64 0, .slice none 0 0]) 2 32) :=
  hidden (info_parts (show (Try.prog.info? 56).map (fun i => (i.zero, i.size, i.bytes)) = some (some (.agg #[.int .i64 0, .slice none 0 0]), 2, 32) by kernel_rfl))

/-- Where the making of a grammar with a production less stands: block q holds it, of its cell 2 nothing is said. -/
structure LessAt (W4 : World) (B q : Nat) (c0 c1 c3 c4 c5 c6 c7 : Value) (w' : World) : Prop where
  below : Below B W4 w'
  size : W4.heap.size ≤ w'.heap.size
  at_ : ∃ u, Holds w' q 36 #[c0, c1, u, c3, c4, c5, c6, c7]
section
variable {W4 w1 w2 : World} {B p q : Nat} {a b c d e f g h x : Value}
theorem LessAt.next (H : LessAt W4 B q a b d e f g h w1) (hB : B ≤ W4.heap.size) (hq : q < W4.heap.size) (hb2 : Below W4.heap.size w1 w2) : LessAt W4 B q a b d e f g h w2 := by
  obtain ⟨u, hu⟩ := H.at_
  exact ⟨H.below.trans (hb2.mono hB), Nat.le_trans H.size hb2.size, u, hu.below hb2 hq⟩
theorem LessAt.put (H : LessAt W4 B q a b d e f g h w1) (hq : B ≤ q) (v : Value) : LessAt W4 B q a b d e f g h (w1.setCell ⟨q, 2, none⟩ v) := by
  obtain ⟨u, hu⟩ := H.at_
  exact ⟨below_set hq H.below, by simpa using H.size, v, Holds.of_eq (holds_set hu) (by rfl)⟩
theorem LessAt.keep (hP : Holds W4 p 36 #[a, b, c, d, e, f, g, h]) (hp : p < B) (H : LessAt W4 B q a b d e f g h w2) : w2.cell? ⟨p, 2, none⟩ = some c ∧ LessAt W4 B q a b d e f g h w2 := ⟨(hP.below H.below hp).cell 2, H⟩
end

theorem Recs.less {W4 w6 WF : World} {B q : Nat} {xs : List Prod} {ls : List Value} {i : Nat} {A : Option Addr} {m c : Nat} (hls : ls.length = xs.length)
    (hin : ∀ (i : Nat) (x : Prod) (l : Value), xs[i]? = some x → ls[i]? = some l → Rd W4 (fun k => k < B) prodR.kin l (prodR.m x) (prodR.inner x)) (hB : B ≤ W4.heap.size)
    (hb : Below B W4 WF) (hm : Mine w6 W4.heap.size 56 2 (.slice A m c) (0 + i + (xs.length - (i + 1))) ([] ++ prodR.all (xs.take i) (ls.take i) ++ prodR.all (xs.drop (i + 1)) (ls.drop (i + 1))))
    (hi : i < xs.length) (hq : q < W4.heap.size) (u : Value) (hWF : WF = w6.setCell ⟨q, 2, none⟩ u) : Recs prodR WF (Old WF) (.slice A m c) (xs.take i ++ xs.drop (i + 1)) := by
  have hlen : (xs.take i ++ xs.drop (i + 1)).length = 0 + i + (xs.length - (i + 1)) := by simp; omega
  refine ⟨ls.take i ++ ls.drop (i + 1), by simp; omega, ?_, fun j x l hx hl => ?_⟩
  · rw [hlen, Rec.all_append _ _ _ _ _ (by simp; omega)]
    have h1 : Rd w6 (fun k => W4.heap.size ≤ k ∧ k < w6.heap.size) 2 (.slice A m c) (0 + i + (xs.length - (i + 1))) (prodR.all (xs.take i) (ls.take i) ++ prodR.all (xs.drop (i + 1)) (ls.drop (i + 1))) := by
      have := Mine.rd hm (T := fun k => W4.heap.size ≤ k ∧ k < w6.heap.size) (fun _ _ a b => ⟨a, b⟩)
      simpa using this
    have h2 := h1.set (p := ⟨q, 2, none⟩) (fun h => by dsimp only at h; omega) u
    rw [hWF]
    exact h2.mono (fun k hk => by unfold Old; simp; exact hk.2)
  · have key : ∃ j' : Nat, xs[j']? = some x ∧ ls[j']? = some l := by
      by_cases hj : j < i
      · rw [List.getElem?_append_left (by simp; omega), List.getElem?_take_of_lt hj] at hx hl
        exact ⟨j, hx, hl⟩
      · rw [List.getElem?_append_right (by simp; omega)] at hx hl
        rw [List.getElem?_drop] at hx hl
        refine ⟨_, hx, ?_⟩
        rw [show (xs.take i).length = (ls.take i).length by simp; omega]
        exact hl
    obtain ⟨j', h1, h2⟩ := key
    exact ((hin j' x l h1 h2).below hb (fun _ h => h)).mono (fun k hk => by
      have : k < B := hk
      have := hb.size
      unfold Old; omega)

set_option maxRecDepth 20000 in
set_option maxHeartbeats 8000000 in
theorem law_less (a b c : Value) (g : Gram) (kk : Nat) (w : World) (HG : GramIs w (Old w) a b c g) (hz : Named g) (hk : kk < 256) :
    Calls Try.prog 9 #[.agg (gramCells a b c g), .int .u8 (kk : Int)] w fun r w' => r = .returned (.bool true) ∧ Below w.heap.size w w' := by
  have HFw := hidden (fun (w' : World) (hb : Below w.heap.size w w') => law_Few a b c g w' (HG.old hb) hz)
  have HS := hidden (@few_small g)
  have H3 := hidden (fun (hs : fewB g = true) (w' : World) (hb : Below w.heap.size w w') => gram_Right a b c g w' (HG.old hb) (by have := (few_small hs).1; omega) (by have := (few_small hs).2.1; omega) (by have := (few_small hs).2.2; omega) hz)
  have C3 := hidden (fun (hs : fewB g = true) (r : Int) (w' : World) (hb : Below w.heap.size w w') => gram_Of a b c g r w' (HG.old hb) (by have := (few_small hs).2.2; omega))
  have HR : Hid (rightB g = true → RightG g) := hidden (fun h => (right_iff g).1 (by unfold rightB at h; simpa using h))
  have HGo := hidden (fun (w' : World) (hb : Below w.heap.size w w') => HG.old hb)
  obtain ⟨⟨A1, k1, rfl, v1, m1⟩, ⟨A2, k2, rfl, v2, m2⟩, ⟨A3, k3, rfl, v3, m3⟩⟩ := HG.vals
  clear HG
  unfold gramCells at *
  have HFew := hidden (rfl : fewB g = fewB g)
  generalize rightB g = rb at *
  have hb := Below.refl w.heap.size w
  have hknow : ∀ w, Calls Try.prog 31 #[] w fun r w' => r = .returned (.bool true) ∧ Below w.heap.size w w' := knows18
  have HKn := hidden hknow
  clear hknow HFew
  cases hfew : fewB g
  · rw [hfew] at HFw
    clear hfew
    go_enter Try.func9, Try.ntmps9
    go_wp2_with fail
    refine (HFw.out _ ?_).mono ?_
    · exact (by repeat (first | (with_reducible exact Below.refl _ _) | (with_reducible assumption) | (with_reducible refine Below.drew ?_) | (with_reducible refine below_drewN ?_ _) | ((with_reducible refine below_alloc ?_ ?_); (focus (first | omega | (simp; done) | (simp; omega)))) | ((with_reducible refine below_set ?_ ?_); (focus (first | omega | (simp; done) | (simp; omega))))))
    rintro r w2 ⟨rfl, hb2⟩
    have hbw : Below w.heap.size w w2 := Below.trans (by repeat (first | (with_reducible exact Below.refl _ _) | (with_reducible assumption) | (with_reducible refine Below.drew ?_) | (with_reducible refine below_drewN ?_ _) | ((with_reducible refine below_alloc ?_ ?_); (focus (first | omega | (simp; done) | (simp; omega)))) | ((with_reducible refine below_set ?_ ?_); (focus (first | omega | (simp; done) | (simp; omega)))))) (hb2.mono (by simp))
    clear hb2
    go_wp2_with fail
    refine (HKn.out _).mono ?_
    rintro r w3 ⟨rfl, hb3⟩
    replace hbw := hbw.more hb3
    clear hb3
    go_wp2
    go_ret
    exact ⟨rfl, hbw⟩
  have hsm := HS.out hfew
  rw [hfew] at HFw
  replace H3 := hidden (H3.out hfew)
  replace C3 := hidden (C3.out hfew)
  clear HS
  go_enter Try.func9, Try.ntmps9
  go_wp2_with fail
  refine (HFw.out _ ?_).mono ?_
  · exact (by repeat (first | (with_reducible exact Below.refl _ _) | (with_reducible assumption) | (with_reducible refine Below.drew ?_) | (with_reducible refine below_drewN ?_ _) | ((with_reducible refine below_alloc ?_ ?_); (focus (first | omega | (simp; done) | (simp; omega)))) | ((with_reducible refine below_set ?_ ?_); (focus (first | omega | (simp; done) | (simp; omega))))))
  rintro r w2 ⟨rfl, hb2⟩
  have hbw : Below w.heap.size w w2 := Below.trans (by repeat (first | (with_reducible exact Below.refl _ _) | (with_reducible assumption) | (with_reducible refine Below.drew ?_) | (with_reducible refine below_drewN ?_ _) | ((with_reducible refine below_alloc ?_ ?_); (focus (first | omega | (simp; done) | (simp; omega)))) | ((with_reducible refine below_set ?_ ?_); (focus (first | omega | (simp; done) | (simp; omega)))))) (hb2.mono (by simp))
  have P3 := hidden (Holds.below (show Holds _ w.heap.size 36 #[.slice A1 g.toks.length k1, .slice A2 g.rules.length k2, .slice A3 g.prods.length k3, .int .i64 g.start, .int .i64 g.states, .int .i64 g.text, .int .i64 g.nodes, .int .i64 g.pairs] from (by repeat (first | (with_reducible assumption) | ((with_reducible refine holds_new ?_); (focus (first | rfl | (simp; done)))) | (with_reducible refine Holds.alloc ?_ _) | (with_reducible refine Holds.drew ?_)))) hb2 (by simp))
  obtain ⟨s0, s1, s2, s3, s4, s5, s6, s7⟩ := eight P3.out
  have hz2 : w.heap.size + 1 ≤ w2.heap.size := by have := hb2.size; simpa using this
  clear hb2 HFw hb
  go_wp2_with fail
  refine (H3.out _ hbw).mono ?_
  rintro r w3 ⟨rfl, hb3⟩
  replace P3 := hidden (P3.out.below hb3 (by omega))
  have hz3 := hb3.size
  replace hbw := hbw.more hb3
  clear hb3 s0 s1 s2 s3 s4 s5 s6 s7 H3
  cases rb
  · go_wp2_with fail
    refine (HKn.out _).mono ?_
    rintro r w4 ⟨rfl, hb4⟩
    replace hbw := hbw.more hb4
    clear hb4
    go_wp2
    go_ret
    exact ⟨rfl, hbw⟩
  have HRG := hidden (HR.out rfl)
  clear HR
  obtain ⟨s0, s1, s2, s3, s4, s5, s6, s7⟩ := eight P3.out
  by_cases h0 : g.prods.length = 0
  · have q : ((g.prods.length : Int) == 0) = true := by simp [h0]
    go_wp2_with fail
    refine (HKn.out _).mono ?_
    rintro r w4 ⟨rfl, hb4⟩
    replace hbw := hbw.more hb4
    clear hb4
    go_wp2
    go_ret
    exact ⟨rfl, hbw⟩
  have q : ((g.prods.length : Int) == 0) = false := by simp [h0]
  obtain ⟨at_, hat⟩ : ∃ at_ : Nat, at_ = kk % g.prods.length := ⟨_, rfl⟩
  have hatl : at_ < g.prods.length := by rw [hat]; exact Nat.mod_lt _ (by omega)
  have hmod : ((kk : Int) % (g.prods.length : Int)) = (at_ : Int) := by rw [hat]; rfl
  have hx := List.getElem?_eq_getElem hatl
  generalize g.prods[at_] = p at *
  obtain ⟨b1, o1, l1, rfl, hT, hcat, _⟩ := (HGo.out _ hbw).2.2.at_ hx
  have y0 : w3.cell? ⟨b1, o1 + at_ * 2, none⟩ = some (.int .i64 p.left) := hcat 0 _ rfl
  have HX := hidden hx
  clear hcat hx hat
  go_wp2_with fail
  rw [hmod]
  obtain ⟨W4, hW4⟩ : ∃ W4, W4 = w3.alloc (.cells #[.slice A1 g.toks.length k1, .slice A2 g.rules.length k2, .slice (some ⟨b1, o1, none⟩) g.prods.length k3, .int .i64 g.start, .int .i64 g.states, .int .i64 g.text, .int .i64 g.nodes, .int .i64 g.pairs] 36) := ⟨_, rfl⟩
  rw [← hW4]
  have P4 : Hid (Holds W4 w.heap.size 36 #[.slice A1 g.toks.length k1, .slice A2 g.rules.length k2, .slice (some ⟨b1, o1, none⟩) g.prods.length k3, .int .i64 g.start, .int .i64 g.states, .int .i64 g.text, .int .i64 g.nodes, .int .i64 g.pairs]) := hidden (by rw [hW4]; exact P3.out.alloc _)
  have H4 : Hid (Holds W4 w3.heap.size 36 #[.slice A1 g.toks.length k1, .slice A2 g.rules.length k2, .slice (some ⟨b1, o1, none⟩) g.prods.length k3, .int .i64 g.start, .int .i64 g.states, .int .i64 g.text, .int .i64 g.nodes, .int .i64 g.pairs]) := hidden (by rw [hW4]; exact Holds.new _ _ _)
  have hb4 : Below w.heap.size w W4 := by rw [hW4]; exact hbw.alloc hbw.size _
  have hz4 : w3.heap.size < W4.heap.size := by rw [hW4]; simp
  obtain ⟨ls, hls, hrd, hin⟩ := (HGo.out _ hbw).2.2.keeps (Keeps.of_below (show Below w3.heap.size w3 W4 by rw [hW4]; exact (Below.refl _ _).alloc (Nat.le_refl _) _))
  have hrd : Rd W4 (fun k => k < w3.heap.size) prodR.k (.slice (some ⟨b1, o1, none⟩) g.prods.length k3) g.prods.length (prodR.all g.prods ls) := hrd
  have HIn := hidden hin
  have HLs := hidden hls
  have HXa : Hid (∀ w', Below w3.heap.size W4 w' → Rd w' (fun k => k < w3.heap.size) 2 (.slice (some ⟨b1, o1, none⟩) at_ k3) at_ (prodR.all (g.prods.take at_) (ls.take at_))) := hidden (fun w' hb => by
    have := rd_take hrd (i := at_) (by omega)
    rw [show at_ * prodR.k = at_ * prodR.k from rfl, Rec.all_take prodR _ _ _ hls] at this
    exact this.below hb (fun _ h => h))
  have HO1 : Hid (∀ u ∈ prodR.all (g.prods.take at_) (ls.take at_), u.oneCell' = true) := hidden (Rec.all_one prodR _ _ (fun l hl => Recs.ones hls hin l (List.mem_of_mem_take hl)))
  have HO2 : Hid (∀ u ∈ prodR.all (g.prods.drop (at_ + 1)) (ls.drop (at_ + 1)), u.oneCell' = true) := hidden (Rec.all_one prodR _ _ (fun l hl => Recs.ones hls hin l (List.mem_of_mem_drop hl)))
  have HXb0 : Hid (∀ w', Below w3.heap.size W4 w' → Rd w' (fun k => k < w3.heap.size) 2 (.slice (some ⟨b1, o1 + (at_ + 1) * 2, none⟩) (g.prods.length - (at_ + 1)) (k3 - (at_ + 1))) (g.prods.length - (at_ + 1)) (prodR.all (g.prods.drop (at_ + 1)) (ls.drop (at_ + 1)))) := hidden (fun w' hb => by
    have := rd_drop hrd (i := at_ + 1) (by omega)
    rw [Rec.all_drop prodR _ _ _ hls] at this
    exact this.below hb (fun _ h => h))
  have hT4 : b1 < w3.heap.size := hT
  have s2' := P4.out.cell 2
  have s2 : W4.cell? ⟨w.heap.size, 2, none⟩ = some (.slice (some ⟨b1, o1, none⟩) g.prods.length k3) := s2'
  have t2' := H4.out.cell 2
  have t2 : W4.cell? ⟨w3.heap.size, 2, none⟩ = some (.slice (some ⟨b1, o1, none⟩) g.prods.length k3) := t2'
  have f2 := H4.out.frozen 2
  have HW4 := hidden hW4
  clear hin hls hrd hW4 s2' t2' y0 s0 s1 s3 s4 s5 s6 s7 P3 hmod
  unfold maxLen at m3
  have hw1 : IntKind.i64.wrap ((at_ : Int) + 1) = (at_ : Int) + 1 := IntWalk.i64_in _ (by omega)
  have i1 : (0 : Int) ≤ (at_ : Int) := by omega
  have i2 : (at_ : Int) ≤ (k3 : Int) := by omega
  have i3 : (0 : Int) ≤ (at_ : Int) + 1 := by omega
  have i4 : (at_ : Int) + 1 ≤ (g.prods.length : Int) := by omega
  have i5 : ((at_ : Int) + 1).toNat = at_ + 1 := by omega
  have tok1 : True := trivial
  have HLA : Hid (LessAt W4 w3.heap.size w3.heap.size (.slice A1 g.toks.length k1) (.slice A2 g.rules.length k2) (.int .i64 g.start) (.int .i64 g.states) (.int .i64 g.text) (.int .i64 g.nodes) (.int .i64 g.pairs) W4.drew) := hidden ⟨(Below.refl _ _).drew, Nat.le_refl _, _, H4.out.drew⟩
  have hlt4 : w.heap.size < w3.heap.size := by omega
  by_cases hc : k3 = at_ + 1
  · have hn1 : g.prods.length - (at_ + 1) = 0 := by omega
    have HXb1 : Hid (∀ w', Below w3.heap.size W4 w' → Rd w' (fun k => k < w3.heap.size) 2 (.slice (some ⟨b1, o1, none⟩) (g.prods.length - (at_ + 1)) (k3 - (at_ + 1))) (g.prods.length - (at_ + 1)) (prodR.all (g.prods.drop (at_ + 1)) (ls.drop (at_ + 1)))) := hidden (fun w' hb => by
      rw [hn1, List.drop_of_length_le (by omega), show k3 - (at_ + 1) = 0 by omega]
      exact rd_none _)
    have hif : (k3 = at_ + 1) = True := eq_true hc
    clear hn1 HXb0 hc
    go_region_held3 (fun w' => w'.cell? ⟨w.heap.size, 2, none⟩ = some (.slice (some ⟨b1, o1, none⟩) g.prods.length k3) ∧ LessAt W4 w3.heap.size w3.heap.size (.slice A1 g.toks.length k1) (.slice A2 g.rules.length k2) (.int .i64 g.start) (.int .i64 g.states) (.int .i64 g.text) (.int .i64 g.nodes) (.int .i64 g.pairs) w')
      (first | exact ⟨s2, HLA.out⟩ | (go_split_ands; exact LessAt.keep P4.out hlt4 (LessAt.put (by assumption) (Nat.le_refl _) _)) | (go_split_ands; exact LessAt.keep P4.out hlt4 ((show LessAt W4 w3.heap.size w3.heap.size (.slice A1 g.toks.length k1) (.slice A2 g.rules.length k2) (.int .i64 g.start) (.int .i64 g.states) (.int .i64 g.text) (.int .i64 g.nodes) (.int .i64 g.pairs) _ by assumption).next (by omega) (by omega) (below_alloc (show LessAt W4 w3.heap.size w3.heap.size (.slice A1 g.toks.length k1) (.slice A2 g.rules.length k2) (.int .i64 g.start) (.int .i64 g.states) (.int .i64 g.text) (.int .i64 g.nodes) (.int .i64 g.pairs) _ by assumption).size (Below.refl _ _)))) | (go_split_ands; exact LessAt.keep P4.out hlt4 L6.out) | (go_split_ands; exact LessAt.keep P4.out hlt4 L5.out))
      (first | (have _t := tok1; go_split_ands; have L4 := hidden (show LessAt W4 w3.heap.size w3.heap.size (.slice A1 g.toks.length k1) (.slice A2 g.rules.length k2) (.int .i64 g.start) (.int .i64 g.states) (.int .i64 g.text) (.int .i64 g.nodes) (.int .i64 g.pairs) _ by first | assumption | exact HLA.out); refine step_append_rd rfl _ _ 34 56 rfl (by kernel_rfl) prod_info rfl (by decide) W4.heap.size _ 0 [] (hidden (Mine.fresh_nil _ _ _ _ _)) _ at_ _ (hidden (HXa.out _ L4.out.below)) HO1 rfl rfl (by omega) (by decide) L4.out.size ?_; intro v5 w5 hA5; have L5 := hidden (L4.out.next (by omega) (by omega) hA5.out.below); clear tok1 _t L4) | (refine step_append_rd rfl _ _ 34 56 rfl (by kernel_rfl) prod_info rfl (by decide) W4.heap.size _ _ _ (hidden hA5.out.mine) _ (g.prods.length - (at_ + 1)) _ (hidden (HXb1.out _ L5.out.below)) HO2 rfl rfl (by omega) (by decide) L5.out.size ?_; intro v6 w6 hA6; have L6 := hidden (L5.out.next (by omega) (by omega) hA6.out.below); obtain ⟨A6, c6, rfl⟩ := Mine.value hA6.out.mine; obtain ⟨u6, hu6⟩ := L6.out.at_; have z6 := hu6.cell 2; have f6 := hu6.frozen 2; clear hu6))
    obtain ⟨WF, hWF⟩ : ∃ WF, WF = w6.setCell ⟨w3.heap.size, 2, none⟩ (.slice A6 (at_ + (g.prods.length - (at_ + 1))) c6) := ⟨_, rfl⟩
    rw [← hWF]
    have hb56 := hA5.out.below.trans hA6.out.below
    have hb46 : Below W4.heap.size W4 w6 := ((((Below.refl _ _).alloc (Nat.le_refl _) _).drew).trans hA5.out.below).trans hA6.out.below
    have hb4F : Below w3.heap.size W4 WF := by rw [hWF]; exact below_set (Nat.le_refl _) (hb46.mono (by omega))
    have hbF : Below w.heap.size w WF := hb4.trans (hb4F.mono (by omega))
    have PF : Hid (Holds WF w.heap.size 36 #[.slice A1 g.toks.length k1, .slice A2 g.rules.length k2, (.slice (some ⟨b1, o1, none⟩) g.prods.length k3), .int .i64 g.start, .int .i64 g.states, .int .i64 g.text, .int .i64 g.nodes, .int .i64 g.pairs]) := hidden (by rw [hWF]; exact holds_far (by omega) (P4.out.below hb46 (by omega)))
    have HF : Hid (Holds WF w3.heap.size 36 #[.slice A1 g.toks.length k1, .slice A2 g.rules.length k2, (.slice A6 (at_ + (g.prods.length - (at_ + 1))) c6), .int .i64 g.start, .int .i64 g.states, .int .i64 g.text, .int .i64 g.nodes, .int .i64 g.pairs]) := hidden (by rw [hWF]; exact Holds.of_eq (holds_set (H4.out.below hb46 hz4)) (by rfl))
    have HRl : Recs prodR WF (Old WF) (.slice A6 (at_ + (g.prods.length - (at_ + 1))) c6) (g.prods.take at_ ++ g.prods.drop (at_ + 1)) := Recs.less HLs.out HIn.out (by omega) hb4F (by first | exact hA6.out.mine | (simpa using hA6.out.mine)) hatl hz4 _ hWF
    have HGF := HGo.out _ hbF
    have HGh := hidden (show GramIs WF (Old WF) (.slice A1 g.toks.length k1) (.slice A2 g.rules.length k2) (.slice A6 (at_ + (g.prods.length - (at_ + 1))) c6) (lessG g at_) from ⟨HGF.1, HGF.2.1, HRl⟩)
    have hzF := hb4F.size
    have hll := less_len hatl
    clear hA5 hA6 L5 L6 z6 f6 hb56 hb46 P4 H4 HRl hWF HXa HO1 HO2 HIn HLs s2 t2 f2 HW4 HLA hw1 i1 i2 i3 i4 i5 HGF hrd
    have HCk := hidden (fun (w' : World) (hb : Below WF.heap.size WF w') => gram_Check _ _ _ (lessG g at_) w' (HGh.out.old hb) (by show g.toks.length ≤ _; omega) (by show g.rules.length ≤ _; omega) (by omega) hz)
    have HRt := hidden (fun (w' : World) (hb : Below WF.heap.size WF w') => gram_Right _ _ _ (lessG g at_) w' (HGh.out.old hb) (by show g.toks.length ≤ _; omega) (by show g.rules.length ≤ _; omega) (by omega) hz)
    have HSm := hidden (fun (w' : World) (hb : Below WF.heap.size WF w') => gram_Same _ _ _ _ _ _ g (lessG g at_) w' ((HGo.out _ hbF).old hb) (HGh.out.old hb))
    have hne : eqB g (lessG g at_) = false := eqB_false (fun e => by have := congrArg (fun g : Gram => g.prods.length) e; have e2 : g.prods.length = (lessG g at_).prods.length := this; omega)
    rw [hne] at HSm
    have HL1 : Hid (1 < (ofRule g p.left).length → rightB (lessG g at_) = true) := hidden (fun h => by unfold rightB; rw [less_right HRG.out HX.out h]; rfl)
    have HL2 : Hid (¬ 1 < (ofRule g p.left).length → checkOf (lessG g at_) = ⟨5, p.left, 0⟩) := hidden (fun h => less_wrong HRG.out HX.out h)
    have HOk := hidden (C3.out p.left WF hbF)
    generalize ofRule g p.left = ro at *
    unfold gramCells lessG at HCk HRt HSm
    dsimp only at HCk HRt HSm
    clear hne HGo HGh
    obtain ⟨s0, s1, s2, s3, s4, s5, s6, s7⟩ := eight PF.out
    by_cases h1 : 1 < ro.length
    · have HL := hidden (HL1.out h1)
      rw [show rightB { toks := g.toks, rules := g.rules, prods := g.prods.take at_ ++ g.prods.drop (at_ + 1), start := g.start, states := g.states, text := g.text, nodes := g.nodes, pairs := g.pairs } = true from HL.out] at HRt
      go_wp2_with fail
      refine HOk.out.mono ?_
      rintro r w7 ⟨⟨u, rfl, HM⟩, hb7⟩
      obtain ⟨Au, cu, rfl⟩ := Mine.value HM.out
      replace PF := hidden (PF.out.below hb7 (by omega))
      replace HF := hidden (HF.out.below hb7 (by omega))
      have hbW := hidden hb7
      have hz7 := hb7.size
      replace hbF := hbF.more hb7
      clear hb7 HM HOk s0 s1 s2 s3 s4 s5 s6 s7
      obtain ⟨s0, s1, s2, s3, s4, s5, s6, s7⟩ := eight PF.out
      obtain ⟨t0, t1, t2, t3, t4, t5, t6, t7⟩ := eight HF.out
      have hbW := hbW.out
      go_wp2_with fail
      refine (HRt.out _ hbW).mono ?_
      rintro r w8 ⟨rfl, hb8⟩
      replace PF := hidden (PF.out.below hb8 (by omega))
      replace HF := hidden (HF.out.below hb8 (by omega))
      replace hbW := hbW.more hb8
      replace hbF := hbF.more hb8
      have hz8 := hb8.size
      clear hb8 s0 s1 s2 s3 s4 s5 s6 s7 t0 t1 t2 t3 t4 t5 t6 t7
      obtain ⟨s0, s1, s2, s3, s4, s5, s6, s7⟩ := eight PF.out
      obtain ⟨t0, t1, t2, t3, t4, t5, t6, t7⟩ := eight HF.out
      go_wp2_with fail
      refine (HSm.out _ hbW).mono ?_
      rintro r w9 ⟨rfl, hb9⟩
      replace hbF := hbF.more hb9
      clear hb9 s0 s1 s2 s3 s4 s5 s6 s7 t0 t1 t2 t3 t4 t5 t6 t7
      go_wp2_with fail
      refine (HKn.out _).mono ?_
      rintro r w10 ⟨rfl, hb10⟩
      replace hbF := hbF.more hb10
      clear hb10
      go_wp2
      go_ret
      exact ⟨rfl, hbF⟩
    · have HL := hidden (HL2.out h1)
      rw [show checkOf { toks := g.toks, rules := g.rules, prods := g.prods.take at_ ++ g.prods.drop (at_ + 1), start := g.start, states := g.states, text := g.text, nodes := g.nodes, pairs := g.pairs } = ⟨5, p.left, 0⟩ from HL.out] at HCk
      go_wp2_with fail
      refine HOk.out.mono ?_
      rintro r w7 ⟨⟨u, rfl, HM⟩, hb7⟩
      obtain ⟨Au, cu, rfl⟩ := Mine.value HM.out
      replace HF := hidden (HF.out.below hb7 (by omega))
      have hbW := hb7
      have hz7 := hb7.size
      replace hbF := hbF.more hb7
      clear hb7 HM HOk s0 s1 s2 s3 s4 s5 s6 s7
      obtain ⟨t0, t1, t2, t3, t4, t5, t6, t7⟩ := eight HF.out
      have hq := def_eq_run
      have hq2 : ∀ w, (Op.equalIn 10000 40 (.agg #[.int .i64 5, .int .i64 p.left, .int .i64 0]) (.agg #[.int .i64 5, .int .i64 p.left, .int .i64 0])).run Try.prog w = .ok true w := fun w => by
        have := def_eq_run w ⟨5, p.left, 0⟩ ⟨5, p.left, 0⟩
        rwa [eqB_self] at this
      unfold defC at HCk
      clear hq
      go_wp2_with fail
      refine (HCk.out _ hbW).mono ?_
      rintro r w8 ⟨rfl, hb8⟩
      replace hbF := hbF.more hb8
      clear hb8 t0 t1 t2 t3 t4 t5 t6 t7
      go_wp2_with fail
      refine (HKn.out _).mono ?_
      rintro r w10 ⟨rfl, hb10⟩
      replace hbF := hbF.more hb10
      clear hb10
      go_wp2
      go_ret
      exact ⟨rfl, hbF⟩
  · go_region_held3 (fun w' => w'.cell? ⟨w.heap.size, 2, none⟩ = some (.slice (some ⟨b1, o1, none⟩) g.prods.length k3) ∧ LessAt W4 w3.heap.size w3.heap.size (.slice A1 g.toks.length k1) (.slice A2 g.rules.length k2) (.int .i64 g.start) (.int .i64 g.states) (.int .i64 g.text) (.int .i64 g.nodes) (.int .i64 g.pairs) w')
      (first | exact ⟨s2, HLA.out⟩ | (go_split_ands; exact LessAt.keep P4.out hlt4 (LessAt.put (by assumption) (Nat.le_refl _) _)) | (go_split_ands; exact LessAt.keep P4.out hlt4 ((show LessAt W4 w3.heap.size w3.heap.size (.slice A1 g.toks.length k1) (.slice A2 g.rules.length k2) (.int .i64 g.start) (.int .i64 g.states) (.int .i64 g.text) (.int .i64 g.nodes) (.int .i64 g.pairs) _ by assumption).next (by omega) (by omega) (below_alloc (show LessAt W4 w3.heap.size w3.heap.size (.slice A1 g.toks.length k1) (.slice A2 g.rules.length k2) (.int .i64 g.start) (.int .i64 g.states) (.int .i64 g.text) (.int .i64 g.nodes) (.int .i64 g.pairs) _ by assumption).size (Below.refl _ _)))) | (go_split_ands; exact LessAt.keep P4.out hlt4 L6.out) | (go_split_ands; exact LessAt.keep P4.out hlt4 L5.out))
      (first | (have _t := tok1; go_split_ands; have L4 := hidden (show LessAt W4 w3.heap.size w3.heap.size (.slice A1 g.toks.length k1) (.slice A2 g.rules.length k2) (.int .i64 g.start) (.int .i64 g.states) (.int .i64 g.text) (.int .i64 g.nodes) (.int .i64 g.pairs) _ by first | assumption | exact HLA.out); refine step_append_rd rfl _ _ 34 56 rfl (by kernel_rfl) prod_info rfl (by decide) W4.heap.size _ 0 [] (hidden (Mine.fresh_nil _ _ _ _ _)) _ at_ _ (hidden (HXa.out _ L4.out.below)) HO1 rfl rfl (by omega) (by decide) L4.out.size ?_; intro v5 w5 hA5; have L5 := hidden (L4.out.next (by omega) (by omega) hA5.out.below); clear tok1 _t L4) | (refine step_append_rd rfl _ _ 34 56 rfl (by kernel_rfl) prod_info rfl (by decide) W4.heap.size _ _ _ (hidden hA5.out.mine) _ (g.prods.length - (at_ + 1)) _ (hidden (HXb0.out _ L5.out.below)) HO2 rfl rfl (by omega) (by decide) L5.out.size ?_; intro v6 w6 hA6; have L6 := hidden (L5.out.next (by omega) (by omega) hA6.out.below); obtain ⟨A6, c6, rfl⟩ := Mine.value hA6.out.mine; obtain ⟨u6, hu6⟩ := L6.out.at_; have z6 := hu6.cell 2; have f6 := hu6.frozen 2; clear hu6))
    obtain ⟨WF, hWF⟩ : ∃ WF, WF = w6.setCell ⟨w3.heap.size, 2, none⟩ (.slice A6 (at_ + (g.prods.length - (at_ + 1))) c6) := ⟨_, rfl⟩
    rw [← hWF]
    have hb56 := hA5.out.below.trans hA6.out.below
    have hb46 : Below W4.heap.size W4 w6 := ((((Below.refl _ _).alloc (Nat.le_refl _) _).drew).trans hA5.out.below).trans hA6.out.below
    have hb4F : Below w3.heap.size W4 WF := by rw [hWF]; exact below_set (Nat.le_refl _) (hb46.mono (by omega))
    have hbF : Below w.heap.size w WF := hb4.trans (hb4F.mono (by omega))
    have PF : Hid (Holds WF w.heap.size 36 #[.slice A1 g.toks.length k1, .slice A2 g.rules.length k2, (.slice (some ⟨b1, o1, none⟩) g.prods.length k3), .int .i64 g.start, .int .i64 g.states, .int .i64 g.text, .int .i64 g.nodes, .int .i64 g.pairs]) := hidden (by rw [hWF]; exact holds_far (by omega) (P4.out.below hb46 (by omega)))
    have HF : Hid (Holds WF w3.heap.size 36 #[.slice A1 g.toks.length k1, .slice A2 g.rules.length k2, (.slice A6 (at_ + (g.prods.length - (at_ + 1))) c6), .int .i64 g.start, .int .i64 g.states, .int .i64 g.text, .int .i64 g.nodes, .int .i64 g.pairs]) := hidden (by rw [hWF]; exact Holds.of_eq (holds_set (H4.out.below hb46 hz4)) (by rfl))
    have HRl : Recs prodR WF (Old WF) (.slice A6 (at_ + (g.prods.length - (at_ + 1))) c6) (g.prods.take at_ ++ g.prods.drop (at_ + 1)) := Recs.less HLs.out HIn.out (by omega) hb4F (by first | exact hA6.out.mine | (simpa using hA6.out.mine)) hatl hz4 _ hWF
    have HGF := HGo.out _ hbF
    have HGh := hidden (show GramIs WF (Old WF) (.slice A1 g.toks.length k1) (.slice A2 g.rules.length k2) (.slice A6 (at_ + (g.prods.length - (at_ + 1))) c6) (lessG g at_) from ⟨HGF.1, HGF.2.1, HRl⟩)
    have hzF := hb4F.size
    have hll := less_len hatl
    clear hA5 hA6 L5 L6 z6 f6 hb56 hb46 P4 H4 HRl hWF HXa HO1 HO2 HIn HLs s2 t2 f2 HW4 HLA hw1 i1 i2 i3 i4 i5 HGF hrd
    have HCk := hidden (fun (w' : World) (hb : Below WF.heap.size WF w') => gram_Check _ _ _ (lessG g at_) w' (HGh.out.old hb) (by show g.toks.length ≤ _; omega) (by show g.rules.length ≤ _; omega) (by omega) hz)
    have HRt := hidden (fun (w' : World) (hb : Below WF.heap.size WF w') => gram_Right _ _ _ (lessG g at_) w' (HGh.out.old hb) (by show g.toks.length ≤ _; omega) (by show g.rules.length ≤ _; omega) (by omega) hz)
    have HSm := hidden (fun (w' : World) (hb : Below WF.heap.size WF w') => gram_Same _ _ _ _ _ _ g (lessG g at_) w' ((HGo.out _ hbF).old hb) (HGh.out.old hb))
    have hne : eqB g (lessG g at_) = false := eqB_false (fun e => by have := congrArg (fun g : Gram => g.prods.length) e; have e2 : g.prods.length = (lessG g at_).prods.length := this; omega)
    rw [hne] at HSm
    have HL1 : Hid (1 < (ofRule g p.left).length → rightB (lessG g at_) = true) := hidden (fun h => by unfold rightB; rw [less_right HRG.out HX.out h]; rfl)
    have HL2 : Hid (¬ 1 < (ofRule g p.left).length → checkOf (lessG g at_) = ⟨5, p.left, 0⟩) := hidden (fun h => less_wrong HRG.out HX.out h)
    have HOk := hidden (C3.out p.left WF hbF)
    generalize ofRule g p.left = ro at *
    unfold gramCells lessG at HCk HRt HSm
    dsimp only at HCk HRt HSm
    clear hne HGo HGh
    obtain ⟨s0, s1, s2, s3, s4, s5, s6, s7⟩ := eight PF.out
    by_cases h1 : 1 < ro.length
    · have HL := hidden (HL1.out h1)
      rw [show rightB { toks := g.toks, rules := g.rules, prods := g.prods.take at_ ++ g.prods.drop (at_ + 1), start := g.start, states := g.states, text := g.text, nodes := g.nodes, pairs := g.pairs } = true from HL.out] at HRt
      go_wp2_with fail
      refine HOk.out.mono ?_
      rintro r w7 ⟨⟨u, rfl, HM⟩, hb7⟩
      obtain ⟨Au, cu, rfl⟩ := Mine.value HM.out
      replace PF := hidden (PF.out.below hb7 (by omega))
      replace HF := hidden (HF.out.below hb7 (by omega))
      have hbW := hidden hb7
      have hz7 := hb7.size
      replace hbF := hbF.more hb7
      clear hb7 HM HOk s0 s1 s2 s3 s4 s5 s6 s7
      obtain ⟨s0, s1, s2, s3, s4, s5, s6, s7⟩ := eight PF.out
      obtain ⟨t0, t1, t2, t3, t4, t5, t6, t7⟩ := eight HF.out
      have hbW := hbW.out
      go_wp2_with fail
      refine (HRt.out _ hbW).mono ?_
      rintro r w8 ⟨rfl, hb8⟩
      replace PF := hidden (PF.out.below hb8 (by omega))
      replace HF := hidden (HF.out.below hb8 (by omega))
      replace hbW := hbW.more hb8
      replace hbF := hbF.more hb8
      have hz8 := hb8.size
      clear hb8 s0 s1 s2 s3 s4 s5 s6 s7 t0 t1 t2 t3 t4 t5 t6 t7
      obtain ⟨s0, s1, s2, s3, s4, s5, s6, s7⟩ := eight PF.out
      obtain ⟨t0, t1, t2, t3, t4, t5, t6, t7⟩ := eight HF.out
      go_wp2_with fail
      refine (HSm.out _ hbW).mono ?_
      rintro r w9 ⟨rfl, hb9⟩
      replace hbF := hbF.more hb9
      clear hb9 s0 s1 s2 s3 s4 s5 s6 s7 t0 t1 t2 t3 t4 t5 t6 t7
      go_wp2_with fail
      refine (HKn.out _).mono ?_
      rintro r w10 ⟨rfl, hb10⟩
      replace hbF := hbF.more hb10
      clear hb10
      go_wp2
      go_ret
      exact ⟨rfl, hbF⟩
    · have HL := hidden (HL2.out h1)
      rw [show checkOf { toks := g.toks, rules := g.rules, prods := g.prods.take at_ ++ g.prods.drop (at_ + 1), start := g.start, states := g.states, text := g.text, nodes := g.nodes, pairs := g.pairs } = ⟨5, p.left, 0⟩ from HL.out] at HCk
      go_wp2_with fail
      refine HOk.out.mono ?_
      rintro r w7 ⟨⟨u, rfl, HM⟩, hb7⟩
      obtain ⟨Au, cu, rfl⟩ := Mine.value HM.out
      replace HF := hidden (HF.out.below hb7 (by omega))
      have hbW := hb7
      have hz7 := hb7.size
      replace hbF := hbF.more hb7
      clear hb7 HM HOk s0 s1 s2 s3 s4 s5 s6 s7
      obtain ⟨t0, t1, t2, t3, t4, t5, t6, t7⟩ := eight HF.out
      have hq := def_eq_run
      have hq2 : ∀ w, (Op.equalIn 10000 40 (.agg #[.int .i64 5, .int .i64 p.left, .int .i64 0]) (.agg #[.int .i64 5, .int .i64 p.left, .int .i64 0])).run Try.prog w = .ok true w := fun w => by
        have := def_eq_run w ⟨5, p.left, 0⟩ ⟨5, p.left, 0⟩
        rwa [eqB_self] at this
      unfold defC at HCk
      clear hq
      go_wp2_with fail
      refine (HCk.out _ hbW).mono ?_
      rintro r w8 ⟨rfl, hb8⟩
      replace hbF := hbF.more hb8
      clear hb8 t0 t1 t2 t3 t4 t5 t6 t7
      go_wp2_with fail
      refine (HKn.out _).mono ?_
      rintro r w10 ⟨rfl, hb10⟩
      replace hbF := hbF.more hb10
      clear hb10
      go_wp2
      go_ret
      exact ⟨rfl, hbF⟩

theorem law_less_u8 (a b c : Value) (g : Gram) (k : Int) (w : World) (HG : GramIs w (Old w) a b c g) (hz : Named g) (h0 : 0 ≤ k) (h1 : k ≤ 255) :
    Calls Try.prog 9 #[.agg (gramCells a b c g), .int .u8 k] w fun r w' => r = .returned (.bool true) ∧ Below w.heap.size w w' := by
  obtain ⟨kk, rfl⟩ : ∃ kk : Nat, k = (kk : Int) := ⟨k.toNat, by omega⟩
  exact law_less a b c g kk w HG hz (by omega)
end Go.Proofs.Ytaagkbgbghleiaa
