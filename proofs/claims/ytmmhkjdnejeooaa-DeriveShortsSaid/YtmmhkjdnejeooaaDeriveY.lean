/-
  DeriveShorts: the walk.
-/
import Derived.Test.YtmmhkjdnejeooaaDeriveX
import Derived.Test.YtmmhkjdnejeooaaDeriveN
import Derived.Test.YtmmhkjdnejeooaaLawSmallF
namespace Go.Proofs.Ytmmhkjdnejeooaa.T
open Go.RowKit Go.Shelf

theorem byD_left {g : Gram} (hsd : Sound g) (hT : Settled g.prods (docS g)) (r j : Nat) (p : Prod) (h1 : (byD g.prods (docS g))[r]? = some (j : Int)) (h2 : g.prods[j]? = some p) : p.left = (r : Int) := by
  have hl : (byD g.prods (docS g)).length = g.rules.length := (byK_len _).trans (docS_len g)
  have hr := (List.getElem?_eq_some_iff.1 h1).1
  have hs : 0 ≤ szI (byD g.prods (docS g)) r := by rw [szI_at h1]; omega
  have h3 := (by_neg (fun p hp => hsd.left p hp) (docS_reach g) hT (r := r) (by omega)).1 hs
  obtain ⟨j', p', a1, a2, a3, _⟩ := by_some (fun p hp => hsd.left p hp) (docS_reach g) hT (r := r) (by omega) h3
  rw [h1] at a1
  have e : j = j' := by have := Option.some.inj a1; omega
  subst e
  rw [h2] at a2
  obtain rfl := Option.some.inj a2
  exact a3
theorem shortG_not {g : Gram} {r : Int} (h : ¬ (0 ≤ sizeG g r ∧ sizeG g r ≤ 65536)) : shortG g r = [] := by unfold shortG; rw [if_neg (fun e => h e.2)]
theorem shortG_part {g : Gram} {r : Int} (hpr : ∀ p ∈ g.prods, p.right.length ≤ 4398046511104) (h0 : 0 ≤ sizeG g r) (h1 : sizeG g r ≤ 65536) :
    Tree (shortG g r) ∧ ((shortG g r).length : Int) = sizeG g r ∧ (∀ i, i < (shortG g r).length → kindAt (shortG g r) i = 2 ∨ kindAt (shortG g r) i = 3) ∧ partD g (shortG g r) (itR r) = true := by
  obtain ⟨hr, a0, a1, e⟩ := sizeG_at h0
  have hsd := rightB_sound hr
  have hT := docS_settled hsd hpr
  obtain ⟨ok, len⟩ := shortG_ok hsd hpr a0 a1 (by omega) (by omega)
  have hp := part_sits (fun r j p => byD_left hsd hT r j p) (right_toks hr) 65537 (itR r) ok (fun h => by cases h)
  have e2 : shortG g r = partL g.prods (byD g.prods (docS g)) 65537 (itR r) := by unfold shortG; rw [if_pos ⟨hr, h0, h1⟩]
  rw [e2]
  obtain ⟨t1, _, t3⟩ := partC_tree hp
  exact ⟨t1, by omega, fun i hi => (fitQ_fits (t3 i hi)).2.2, partC_part hr hp⟩
theorem derive_ShortG (a b c : Value) (g : Gram) (rule : Int) (w : World) (HG : GramIs w (Old w) a b c g) (hsm : Small g) (hpr : ∀ p ∈ g.prods, p.right.length ≤ 4398046511104) :
    Calls Try.prog 17 #[.agg (gramCells a b c g), .int .i64 rule] w fun r w' => (∃ u, r = .returned u ∧ Hid (Own w' w.heap.size u (shortG g rule))) ∧ Below w.heap.size w w' := by
  cases hr : rightB g
  · have e : shortG g rule = [] := by unfold shortG; rw [if_neg (fun h => by rw [hr] at h; cases h.1)]
    rw [e]
    exact derive_Short_not a b c g rule w HG hsm hr
  · have hsd := rightB_sound hr
    have hT := docS_settled hsd hpr
    have := derive_Short a b c g rule (docS g) 65537 w HG hsm hpr (docS_reach g) hT (fun _ h0 h1 h2 h3 => (shortG_ok hsd hpr h0 h1 (by
      have h9 := by_neg (fun p hp => hsd.left p hp) (docS_reach g) hT (r := rule.toNat) (by omega)
      rw [show ((rule.toNat : Nat) : Int) = rule by omega] at h9
      exact h9.1 h2) h3).1)
    rwa [short_same hsd hpr] at this

set_option maxRecDepth 100000 in
set_option maxHeartbeats 16000000 in
theorem law_deriveShorts (a b c : Value) (g : Gram) (rule : Int) (w : World) (HG : GramIs w (Old w) a b c g) (hz : Named g) (hpr : ∀ p ∈ g.prods, p.right.length ≤ 4398046511104) :
    Calls Try.prog 4 #[.agg (gramCells a b c g), .int .i64 rule] w fun r w' => r = .returned (.bool true) ∧ Below w.heap.size w w' := by
  have HSm := hidden (fun (w' : World) (hb : Below w.heap.size w w') => law_Small a b c g w' (HG.old hb) hz)
  have HKn := hidden knows30
  have HSz := hidden (fun (hs : Small g) (w' : World) (hb : Below w.heap.size w w') => ref_Size30 a b c g rule w' (HG.old hb) hs hpr)
  have HD := hidden (fun (hs : Small g) (w' : World) (hb : Below w.heap.size w w') => derive_ShortG a b c g rule w' (HG.old hb) hs hpr)
  have HR := hidden (fun (hs : Small g) (w' : World) (hb : Below w.heap.size w w') => ref_Short30 a b c g rule w' (HG.old hb) hs hpr)
  have HP := hidden (fun (hs : Small g) (v : Value) (t : List Node) (h4 : t.length ≤ 1000000) (w' : World) (hb : Below w.heap.size w w') (HN : Nds w' (Old w') v t) => derive_Part a b c v g t (itR rule) w' (HG.old hb) hs HN h4)
  have HSI := hidden (fun (h : smallB g = true) => (small_is h hz).1)
  have HT0 := hidden (@shortG_not g rule)
  have HT1 := hidden (@shortG_part g rule hpr)
  obtain ⟨⟨A1, k1, rfl, v1, m1⟩, ⟨A2, k2, rfl, v2, m2⟩, ⟨A3, k3, rfl, v3, m3⟩⟩ := HG.vals
  generalize shortG g rule = T at *
  generalize sizeG g rule = sv at *
  generalize hsb : smallB g = sb at *
  clear hsb
  unfold maxLen at m1 m2 m3
  unfold gramCells at *
  unfold itV itR at HP
  dsimp only at HP
  have hb1 : Below w.heap.size w (w.alloc (.cells #[.slice A1 g.toks.length k1, .slice A2 g.rules.length k2, .slice A3 g.prods.length k3, .int .i64 g.start, .int .i64 g.states, .int .i64 g.text, .int .i64 g.nodes, .int .i64 g.pairs] 26)) := (Below.refl _ _).alloc (Nat.le_refl _) _
  have HB1 : Hid (Holds (w.alloc (.cells #[.slice A1 g.toks.length k1, .slice A2 g.rules.length k2, .slice A3 g.prods.length k3, .int .i64 g.start, .int .i64 g.states, .int .i64 g.text, .int .i64 g.nodes, .int .i64 g.pairs] 26)) w.heap.size 26 #[.slice A1 g.toks.length k1, .slice A2 g.rules.length k2, .slice A3 g.prods.length k3, .int .i64 g.start, .int .i64 g.states, .int .i64 g.text, .int .i64 g.nodes, .int .i64 g.pairs]) := hidden (Holds.new w _ _)
  clear HG hz hpr
  go_enter Try.func4, Try.ntmps4
  go_upto_region 1 with fail
  generalize (w.alloc (.cells #[.slice A1 g.toks.length k1, .slice A2 g.rules.length k2, .slice A3 g.prods.length k3, .int .i64 g.start, .int .i64 g.states, .int .i64 g.text, .int .i64 g.nodes, .int .i64 g.pairs] 26)) = w1 at *
  obtain ⟨x0, x1, x2, x3, x4, x5, x6, x7⟩ := eightR HB1.out
  have HX := hidden (HSm.out _ hb1)
  go_wp2_with fail
  refine HX.out.mono ?_
  rintro r w11 ⟨rfl, hbn⟩
  replace HB1 := hidden (HB1.out.below hbn HB1.out.lt)
  have hbz := hb1.size
  replace hb1 := hb1.trans (hbn.mono hbz)
  clear x0 x1 x2 x3 x4 x5 x6 x7 hbn HX hbz
  obtain ⟨x0, x1, x2, x3, x4, x5, x6, x7⟩ := eightR HB1.out
  cases sb
  · clear HSm HSz HD HR HP HSI HT0 HT1
    have HX := HKn
    go_wp2_with fail
    refine (HX.out _).mono ?_
    rintro r w12 ⟨rfl, hbn⟩
    replace HB1 := hidden (HB1.out.below hbn HB1.out.lt)
    have hbz := hb1.size
    replace hb1 := hb1.trans (hbn.mono hbz)
    clear x0 x1 x2 x3 x4 x5 x6 x7 hbn HX hbz
    obtain ⟨x0, x1, x2, x3, x4, x5, x6, x7⟩ := eightR HB1.out
    go_wp2
    go_ret
    exact ⟨rfl, hb1⟩
  · clear HSm
    have hsm := HSI.out rfl
    replace HSz := hidden (HSz.out hsm)
    replace HD := hidden (HD.out hsm)
    replace HR := hidden (HR.out hsm)
    replace HP := hidden (HP.out hsm)
    clear HSI hsm
    have HX := hidden (HSz.out _ hb1)
    go_wp2_with fail
    refine HX.out.mono ?_
    rintro r w13 ⟨rfl, hbn⟩
    replace HB1 := hidden (HB1.out.below hbn HB1.out.lt)
    have hbz := hb1.size
    replace hb1 := hb1.trans (hbn.mono hbz)
    clear x0 x1 x2 x3 x4 x5 x6 x7 hbn HX hbz
    obtain ⟨x0, x1, x2, x3, x4, x5, x6, x7⟩ := eightR HB1.out
    by_cases h3 : 300 < sv
    · have q3 : decide (300 < sv) = true := decide_eq_true h3
      have HX := hidden (HSz.out _ hb1)
      go_wp2_with fail
      refine HX.out.mono ?_
      rintro r w14 ⟨rfl, hbn⟩
      replace HB1 := hidden (HB1.out.below hbn HB1.out.lt)
      have hbz := hb1.size
      replace hb1 := hb1.trans (hbn.mono hbz)
      clear x0 x1 x2 x3 x4 x5 x6 x7 hbn HX hbz
      obtain ⟨x0, x1, x2, x3, x4, x5, x6, x7⟩ := eightR HB1.out
      by_cases h6 : sv ≤ 65536
      · have q6 : decide (sv ≤ 65536) = true := decide_eq_true h6
        clear HSz HD HR HP HT0 HT1
        have HX := HKn
        go_wp2_with fail
        refine (HX.out _).mono ?_
        rintro r w15 ⟨rfl, hbn⟩
        replace HB1 := hidden (HB1.out.below hbn HB1.out.lt)
        have hbz := hb1.size
        replace hb1 := hb1.trans (hbn.mono hbz)
        clear x0 x1 x2 x3 x4 x5 x6 x7 hbn HX hbz
        obtain ⟨x0, x1, x2, x3, x4, x5, x6, x7⟩ := eightR HB1.out
        go_wp2
        go_ret
        exact ⟨rfl, hb1⟩
      · have q6 : decide (sv ≤ 65536) = false := decide_eq_false h6
        obtain rfl := HT0.out (fun h => h6 h.2)
        clear HT0 HT1
        clear HSz
        have HX := hidden (HD.out _ hb1)
        go_wp2_with fail
        refine HX.out.mono ?_
        rintro r w16 ⟨⟨u1, rfl, HO⟩, hbn⟩
        replace HB1 := hidden (HB1.out.below hbn HB1.out.lt)
        have hbz := hb1.size
        replace hb1 := hb1.trans (hbn.mono hbz)
        have HN1 := hidden (Own.nds HO.out)
        obtain ⟨A5, c5, rfl, hc51, hc52⟩ := HN1.out.value
        unfold maxLen at hc52
        clear HO
        clear x0 x1 x2 x3 x4 x5 x6 x7 hbn HX hbz
        obtain ⟨x0, x1, x2, x3, x4, x5, x6, x7⟩ := eightR HB1.out
        have HX := hidden (HR.out _ hb1)
        go_wp2_with fail
        refine HX.out.mono ?_
        rintro r w17 ⟨⟨u2, rfl, HU2⟩, hbn⟩
        replace HB1 := hidden (HB1.out.below hbn HB1.out.lt)
        have hbz := hb1.size
        replace hb1 := hb1.trans (hbn.mono hbz)
        have HN2 := hidden (Nds.mono HU2.out (fun k hk => hk.2))
        obtain ⟨A6, c6, rfl, hc61, hc62⟩ := HN2.out.value
        unfold maxLen at hc62
        replace HN1 := hidden (HN1.out.old hbn)
        clear HU2
        clear x0 x1 x2 x3 x4 x5 x6 x7 hbn HX hbz
        obtain ⟨x0, x1, x2, x3, x4, x5, x6, x7⟩ := eightR HB1.out
        have HX := hidden (ref_same _ _ _ _ _ HN1.out HN2.out)
        go_wp2_with fail
        refine HX.out.mono ?_
        rintro r w18 ⟨rfl, hbn⟩
        replace HB1 := hidden (HB1.out.below hbn HB1.out.lt)
        have hbz := hb1.size
        replace hb1 := hb1.trans (hbn.mono hbz)
        rw [eqB_self]
        replace HN1 := hidden (HN1.out.old hbn)
        clear HN2
        clear x0 x1 x2 x3 x4 x5 x6 x7 hbn HX hbz
        obtain ⟨x0, x1, x2, x3, x4, x5, x6, x7⟩ := eightR HB1.out
        have HX := HKn
        go_wp2_with fail
        refine (HX.out _).mono ?_
        rintro r w19 ⟨rfl, hbn⟩
        replace HB1 := hidden (HB1.out.below hbn HB1.out.lt)
        have hbz := hb1.size
        replace hb1 := hb1.trans (hbn.mono hbz)
        clear x0 x1 x2 x3 x4 x5 x6 x7 hbn HX hbz
        obtain ⟨x0, x1, x2, x3, x4, x5, x6, x7⟩ := eightR HB1.out
        go_wp2
        go_ret
        exact ⟨rfl, hb1⟩
    · have q3 : decide (300 < sv) = false := decide_eq_false h3
      by_cases h0 : 0 ≤ sv
      · have HTT := hidden (HT1.out h0 (by omega))
        have HTr := hidden HTT.out.1
        have HKd := hidden HTT.out.2.2.1
        have hpd : partD g T ⟨true, rule, 0, 0⟩ = true := HTT.out.2.2.2
        have h4 : T.length ≤ 1000000 := by have := HTT.out.2.1; omega
        have h5 : 0 < T.length := tree_len HTr.out
        have q5 : ((T.length : Int) == 0) = false := beq_eq_false_iff_ne.2 (by omega)
        clear HT0 HT1 HTT
        clear HSz
        have HX := hidden (HD.out _ hb1)
        go_wp2_with fail
        refine HX.out.mono ?_
        rintro r w20 ⟨⟨u1, rfl, HO⟩, hbn⟩
        replace HB1 := hidden (HB1.out.below hbn HB1.out.lt)
        have hbz := hb1.size
        replace hb1 := hb1.trans (hbn.mono hbz)
        have HN1 := hidden (Own.nds HO.out)
        obtain ⟨A5, c5, rfl, hc51, hc52⟩ := HN1.out.value
        unfold maxLen at hc52
        clear HO
        clear x0 x1 x2 x3 x4 x5 x6 x7 hbn HX hbz
        obtain ⟨x0, x1, x2, x3, x4, x5, x6, x7⟩ := eightR HB1.out
        have HX := hidden (HR.out _ hb1)
        go_wp2_with fail
        refine HX.out.mono ?_
        rintro r w21 ⟨⟨u2, rfl, HU2⟩, hbn⟩
        replace HB1 := hidden (HB1.out.below hbn HB1.out.lt)
        have hbz := hb1.size
        replace hb1 := hb1.trans (hbn.mono hbz)
        have HN2 := hidden (Nds.mono HU2.out (fun k hk => hk.2))
        obtain ⟨A6, c6, rfl, hc61, hc62⟩ := HN2.out.value
        unfold maxLen at hc62
        replace HN1 := hidden (HN1.out.old hbn)
        clear HU2
        clear x0 x1 x2 x3 x4 x5 x6 x7 hbn HX hbz
        obtain ⟨x0, x1, x2, x3, x4, x5, x6, x7⟩ := eightR HB1.out
        have HX := hidden (ref_same _ _ _ _ _ HN1.out HN2.out)
        go_wp2_with fail
        refine HX.out.mono ?_
        rintro r w22 ⟨rfl, hbn⟩
        replace HB1 := hidden (HB1.out.below hbn HB1.out.lt)
        have hbz := hb1.size
        replace hb1 := hb1.trans (hbn.mono hbz)
        rw [eqB_self]
        replace HN1 := hidden (HN1.out.old hbn)
        clear HN2
        clear x0 x1 x2 x3 x4 x5 x6 x7 hbn HX hbz
        obtain ⟨x0, x1, x2, x3, x4, x5, x6, x7⟩ := eightR HB1.out
        have HX := hidden (ref_Clean29 _ _ _ HN1.out h4 HTr.out HKd.out)
        go_wp2_with fail
        refine HX.out.mono ?_
        rintro r w23 ⟨rfl, hbn⟩
        replace HB1 := hidden (HB1.out.below hbn HB1.out.lt)
        have hbz := hb1.size
        replace hb1 := hb1.trans (hbn.mono hbz)
        replace HN1 := hidden (HN1.out.old hbn)
        clear x0 x1 x2 x3 x4 x5 x6 x7 hbn HX hbz
        obtain ⟨x0, x1, x2, x3, x4, x5, x6, x7⟩ := eightR HB1.out
        have HX := hidden (HP.out _ _ h4 _ hb1 HN1.out)
        go_wp2_with fail
        refine HX.out.mono ?_
        rintro r w24 ⟨rfl, hbn⟩
        replace HB1 := hidden (HB1.out.below hbn HB1.out.lt)
        have hbz := hb1.size
        replace hb1 := hb1.trans (hbn.mono hbz)
        rw [hpd]
        clear HN1
        clear x0 x1 x2 x3 x4 x5 x6 x7 hbn HX hbz
        obtain ⟨x0, x1, x2, x3, x4, x5, x6, x7⟩ := eightR HB1.out
        have HX := HKn
        go_wp2_with fail
        refine (HX.out _).mono ?_
        rintro r w25 ⟨rfl, hbn⟩
        replace HB1 := hidden (HB1.out.below hbn HB1.out.lt)
        have hbz := hb1.size
        replace hb1 := hb1.trans (hbn.mono hbz)
        clear x0 x1 x2 x3 x4 x5 x6 x7 hbn HX hbz
        obtain ⟨x0, x1, x2, x3, x4, x5, x6, x7⟩ := eightR HB1.out
        go_wp2
        go_ret
        exact ⟨rfl, hb1⟩
      · obtain rfl := HT0.out (fun h => h0 h.1)
        clear HT0 HT1
        clear HSz
        have HX := hidden (HD.out _ hb1)
        go_wp2_with fail
        refine HX.out.mono ?_
        rintro r w26 ⟨⟨u1, rfl, HO⟩, hbn⟩
        replace HB1 := hidden (HB1.out.below hbn HB1.out.lt)
        have hbz := hb1.size
        replace hb1 := hb1.trans (hbn.mono hbz)
        have HN1 := hidden (Own.nds HO.out)
        obtain ⟨A5, c5, rfl, hc51, hc52⟩ := HN1.out.value
        unfold maxLen at hc52
        clear HO
        clear x0 x1 x2 x3 x4 x5 x6 x7 hbn HX hbz
        obtain ⟨x0, x1, x2, x3, x4, x5, x6, x7⟩ := eightR HB1.out
        have HX := hidden (HR.out _ hb1)
        go_wp2_with fail
        refine HX.out.mono ?_
        rintro r w27 ⟨⟨u2, rfl, HU2⟩, hbn⟩
        replace HB1 := hidden (HB1.out.below hbn HB1.out.lt)
        have hbz := hb1.size
        replace hb1 := hb1.trans (hbn.mono hbz)
        have HN2 := hidden (Nds.mono HU2.out (fun k hk => hk.2))
        obtain ⟨A6, c6, rfl, hc61, hc62⟩ := HN2.out.value
        unfold maxLen at hc62
        replace HN1 := hidden (HN1.out.old hbn)
        clear HU2
        clear x0 x1 x2 x3 x4 x5 x6 x7 hbn HX hbz
        obtain ⟨x0, x1, x2, x3, x4, x5, x6, x7⟩ := eightR HB1.out
        have HX := hidden (ref_same _ _ _ _ _ HN1.out HN2.out)
        go_wp2_with fail
        refine HX.out.mono ?_
        rintro r w28 ⟨rfl, hbn⟩
        replace HB1 := hidden (HB1.out.below hbn HB1.out.lt)
        have hbz := hb1.size
        replace hb1 := hb1.trans (hbn.mono hbz)
        rw [eqB_self]
        replace HN1 := hidden (HN1.out.old hbn)
        clear HN2
        clear x0 x1 x2 x3 x4 x5 x6 x7 hbn HX hbz
        obtain ⟨x0, x1, x2, x3, x4, x5, x6, x7⟩ := eightR HB1.out
        have HX := HKn
        go_wp2_with fail
        refine (HX.out _).mono ?_
        rintro r w29 ⟨rfl, hbn⟩
        replace HB1 := hidden (HB1.out.below hbn HB1.out.lt)
        have hbz := hb1.size
        replace hb1 := hb1.trans (hbn.mono hbz)
        clear x0 x1 x2 x3 x4 x5 x6 x7 hbn HX hbz
        obtain ⟨x0, x1, x2, x3, x4, x5, x6, x7⟩ := eightR HB1.out
        go_wp2
        go_ret
        exact ⟨rfl, hb1⟩
end Go.Proofs.Ytmmhkjdnejeooaa.T
