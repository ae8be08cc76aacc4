/-
  FindSteps: the walk.
-/
import Derived.Test.YtdbbjlphlbndkaaFindK
import Derived.Test.YtdbbjlphlbndkaaFindLP
import Derived.Test.YtdbbjlphlbndkaaLawSmallF
import Derived.Deep.RegionHeld3
import Derived.StillTailTactics
namespace Go.Proofs.Ytdbbjlphlbndkaa.T
open Go.RowKit Go.Shelf

theorem cell_more {w w1 w2 : World} {b o : Nat} {v : Value} (h : w.cell? ⟨b, o, none⟩ = some v) (h1 : Below w.heap.size w w1) (h2 : Below w1.heap.size w1 w2) : w2.cell? ⟨b, o, none⟩ = some v :=
  Ext.cell h ⟨w2, h1.trans (h2.mono h1.size)⟩
theorem below_more {w w1 w2 : World} (h : Below w.heap.size w w1) (k : Below w1.heap.size w1 w2) : Below w.heap.size w w2 := h.trans (k.mono h.size)
theorem keep_two {w : World} {b1 o1 b2 o2 : Nat} {u v : Value} (h1 : w.cell? ⟨b1, o1, none⟩ = some u) (h2 : w.cell? ⟨b2, o2, none⟩ = some v) (o : Obj) : (w.drew.alloc o).cell? ⟨b1, o1, none⟩ = some u ∧ (w.drew.alloc o).cell? ⟨b2, o2, none⟩ = some v :=
  ⟨cellF h1 (Below.alloc (Below.drew (Below.refl _ _)) (Nat.le_refl _) o), cellF h2 (Below.alloc (Below.drew (Below.refl _ _)) (Nat.le_refl _) o)⟩
theorem keep_app {w w' w7 : World} {b1 o1 b2 o2 : Nat} {u v s s' : Value} {e : TypeId} {size n : Nat} {xs : List Value} {o : Obj} (h1 : w.cell? ⟨b1, o1, none⟩ = some u) (h2 : w.cell? ⟨b2, o2, none⟩ = some v) (hb1 : b1 < w7.heap.size)
    (hA : Appended (w.drew.alloc o) w7.heap.size e size s n xs s' w') (hb2 : Hid (s.ownBlock ≠ some b2)) : w'.cell? ⟨b1, o1, none⟩ = some u ∧ w'.cell? ⟨b2, o2, none⟩ = some v := by
  obtain ⟨g1, g2⟩ := keep_two h1 h2 o
  exact ⟨(hA.below.cell (p := ⟨b1, o1, none⟩) hb1).trans g1, hA.keeps.cell (a := ⟨b2, o2, none⟩) hb2.out g2⟩
theorem ints_cast (l : List Nat) : (castL l).flatMap (one1 intV) = ints l := by
  induction l with
  | nil => rfl
  | cons x l ih =>
    show [intV (x : Int)] ++ (castL l).flatMap (one1 intV) = _
    rw [ih]
    rfl
theorem cast_len (l : List Nat) : (castL l).length = l.length := by unfold castL; rw [List.length_map]

set_option maxRecDepth 100000 in
set_option maxHeartbeats 16000000 in
theorem law_findSteps (a b c v : Value) (g : Gram) (t : List Node) (sa sb : ByteArray) (w : World) (HG : GramIs w (Old w) a b c g) (hz : Named g) (HN : Nds w (Old w) v t) (hsa : sa.size ≤ maxLen) (hsb : sb.size ≤ maxLen) :
    Calls Try.prog 3 #[.agg (gramCells a b c g), v, .string sa, .string sb] w fun r w' => r = .returned (.bool true) ∧ Below w.heap.size w w' := by
  have HSm := hidden (fun (w' : World) (hb : Below w.heap.size w w') => law_Small a b c g w' (HG.old hb) hz)
  have HFw := hidden (fun (w' : World) (hb : Below w.heap.size w w') => few_any v t w' (HN.old hb))
  have HRt := hidden (fun (h4 : t.length ≤ 60) (w' : World) (hb : Below w.heap.size w w') => ref_right v t w' (by omega) (HN.old hb))
  have HCa := hidden (fun (hs : Small g) (w' : World) (hb : Below w.heap.size w w') => find_Check a b c g sa w' (HG.old hb) hs hsa)
  have HCb := hidden (fun (hs : Small g) (w' : World) (hb : Below w.heap.size w w') => find_Check a b c g sb w' (HG.old hb) hs hsb)
  have HKn := hidden knows41
  have HOa := hidden (fun (hs : Small g) (h4 : t.length ≤ 60) (w' : World) (hb : Below w.heap.size w w') => find_Of a b c v g t sa w' (HG.old hb) hs hsa (by omega) (HN.old hb))
  have HOab := hidden (fun (hs : Small g) (h4 : t.length ≤ 60) (hz : (sa ++ sb).size ≤ maxLen) (w' : World) (hb : Below w.heap.size w w') => find_Of a b c v g t (sa ++ sb) w' (HG.old hb) hs hz (by omega) (HN.old hb))
  have HSb := hidden (fun (ht : Tree t) (h4 : t.length ≤ 60) (p : Nat) (hp : p < t.length) (w' : World) (hb : Below w.heap.size w w') =>
    show Calls Try.prog 11 #[v, .int .i64 (p : Int)] w' fun r w'' => (∃ u, r = .returned u ∧ Hid (Nds w'' (Old w'') u (subL t p))) ∧ Below w'.heap.size w' w'' from by
      have := ref_sub v t (p : Int) w' (by omega) (HN.old hb)
      rwa [subOf_in ht hp] at this)
  have HOb := hidden (fun (hs : Small g) (h4 : t.length ≤ 60) (u : Value) (p : Nat) (hp : p < t.length) (ht : Tree t) (w' : World) (hN : Nds w' (Old w') u (subL t p)) (hb : Below w.heap.size w w') => find_Of a b c u g (subL t p) sb w' (HG.old hb) hs hsb (by have := subL_len ht hp; have := tree_node ht hp; omega) hN)
  have HSI := hidden (fun (h : smallB g = true) => (small_is h hz).1)
  have HFA := hidden (fun (ht : Tree t) (ha : checkF g sa = 0) (hb : checkF g sb = 0) (hl : sa.size + sb.size ≤ 200) => find_app (g := g) ht ha hb hl)
  obtain ⟨⟨A1, k1, rfl, v1, m1⟩, ⟨A2, k2, rfl, v2, m2⟩, ⟨A3, k3, rfl, v3, m3⟩⟩ := HG.vals
  obtain ⟨A, cc, rfl, hc1, hc2⟩ := HN.value
  unfold maxLen at m1 m2 m3 hsa hsb hc2
  unfold gramCells at *
  have hb1 : Below w.heap.size w (w.alloc (.cells #[.slice A1 g.toks.length k1, .slice A2 g.rules.length k2, .slice A3 g.prods.length k3, .int .i64 g.start, .int .i64 g.states, .int .i64 g.text, .int .i64 g.nodes, .int .i64 g.pairs] 26)) := (Below.refl _ _).alloc (Nat.le_refl _) _
  have HB1 : Hid (Holds (w.alloc (.cells #[.slice A1 g.toks.length k1, .slice A2 g.rules.length k2, .slice A3 g.prods.length k3, .int .i64 g.start, .int .i64 g.states, .int .i64 g.text, .int .i64 g.nodes, .int .i64 g.pairs] 26)) w.heap.size 26 #[.slice A1 g.toks.length k1, .slice A2 g.rules.length k2, .slice A3 g.prods.length k3, .int .i64 g.start, .int .i64 g.states, .int .i64 g.text, .int .i64 g.nodes, .int .i64 g.pairs]) := hidden (Holds.new w _ _)
  have hca := hidden (fun (h : checkF g sa = 0) => (checkF_ok h).2.1)
  have hcb := hidden (fun (h : checkF g sb = 0) => (checkF_ok h).2.1)
  obtain ⟨sm, hsm0⟩ : ∃ sm, IntKind.i64.wrap ((sa.size : Int) + (sb.size : Int)) = sm := ⟨_, rfl⟩
  have hwr := hidden (fun (h1 : sa.size ≤ 256) (h2 : sb.size ≤ 256) => (show sm = (sa.size : Int) + (sb.size : Int) from by rw [← hsm0]; simp [IntKind.wrap, IntKind.bits, IntKind.signed]; omega))
  clear HG HN
  cases hs1 : smallB g
  · rw [hs1] at HSm
    go_enter Try.func3, Try.ntmps3
    go_upto_region 1 with fail
    generalize (w.alloc (.cells #[.slice A1 g.toks.length k1, .slice A2 g.rules.length k2, .slice A3 g.prods.length k3, .int .i64 g.start, .int .i64 g.states, .int .i64 g.text, .int .i64 g.nodes, .int .i64 g.pairs] 26)) = w1 at *
    have x0 := HB1.out.cell 0; have x1 := HB1.out.cell 1; have x2 := HB1.out.cell 2; have x3 := HB1.out.cell 3; have x4 := HB1.out.cell 4; have x5 := HB1.out.cell 5; have x6 := HB1.out.cell 6; have x7 := HB1.out.cell 7
    have HX := hidden (HSm.out _ hb1)
    go_wp2_with fail
    refine HX.out.mono ?_
    rintro r w2 ⟨rfl, hbn⟩
    replace HB1 := hidden (HB1.out.below hbn HB1.out.lt)
    replace hb1 := hb1.trans (hbn.mono hb1.size)
    clear x0 x1 x2 x3 x4 x5 x6 x7 hbn HX
    have x0 := HB1.out.cell 0; have x1 := HB1.out.cell 1; have x2 := HB1.out.cell 2; have x3 := HB1.out.cell 3; have x4 := HB1.out.cell 4; have x5 := HB1.out.cell 5; have x6 := HB1.out.cell 6; have x7 := HB1.out.cell 7
    have HX := hidden (HKn.out w2)
    go_wp2_with fail
    refine HX.out.mono ?_
    rintro r w3 ⟨rfl, hbn⟩
    replace HB1 := hidden (HB1.out.below hbn HB1.out.lt)
    replace hb1 := hb1.trans (hbn.mono hb1.size)
    clear x0 x1 x2 x3 x4 x5 x6 x7 hbn HX
    go_wp2
    go_ret
    exact ⟨rfl, hb1⟩
  · rw [hs1] at HSm
    have hsm := HSI.out hs1
    cases hs2 : fewB t
    · rw [hs2] at HFw
      go_enter Try.func3, Try.ntmps3
      go_upto_region 1 with fail
      generalize (w.alloc (.cells #[.slice A1 g.toks.length k1, .slice A2 g.rules.length k2, .slice A3 g.prods.length k3, .int .i64 g.start, .int .i64 g.states, .int .i64 g.text, .int .i64 g.nodes, .int .i64 g.pairs] 26)) = w1 at *
      have x0 := HB1.out.cell 0; have x1 := HB1.out.cell 1; have x2 := HB1.out.cell 2; have x3 := HB1.out.cell 3; have x4 := HB1.out.cell 4; have x5 := HB1.out.cell 5; have x6 := HB1.out.cell 6; have x7 := HB1.out.cell 7
      have HX := hidden (HSm.out _ hb1)
      go_wp2_with fail
      refine HX.out.mono ?_
      rintro r w2 ⟨rfl, hbn⟩
      replace HB1 := hidden (HB1.out.below hbn HB1.out.lt)
      replace hb1 := hb1.trans (hbn.mono hb1.size)
      clear x0 x1 x2 x3 x4 x5 x6 x7 hbn HX
      have x0 := HB1.out.cell 0; have x1 := HB1.out.cell 1; have x2 := HB1.out.cell 2; have x3 := HB1.out.cell 3; have x4 := HB1.out.cell 4; have x5 := HB1.out.cell 5; have x6 := HB1.out.cell 6; have x7 := HB1.out.cell 7
      have HX := hidden (HFw.out _ hb1)
      go_wp2_with fail
      refine HX.out.mono ?_
      rintro r w3 ⟨rfl, hbn⟩
      replace HB1 := hidden (HB1.out.below hbn HB1.out.lt)
      replace hb1 := hb1.trans (hbn.mono hb1.size)
      clear x0 x1 x2 x3 x4 x5 x6 x7 hbn HX
      have x0 := HB1.out.cell 0; have x1 := HB1.out.cell 1; have x2 := HB1.out.cell 2; have x3 := HB1.out.cell 3; have x4 := HB1.out.cell 4; have x5 := HB1.out.cell 5; have x6 := HB1.out.cell 6; have x7 := HB1.out.cell 7
      have HX := hidden (HKn.out w3)
      go_wp2_with fail
      refine HX.out.mono ?_
      rintro r w4 ⟨rfl, hbn⟩
      replace HB1 := hidden (HB1.out.below hbn HB1.out.lt)
      replace hb1 := hb1.trans (hbn.mono hb1.size)
      clear x0 x1 x2 x3 x4 x5 x6 x7 hbn HX
      go_wp2
      go_ret
      exact ⟨rfl, hb1⟩
    · rw [hs2] at HFw
      by_cases hs3 : 60 < t.length
      · have q3 : decide ((60 : Int) < (t.length : Int)) = true := decide_eq_true (by omega)
        go_enter Try.func3, Try.ntmps3
        go_upto_region 1 with fail
        generalize (w.alloc (.cells #[.slice A1 g.toks.length k1, .slice A2 g.rules.length k2, .slice A3 g.prods.length k3, .int .i64 g.start, .int .i64 g.states, .int .i64 g.text, .int .i64 g.nodes, .int .i64 g.pairs] 26)) = w1 at *
        have x0 := HB1.out.cell 0; have x1 := HB1.out.cell 1; have x2 := HB1.out.cell 2; have x3 := HB1.out.cell 3; have x4 := HB1.out.cell 4; have x5 := HB1.out.cell 5; have x6 := HB1.out.cell 6; have x7 := HB1.out.cell 7
        have HX := hidden (HSm.out _ hb1)
        go_wp2_with fail
        refine HX.out.mono ?_
        rintro r w2 ⟨rfl, hbn⟩
        replace HB1 := hidden (HB1.out.below hbn HB1.out.lt)
        replace hb1 := hb1.trans (hbn.mono hb1.size)
        clear x0 x1 x2 x3 x4 x5 x6 x7 hbn HX
        have x0 := HB1.out.cell 0; have x1 := HB1.out.cell 1; have x2 := HB1.out.cell 2; have x3 := HB1.out.cell 3; have x4 := HB1.out.cell 4; have x5 := HB1.out.cell 5; have x6 := HB1.out.cell 6; have x7 := HB1.out.cell 7
        have HX := hidden (HFw.out _ hb1)
        go_wp2_with fail
        refine HX.out.mono ?_
        rintro r w3 ⟨rfl, hbn⟩
        replace HB1 := hidden (HB1.out.below hbn HB1.out.lt)
        replace hb1 := hb1.trans (hbn.mono hb1.size)
        clear x0 x1 x2 x3 x4 x5 x6 x7 hbn HX
        have x0 := HB1.out.cell 0; have x1 := HB1.out.cell 1; have x2 := HB1.out.cell 2; have x3 := HB1.out.cell 3; have x4 := HB1.out.cell 4; have x5 := HB1.out.cell 5; have x6 := HB1.out.cell 6; have x7 := HB1.out.cell 7
        have HX := hidden (HKn.out w3)
        go_wp2_with fail
        refine HX.out.mono ?_
        rintro r w4 ⟨rfl, hbn⟩
        replace HB1 := hidden (HB1.out.below hbn HB1.out.lt)
        replace hb1 := hb1.trans (hbn.mono hb1.size)
        clear x0 x1 x2 x3 x4 x5 x6 x7 hbn HX
        go_wp2
        go_ret
        exact ⟨rfl, hb1⟩
      · have q3 : decide ((60 : Int) < (t.length : Int)) = false := decide_eq_false (by omega)
        by_cases hs4 : 200 < sm
        · have q4 : decide (200 < sm) = true := decide_eq_true hs4
          go_enter Try.func3, Try.ntmps3
          go_upto_region 1 with fail
          generalize (w.alloc (.cells #[.slice A1 g.toks.length k1, .slice A2 g.rules.length k2, .slice A3 g.prods.length k3, .int .i64 g.start, .int .i64 g.states, .int .i64 g.text, .int .i64 g.nodes, .int .i64 g.pairs] 26)) = w1 at *
          have x0 := HB1.out.cell 0; have x1 := HB1.out.cell 1; have x2 := HB1.out.cell 2; have x3 := HB1.out.cell 3; have x4 := HB1.out.cell 4; have x5 := HB1.out.cell 5; have x6 := HB1.out.cell 6; have x7 := HB1.out.cell 7
          have HX := hidden (HSm.out _ hb1)
          go_wp2_with fail
          refine HX.out.mono ?_
          rintro r w2 ⟨rfl, hbn⟩
          replace HB1 := hidden (HB1.out.below hbn HB1.out.lt)
          replace hb1 := hb1.trans (hbn.mono hb1.size)
          clear x0 x1 x2 x3 x4 x5 x6 x7 hbn HX
          have x0 := HB1.out.cell 0; have x1 := HB1.out.cell 1; have x2 := HB1.out.cell 2; have x3 := HB1.out.cell 3; have x4 := HB1.out.cell 4; have x5 := HB1.out.cell 5; have x6 := HB1.out.cell 6; have x7 := HB1.out.cell 7
          have HX := hidden (HFw.out _ hb1)
          go_wp2_with fail
          refine HX.out.mono ?_
          rintro r w3 ⟨rfl, hbn⟩
          replace HB1 := hidden (HB1.out.below hbn HB1.out.lt)
          replace hb1 := hb1.trans (hbn.mono hb1.size)
          clear x0 x1 x2 x3 x4 x5 x6 x7 hbn HX
          have x0 := HB1.out.cell 0; have x1 := HB1.out.cell 1; have x2 := HB1.out.cell 2; have x3 := HB1.out.cell 3; have x4 := HB1.out.cell 4; have x5 := HB1.out.cell 5; have x6 := HB1.out.cell 6; have x7 := HB1.out.cell 7
          have HX := hidden (HKn.out w3)
          go_wp2_with fail
          refine HX.out.mono ?_
          rintro r w4 ⟨rfl, hbn⟩
          replace HB1 := hidden (HB1.out.below hbn HB1.out.lt)
          replace hb1 := hb1.trans (hbn.mono hb1.size)
          clear x0 x1 x2 x3 x4 x5 x6 x7 hbn HX
          go_wp2
          go_ret
          exact ⟨rfl, hb1⟩
        · have q4 : decide (200 < sm) = false := decide_eq_false hs4
          cases hs5 : treeB t
          · rw [hs5] at HRt
            go_enter Try.func3, Try.ntmps3
            go_upto_region 1 with fail
            generalize (w.alloc (.cells #[.slice A1 g.toks.length k1, .slice A2 g.rules.length k2, .slice A3 g.prods.length k3, .int .i64 g.start, .int .i64 g.states, .int .i64 g.text, .int .i64 g.nodes, .int .i64 g.pairs] 26)) = w1 at *
            have x0 := HB1.out.cell 0; have x1 := HB1.out.cell 1; have x2 := HB1.out.cell 2; have x3 := HB1.out.cell 3; have x4 := HB1.out.cell 4; have x5 := HB1.out.cell 5; have x6 := HB1.out.cell 6; have x7 := HB1.out.cell 7
            have HX := hidden (HSm.out _ hb1)
            go_wp2_with fail
            refine HX.out.mono ?_
            rintro r w2 ⟨rfl, hbn⟩
            replace HB1 := hidden (HB1.out.below hbn HB1.out.lt)
            replace hb1 := hb1.trans (hbn.mono hb1.size)
            clear x0 x1 x2 x3 x4 x5 x6 x7 hbn HX
            have x0 := HB1.out.cell 0; have x1 := HB1.out.cell 1; have x2 := HB1.out.cell 2; have x3 := HB1.out.cell 3; have x4 := HB1.out.cell 4; have x5 := HB1.out.cell 5; have x6 := HB1.out.cell 6; have x7 := HB1.out.cell 7
            have HX := hidden (HFw.out _ hb1)
            go_wp2_with fail
            refine HX.out.mono ?_
            rintro r w3 ⟨rfl, hbn⟩
            replace HB1 := hidden (HB1.out.below hbn HB1.out.lt)
            replace hb1 := hb1.trans (hbn.mono hb1.size)
            clear x0 x1 x2 x3 x4 x5 x6 x7 hbn HX
            have x0 := HB1.out.cell 0; have x1 := HB1.out.cell 1; have x2 := HB1.out.cell 2; have x3 := HB1.out.cell 3; have x4 := HB1.out.cell 4; have x5 := HB1.out.cell 5; have x6 := HB1.out.cell 6; have x7 := HB1.out.cell 7
            have HX := hidden (HRt.out (by omega) _ hb1)
            go_wp2_with fail
            refine HX.out.mono ?_
            rintro r w4 ⟨rfl, hbn⟩
            replace HB1 := hidden (HB1.out.below hbn HB1.out.lt)
            replace hb1 := hb1.trans (hbn.mono hb1.size)
            clear x0 x1 x2 x3 x4 x5 x6 x7 hbn HX
            have x0 := HB1.out.cell 0; have x1 := HB1.out.cell 1; have x2 := HB1.out.cell 2; have x3 := HB1.out.cell 3; have x4 := HB1.out.cell 4; have x5 := HB1.out.cell 5; have x6 := HB1.out.cell 6; have x7 := HB1.out.cell 7
            have HX := hidden (HKn.out w4)
            go_wp2_with fail
            refine HX.out.mono ?_
            rintro r w5 ⟨rfl, hbn⟩
            replace HB1 := hidden (HB1.out.below hbn HB1.out.lt)
            replace hb1 := hb1.trans (hbn.mono hb1.size)
            clear x0 x1 x2 x3 x4 x5 x6 x7 hbn HX
            go_wp2
            go_ret
            exact ⟨rfl, hb1⟩
          · rw [hs5] at HRt
            by_cases hs6 : checkF g sa = 0
            case neg =>
              have q6 : (checkF g sa != 0) = true := by simpa using hs6
              generalize checkF g sa = ca at *
              go_enter Try.func3, Try.ntmps3
              go_upto_region 1 with fail
              generalize (w.alloc (.cells #[.slice A1 g.toks.length k1, .slice A2 g.rules.length k2, .slice A3 g.prods.length k3, .int .i64 g.start, .int .i64 g.states, .int .i64 g.text, .int .i64 g.nodes, .int .i64 g.pairs] 26)) = w1 at *
              have x0 := HB1.out.cell 0; have x1 := HB1.out.cell 1; have x2 := HB1.out.cell 2; have x3 := HB1.out.cell 3; have x4 := HB1.out.cell 4; have x5 := HB1.out.cell 5; have x6 := HB1.out.cell 6; have x7 := HB1.out.cell 7
              have HX := hidden (HSm.out _ hb1)
              go_wp2_with fail
              refine HX.out.mono ?_
              rintro r w2 ⟨rfl, hbn⟩
              replace HB1 := hidden (HB1.out.below hbn HB1.out.lt)
              replace hb1 := hb1.trans (hbn.mono hb1.size)
              clear x0 x1 x2 x3 x4 x5 x6 x7 hbn HX
              have x0 := HB1.out.cell 0; have x1 := HB1.out.cell 1; have x2 := HB1.out.cell 2; have x3 := HB1.out.cell 3; have x4 := HB1.out.cell 4; have x5 := HB1.out.cell 5; have x6 := HB1.out.cell 6; have x7 := HB1.out.cell 7
              have HX := hidden (HFw.out _ hb1)
              go_wp2_with fail
              refine HX.out.mono ?_
              rintro r w3 ⟨rfl, hbn⟩
              replace HB1 := hidden (HB1.out.below hbn HB1.out.lt)
              replace hb1 := hb1.trans (hbn.mono hb1.size)
              clear x0 x1 x2 x3 x4 x5 x6 x7 hbn HX
              have x0 := HB1.out.cell 0; have x1 := HB1.out.cell 1; have x2 := HB1.out.cell 2; have x3 := HB1.out.cell 3; have x4 := HB1.out.cell 4; have x5 := HB1.out.cell 5; have x6 := HB1.out.cell 6; have x7 := HB1.out.cell 7
              have HX := hidden (HRt.out (by omega) _ hb1)
              go_wp2_with fail
              refine HX.out.mono ?_
              rintro r w4 ⟨rfl, hbn⟩
              replace HB1 := hidden (HB1.out.below hbn HB1.out.lt)
              replace hb1 := hb1.trans (hbn.mono hb1.size)
              clear x0 x1 x2 x3 x4 x5 x6 x7 hbn HX
              have x0 := HB1.out.cell 0; have x1 := HB1.out.cell 1; have x2 := HB1.out.cell 2; have x3 := HB1.out.cell 3; have x4 := HB1.out.cell 4; have x5 := HB1.out.cell 5; have x6 := HB1.out.cell 6; have x7 := HB1.out.cell 7
              have HX := hidden (HCa.out hsm _ hb1)
              go_wp2_with fail
              refine HX.out.mono ?_
              rintro r w5 ⟨rfl, hbn⟩
              replace HB1 := hidden (HB1.out.below hbn HB1.out.lt)
              replace hb1 := hb1.trans (hbn.mono hb1.size)
              clear x0 x1 x2 x3 x4 x5 x6 x7 hbn HX
              have x0 := HB1.out.cell 0; have x1 := HB1.out.cell 1; have x2 := HB1.out.cell 2; have x3 := HB1.out.cell 3; have x4 := HB1.out.cell 4; have x5 := HB1.out.cell 5; have x6 := HB1.out.cell 6; have x7 := HB1.out.cell 7
              have HX := hidden (HKn.out w5)
              go_wp2_with fail
              refine HX.out.mono ?_
              rintro r w6 ⟨rfl, hbn⟩
              replace HB1 := hidden (HB1.out.below hbn HB1.out.lt)
              replace hb1 := hb1.trans (hbn.mono hb1.size)
              clear x0 x1 x2 x3 x4 x5 x6 x7 hbn HX
              go_wp2
              go_ret
              exact ⟨rfl, hb1⟩
            case pos =>
            have hca2 := hca.out hs6
            rw [hs6] at HCa
            by_cases hs7 : checkF g sb = 0
            case neg =>
              have q7 : (checkF g sb != 0) = true := by simpa using hs7
              generalize checkF g sb = cb at *
              go_enter Try.func3, Try.ntmps3
              go_upto_region 1 with fail
              generalize (w.alloc (.cells #[.slice A1 g.toks.length k1, .slice A2 g.rules.length k2, .slice A3 g.prods.length k3, .int .i64 g.start, .int .i64 g.states, .int .i64 g.text, .int .i64 g.nodes, .int .i64 g.pairs] 26)) = w1 at *
              have x0 := HB1.out.cell 0; have x1 := HB1.out.cell 1; have x2 := HB1.out.cell 2; have x3 := HB1.out.cell 3; have x4 := HB1.out.cell 4; have x5 := HB1.out.cell 5; have x6 := HB1.out.cell 6; have x7 := HB1.out.cell 7
              have HX := hidden (HSm.out _ hb1)
              go_wp2_with fail
              refine HX.out.mono ?_
              rintro r w2 ⟨rfl, hbn⟩
              replace HB1 := hidden (HB1.out.below hbn HB1.out.lt)
              replace hb1 := hb1.trans (hbn.mono hb1.size)
              clear x0 x1 x2 x3 x4 x5 x6 x7 hbn HX
              have x0 := HB1.out.cell 0; have x1 := HB1.out.cell 1; have x2 := HB1.out.cell 2; have x3 := HB1.out.cell 3; have x4 := HB1.out.cell 4; have x5 := HB1.out.cell 5; have x6 := HB1.out.cell 6; have x7 := HB1.out.cell 7
              have HX := hidden (HFw.out _ hb1)
              go_wp2_with fail
              refine HX.out.mono ?_
              rintro r w3 ⟨rfl, hbn⟩
              replace HB1 := hidden (HB1.out.below hbn HB1.out.lt)
              replace hb1 := hb1.trans (hbn.mono hb1.size)
              clear x0 x1 x2 x3 x4 x5 x6 x7 hbn HX
              have x0 := HB1.out.cell 0; have x1 := HB1.out.cell 1; have x2 := HB1.out.cell 2; have x3 := HB1.out.cell 3; have x4 := HB1.out.cell 4; have x5 := HB1.out.cell 5; have x6 := HB1.out.cell 6; have x7 := HB1.out.cell 7
              have HX := hidden (HRt.out (by omega) _ hb1)
              go_wp2_with fail
              refine HX.out.mono ?_
              rintro r w4 ⟨rfl, hbn⟩
              replace HB1 := hidden (HB1.out.below hbn HB1.out.lt)
              replace hb1 := hb1.trans (hbn.mono hb1.size)
              clear x0 x1 x2 x3 x4 x5 x6 x7 hbn HX
              have x0 := HB1.out.cell 0; have x1 := HB1.out.cell 1; have x2 := HB1.out.cell 2; have x3 := HB1.out.cell 3; have x4 := HB1.out.cell 4; have x5 := HB1.out.cell 5; have x6 := HB1.out.cell 6; have x7 := HB1.out.cell 7
              have HX := hidden (HCa.out hsm _ hb1)
              go_wp2_with fail
              refine HX.out.mono ?_
              rintro r w5 ⟨rfl, hbn⟩
              replace HB1 := hidden (HB1.out.below hbn HB1.out.lt)
              replace hb1 := hb1.trans (hbn.mono hb1.size)
              clear x0 x1 x2 x3 x4 x5 x6 x7 hbn HX
              have x0 := HB1.out.cell 0; have x1 := HB1.out.cell 1; have x2 := HB1.out.cell 2; have x3 := HB1.out.cell 3; have x4 := HB1.out.cell 4; have x5 := HB1.out.cell 5; have x6 := HB1.out.cell 6; have x7 := HB1.out.cell 7
              have HX := hidden (HCb.out hsm _ hb1)
              go_wp2_with fail
              refine HX.out.mono ?_
              rintro r w6 ⟨rfl, hbn⟩
              replace HB1 := hidden (HB1.out.below hbn HB1.out.lt)
              replace hb1 := hb1.trans (hbn.mono hb1.size)
              clear x0 x1 x2 x3 x4 x5 x6 x7 hbn HX
              have x0 := HB1.out.cell 0; have x1 := HB1.out.cell 1; have x2 := HB1.out.cell 2; have x3 := HB1.out.cell 3; have x4 := HB1.out.cell 4; have x5 := HB1.out.cell 5; have x6 := HB1.out.cell 6; have x7 := HB1.out.cell 7
              have HX := hidden (HKn.out w6)
              go_wp2_with fail
              refine HX.out.mono ?_
              rintro r w7 ⟨rfl, hbn⟩
              replace HB1 := hidden (HB1.out.below hbn HB1.out.lt)
              replace hb1 := hb1.trans (hbn.mono hb1.size)
              clear x0 x1 x2 x3 x4 x5 x6 x7 hbn HX
              go_wp2
              go_ret
              exact ⟨rfl, hb1⟩
            case pos =>
            have hcb2 := hcb.out hs7
            rw [hs7] at HCb
            have hsum := hwr.out hca2 hcb2
            have ht := treeB_iff.1 hs5
            obtain ⟨E1, E2, E3, E4⟩ := HFA.out ht hs6 hs7 (by omega)
            have HOa2 := hidden (HOa.out hsm (by omega))
            have hszab : (sa ++ sb).size = sa.size + sb.size := by simp
            have HOab2 := hidden (HOab.out hsm (by omega) (by rw [hszab]; unfold maxLen; omega))
            clear hszab
            have HSb2 := hidden (HSb.out ht (by omega))
            have HOb2 := hidden (fun u p hp w' hN hb => (HOb.out hsm (by omega) u p hp ht w' hN hb))
            rw [E1] at HOa2
            rw [E2] at HOab2
            have hrl := hidden (ofRow_lt (g := g) (t := t) (s := sa))
            have hrz := ofRow_len (g := g) (t := t) (s := sa)
            have hsz := hidden (fun p (hp : p < t.length) => (show ofErr g (subL t p) sb = 0 ∧ (ofRow g (subL t p) sb).length ≤ 60 ∧ (∀ y ∈ ofRow g (subL t p) sb, y < 60) from ⟨E3 p hp, by
              have h1 := ofRow_len (g := g) (t := subL t p) (s := sb)
              rw [subL_len ht hp] at h1
              have := tree_node ht hp
              omega, fun y hy => by
              have h1 := ofRow_lt y hy
              rw [subL_len ht hp] at h1
              have := tree_node ht hp
              omega⟩))
            have HE4 := hidden E4
            clear HSI HFA hca hcb hwr E1 E2 E3 E4 HOa HOab HSb HOb hz
            go_enter Try.func3, Try.ntmps3
            go_upto_region 1 with fail
            generalize (w.alloc (.cells #[.slice A1 g.toks.length k1, .slice A2 g.rules.length k2, .slice A3 g.prods.length k3, .int .i64 g.start, .int .i64 g.states, .int .i64 g.text, .int .i64 g.nodes, .int .i64 g.pairs] 26)) = w1 at *
            have x0 := HB1.out.cell 0; have x1 := HB1.out.cell 1; have x2 := HB1.out.cell 2; have x3 := HB1.out.cell 3; have x4 := HB1.out.cell 4; have x5 := HB1.out.cell 5; have x6 := HB1.out.cell 6; have x7 := HB1.out.cell 7
            have HX := hidden (HSm.out _ hb1)
            go_wp2_with fail
            refine HX.out.mono ?_
            rintro r w2 ⟨rfl, hbn⟩
            replace HB1 := hidden (HB1.out.below hbn HB1.out.lt)
            replace hb1 := hb1.trans (hbn.mono hb1.size)
            clear x0 x1 x2 x3 x4 x5 x6 x7 hbn HX
            have x0 := HB1.out.cell 0; have x1 := HB1.out.cell 1; have x2 := HB1.out.cell 2; have x3 := HB1.out.cell 3; have x4 := HB1.out.cell 4; have x5 := HB1.out.cell 5; have x6 := HB1.out.cell 6; have x7 := HB1.out.cell 7
            have HX := hidden (HFw.out _ hb1)
            go_wp2_with fail
            refine HX.out.mono ?_
            rintro r w3 ⟨rfl, hbn⟩
            replace HB1 := hidden (HB1.out.below hbn HB1.out.lt)
            replace hb1 := hb1.trans (hbn.mono hb1.size)
            clear x0 x1 x2 x3 x4 x5 x6 x7 hbn HX
            have x0 := HB1.out.cell 0; have x1 := HB1.out.cell 1; have x2 := HB1.out.cell 2; have x3 := HB1.out.cell 3; have x4 := HB1.out.cell 4; have x5 := HB1.out.cell 5; have x6 := HB1.out.cell 6; have x7 := HB1.out.cell 7
            have HX := hidden (HRt.out (by omega) _ hb1)
            go_wp2_with fail
            refine HX.out.mono ?_
            rintro r w4 ⟨rfl, hbn⟩
            replace HB1 := hidden (HB1.out.below hbn HB1.out.lt)
            replace hb1 := hb1.trans (hbn.mono hb1.size)
            clear x0 x1 x2 x3 x4 x5 x6 x7 hbn HX
            have x0 := HB1.out.cell 0; have x1 := HB1.out.cell 1; have x2 := HB1.out.cell 2; have x3 := HB1.out.cell 3; have x4 := HB1.out.cell 4; have x5 := HB1.out.cell 5; have x6 := HB1.out.cell 6; have x7 := HB1.out.cell 7
            have HX := hidden (HCa.out hsm _ hb1)
            go_wp2_with fail
            refine HX.out.mono ?_
            rintro r w5 ⟨rfl, hbn⟩
            replace HB1 := hidden (HB1.out.below hbn HB1.out.lt)
            replace hb1 := hb1.trans (hbn.mono hb1.size)
            clear x0 x1 x2 x3 x4 x5 x6 x7 hbn HX
            have x0 := HB1.out.cell 0; have x1 := HB1.out.cell 1; have x2 := HB1.out.cell 2; have x3 := HB1.out.cell 3; have x4 := HB1.out.cell 4; have x5 := HB1.out.cell 5; have x6 := HB1.out.cell 6; have x7 := HB1.out.cell 7
            have HX := hidden (HCb.out hsm _ hb1)
            go_wp2_with fail
            refine HX.out.mono ?_
            rintro r w6 ⟨rfl, hbn⟩
            replace HB1 := hidden (HB1.out.below hbn HB1.out.lt)
            replace hb1 := hb1.trans (hbn.mono hb1.size)
            clear x0 x1 x2 x3 x4 x5 x6 x7 hbn HX
            have x0 := HB1.out.cell 0; have x1 := HB1.out.cell 1; have x2 := HB1.out.cell 2; have x3 := HB1.out.cell 3; have x4 := HB1.out.cell 4; have x5 := HB1.out.cell 5; have x6 := HB1.out.cell 6; have x7 := HB1.out.cell 7
            have HX := hidden (HOa2.out _ hb1)
            go_wp2_with fail
            refine HX.out.mono ?_
            rintro r w7 ⟨⟨ua, rfl, HMa⟩, hbn⟩
            replace HB1 := hidden (HB1.out.below hbn HB1.out.lt)
            replace hb1 := hb1.trans (hbn.mono hb1.size)
            clear x0 x1 x2 x3 x4 x5 x6 x7 hbn HX
            have HRa := hidden (ints_rd HMa.out)
            obtain ⟨A4, c4, rfl⟩ := HMa.out.value
            clear HMa HOa2 HSm HFw HRt HCa HCb
            generalize ofRow g t sa = ra at *
            have HRL : Hid (Rd (w7.alloc (.cells #[] 3)) (Old w7) 1 (.slice A4 ra.length c4) ra.length (ints ra)) := hidden (HRa.out.alloc _)
            have hBL : Below w7.heap.size w7 (w7.alloc (.cells #[] 3)) := (Below.refl _ _).alloc (Nat.le_refl _) _
            have hra : ra.length ≤ 60 := by omega
            have HE5 := hidden HE4.out
            go_wp2
            generalize hacc : (fun p => (ofRow g (subL t p) sb).map (p + ·)) = acf at *
            have HAc := hidden (show ∀ p, acf p = (ofRow g (subL t p) sb).map (p + ·) from fun p => by rw [← hacc])
            clear hacc hsum hs4 q4 hsm0
            go_loopw [11, 12] (fun o kk wr => ∃ i : Nat, kk = .int .i64 i ∧ i ≤ ra.length ∧ Hid (Mine wr w7.heap.size 3 1 o ((ra.take i).flatMap acf).length (ints ((ra.take i).flatMap acf))) ∧ Hid (Below w7.heap.size w7 wr) ∧ Hid (∀ q, o.ownBlock = some q → q < wr.heap.size) ∧ ((ra.take i).flatMap acf).length ≤ 60 * i) (fun o kk wr => ra.length - (intOf kk).toNat)
            case atStart => exact ⟨0, by go_num, Nat.zero_le _, hidden (.inr ⟨rfl, rfl, _, rfl⟩), hidden hBL, hidden (by intro q hq; simp [Value.ownBlock] at hq; subst hq; simp), by simp⟩
            case round =>
              obtain ⟨i, rfl, hi, HM, HB, HQ, hlen⟩ := hrel
              obtain ⟨A8, c8, e8⟩ := HM.out.value
              have hbr := HB.out.size
              by_cases hlt : i < ra.length
              · have hp := List.getElem?_eq_getElem hlt
                have hpl := hrl.out _ (List.getElem_mem hlt)
                generalize ra[i] = p at *
                have hti := hidden (show (ra.take (i + 1)).flatMap acf = (ra.take i).flatMap acf ++ (ofRow g (subL t p) sb).map (p + ·) from by rw [List.take_add_one, hp, List.flatMap_append, ← HAc.out]; simp)
                obtain ⟨_, A5, c5, hv5, _, _, hop⟩ := HRa.out
                obtain ⟨b4, o4, hA4, hT4, hc4⟩ := hop (by unfold ints; rw [List.length_map]; omega)
                subst hA4
                cases hv5
                have y7 : w7.cell? ⟨b4, o4 + i, none⟩ = some (.int .i64 (p : Int)) := hc4 i (.int .i64 (p : Int)) (by unfold ints; rw [List.getElem?_map, hp]; rfl)
                have y0 := cellF y7 HB.out
                have HY7 := hidden y7
                clear y7
                have qi : (i : Int) < (ra.length : Int) := by omega
                have qp : decide ((p : Int) < 0) = false := decide_eq_false (by omega)
                have qp2 : decide ((t.length : Int) ≤ (p : Int)) = false := decide_eq_false (by omega)
                obtain ⟨hz1, hz2, hz3⟩ := hsz.out p hpl
                have hbw := hb1.trans (HB.out.mono hb1.size)
                have HSb3 := hidden (fun w' hb => HSb2.out p hpl w' (below_more hbw hb))
                have HOb3 := hidden (fun u w' hN hb => HOb2.out u p hpl w' hN (below_more hbw hb))
                rw [hz1] at HOb3
                have HBx := hidden (HB1.out.below HB.out HB1.out.lt)
                have x0 := HBx.out.cell 0; have x1 := HBx.out.cell 1; have x2 := HBx.out.cell 2; have x3 := HBx.out.cell 3; have x4 := HBx.out.cell 4; have x5 := HBx.out.cell 5; have x6 := HBx.out.cell 6; have x7 := HBx.out.cell 7
                generalize (ra.take i).flatMap acf = acc at *
                generalize ofRow g (subL t p) sb = rb at *
                have HY := hidden hz3
                clear hz3
                have HTI := hidden hti.out
                clear hti hop hc4 hp hz1
                subst e8
                have HM8 := hidden HM.out
                go_wp2_with fail
                clear HM HRL HE5 HE4 hsz HOb2 HSb2
                go_region_held3 (fun w' => w'.cell? ⟨b4, o4 + i, none⟩ = some (.int .i64 (p : Int)) ∧ w'.cell? ⟨w.heap.size, 0, none⟩ = some (.slice A1 g.toks.length k1) ∧ w'.cell? ⟨w.heap.size, 1, none⟩ = some (.slice A2 g.rules.length k2) ∧ w'.cell? ⟨w.heap.size, 2, none⟩ = some (.slice A3 g.prods.length k3) ∧ w'.cell? ⟨w.heap.size, 3, none⟩ = some (.int .i64 g.start) ∧ w'.cell? ⟨w.heap.size, 4, none⟩ = some (.int .i64 g.states) ∧ w'.cell? ⟨w.heap.size, 5, none⟩ = some (.int .i64 g.text) ∧ w'.cell? ⟨w.heap.size, 6, none⟩ = some (.int .i64 g.nodes) ∧ w'.cell? ⟨w.heap.size, 7, none⟩ = some (.int .i64 g.pairs) ∧ Below wr.heap.size wr w')
                  (first | exact ⟨y0, x0, x1, x2, x3, x4, x5, x6, x7, Below.drew (Below.refl _ _)⟩ | (go_split_ands; exact ⟨cell_more y0 (by (first | assumption | exact Below.drew (Below.refl _ _) | exact Below.refl _ _)) (by assumption), cell_more x0 (by (first | assumption | exact Below.drew (Below.refl _ _) | exact Below.refl _ _)) (by assumption), cell_more x1 (by (first | assumption | exact Below.drew (Below.refl _ _) | exact Below.refl _ _)) (by assumption), cell_more x2 (by (first | assumption | exact Below.drew (Below.refl _ _) | exact Below.refl _ _)) (by assumption), cell_more x3 (by (first | assumption | exact Below.drew (Below.refl _ _) | exact Below.refl _ _)) (by assumption), cell_more x4 (by (first | assumption | exact Below.drew (Below.refl _ _) | exact Below.refl _ _)) (by assumption), cell_more x5 (by (first | assumption | exact Below.drew (Below.refl _ _) | exact Below.refl _ _)) (by assumption), cell_more x6 (by (first | assumption | exact Below.drew (Below.refl _ _) | exact Below.refl _ _)) (by assumption), cell_more x7 (by (first | assumption | exact Below.drew (Below.refl _ _) | exact Below.refl _ _)) (by assumption), below_more (by (first | assumption | exact Below.drew (Below.refl _ _) | exact Below.refl _ _)) (by assumption)⟩))
                  (first | (go_at_call 11; go_split_ands; refine (HSb3.out _ (by (first | assumption | exact Below.drew (Below.refl _ _) | exact Below.refl _ _))).mono ?_; rintro e w5 ⟨⟨u5, rfl, HN5⟩, hb5⟩; obtain ⟨A5, c5, rfl, hc5, hc5m⟩ := HN5.out.value) | (go_at_call 10; go_split_ands; refine (HOb3.out _ _ HN5.out (below_more (by (first | assumption | exact Below.drew (Below.refl _ _) | exact Below.refl _ _)) hb5)).mono ?_; rintro e w6 ⟨⟨u6, rfl, HM6⟩, hb6⟩; obtain ⟨A6, c6, rfl⟩ := HM6.out.value))
                have hb5' : Below wr.heap.size wr w5 := ⟨hb5.os, hb5.tape, hb5.output, hb5.size, hb5.block⟩
                have hb56 : Below wr.heap.size wr w6 := below_more hb5' hb6
                have hbz5 := hb5'.size
                have HR6 : Hid (Rd w6 (fun k => wr.heap.size ≤ k ∧ k < w6.heap.size) 1 (.slice A6 rb.length c6) rb.length (ints rb)) := hidden (HM6.out.rd (fun g _ h1 h2 => ⟨Nat.le_trans hbz5 h1, h2⟩))
                have HM9 := hidden (HM8.out.below hb56)
                have HB9 := hidden (HB.out.trans (hb56.mono hbr))
                have hz6 := hb56.size
                have HQ9 := hidden HQ.out
                clear x0 x1 x2 x3 x4 x5 x6 x7 y0 HBx HOb3 HSb3 hb5 hb6 HM8 HN5 hb56 hb5' hbz5 HM6 HB HQ
                generalize hrz : wr.heap.size = rz at *
                clear hrz
                go_wp2
                go_loopw [11, 15] (fun o kk wi => ∃ k : Nat, kk = .int .i64 k ∧ k ≤ rb.length ∧ Hid (Mine wi w7.heap.size 3 1 o (acc ++ (rb.take k).map (p + ·)).length (ints (acc ++ (rb.take k).map (p + ·)))) ∧ Hid (Below w7.heap.size w7 wi) ∧ Hid (∀ q, o.ownBlock = some q → (q < rz ∨ w6.heap.size ≤ q) ∧ q < wi.heap.size) ∧ Hid (Rd wi (fun k => rz ≤ k ∧ k < w6.heap.size) 1 (.slice A6 rb.length c6) rb.length (ints rb)) ∧ w6.heap.size ≤ wi.heap.size) (fun o kk wr => rb.length - (intOf kk).toNat)
                case atStart => exact ⟨0, by go_num, Nat.zero_le _, by simpa using HM9, HB9, hidden (fun q hq => ⟨.inl (HQ9.out q hq), by have := HQ9.out q hq; omega⟩), HR6, Nat.le_refl _⟩
                case round =>
                  clear HM9 HB9 HQ9 HR6
                  obtain ⟨k, rfl, hk, HM, HB, HQ, HR, hzw⟩ := hrel
                  obtain ⟨A9, c9, e9⟩ := HM.out.value
                  subst e9
                  have hbi := HB.out.size
                  have y0 := cellF HY7.out HB.out
                  by_cases hkl : k < rb.length
                  · have hy := List.getElem?_eq_getElem hkl
                    have hyl := HY.out _ (List.getElem_mem hkl)
                    generalize rb[k] = y at *
                    have htk := hidden (show acc ++ (rb.take (k + 1)).map (p + ·) = (acc ++ (rb.take k).map (p + ·)) ++ [p + y] from by rw [List.take_add_one, hy, List.map_append, List.append_assoc]; rfl)
                    have hal : (acc ++ (rb.take k).map (p + ·)).length ≤ 1000000000000 := by rw [List.length_append, List.length_map, List.length_take]; omega
                    obtain ⟨_, A5, c5', hv5, _, _, hop⟩ := HR.out
                    obtain ⟨b6, o6, hA6, hT6, hc6⟩ := hop (by unfold ints; rw [List.length_map]; omega)
                    subst hA6
                    cases hv5
                    have z0 : wr.cell? ⟨b6, o6 + k, none⟩ = some (.int .i64 (y : Int)) := hc6 k (.int .i64 (y : Int)) (by unfold ints; rw [List.getElem?_map, hy]; rfl)
                    have qk : (k : Int) < (rb.length : Int) := by omega
                    have hpy := hidden (show (p : Int) + (y : Int) = ((p + y : Nat) : Int) from by omega)
                    generalize acc ++ (rb.take k).map (p + ·) = ak at *
                    obtain ⟨z, hz⟩ : ∃ z : Nat, z = p + y := ⟨_, rfl⟩
                    rw [← hz] at htk
                    have hw9 : IntKind.i64.wrap ((p : Int) + (y : Int)) = (z : Int) := by simp [IntKind.wrap, IntKind.bits, IntKind.signed]; omega
                    clear hz hpy
                    have HO1 : Hid (∀ u ∈ [Value.int .i64 (z : Int)], u.oneCell' = true) := hidden (by intro u hu; simp at hu; subst hu; rfl)
                    have hak : (ak.length + 1) * 8 ≤ 140737488355328 := by omega
                    have hb6o := hidden (show (Value.slice A9 ak.length c9).ownBlock ≠ some b6 from by
                      intro e
                      have := HQ.out _ e
                      obtain ⟨h1, h2⟩ := hT6
                      omega)
                    have HY0 := hidden (fun w9 (hw : Below wr.heap.size wr w9) => cellF y0 hw)
                    have HZ0 := hidden (fun w9 (hw : Below wr.heap.size wr w9) => cellF z0 hw)
                    clear hop hc6 hy y0 z0
                    go_wp2_with fail
                    refine (wpIn_wide (n := 5)).1 ?_
                    refine wpIn_region_take (fun w9 => Below wr.heap.size wr w9) 11 (by kernel_rfl) ?_
                    have hCd : Below wr.heap.size wr wr.drew := (Below.refl _ _).drew
                    refine take_read (i := 0) (v := ?_) (by kernel_rfl) (by rfl) rfl (by rfl) (by kernel_rfl) (by kernel_rfl) (fun _ _ _ h => h) hCd ⟨Or.inl ⟨by rfl, fun w9 hw => ?_⟩, fun _ => rfl⟩ ?_
                    rotate_left
                    · clear hw
                      go_simp
                      try rfl
                    refine take_read (i := 1) (v := ?_) (by kernel_rfl) (by rfl) rfl (by rfl) (by kernel_rfl) (by kernel_rfl) (fun _ _ _ h => h) hCd ⟨Or.inl ⟨by rfl, fun w9 hw => ?_⟩, fun _ => rfl⟩ ?_
                    rotate_left
                    · clear hw
                      go_simp
                      try rfl
                    refine take_read (i := 2) (v := ?_) (by kernel_rfl) (by rfl) rfl (by rfl) (by kernel_rfl) (by kernel_rfl) (fun _ _ _ h => h) hCd ⟨Or.inl ⟨by rfl, fun w9 hw => ?_⟩, fun _ => rfl⟩ ?_
                    rotate_left
                    · clear hw
                      go_simp
                      try rfl
                    refine take_read (i := 3) (v := ?_) (by kernel_rfl) (by rfl) rfl (by rfl) (by kernel_rfl) (by kernel_rfl) (fun _ _ _ h => h) hCd ⟨Or.inl ⟨by rfl, fun w9 hw => ?_⟩, fun _ => rfl⟩ ?_
                    rotate_left
                    · clear hw
                      go_simp
                      try rfl
                    refine take_read (i := 4) (v := ?_) (by kernel_rfl) (by rfl) rfl (by rfl) (by kernel_rfl) (by kernel_rfl) (fun _ _ _ h => h) hCd ⟨Or.inl ⟨by rfl, fun w9 hw => ?_⟩, fun _ => rfl⟩ ?_
                    rotate_left
                    · have q := HY0.out w9 hw
                      go_simp
                      try rfl
                    refine take_read (i := 5) (v := ?_) (by kernel_rfl) (by rfl) rfl (by rfl) (by kernel_rfl) (by kernel_rfl) (fun _ _ _ h => h) hCd ⟨Or.inl ⟨by rfl, fun w9 hw => ?_⟩, fun _ => rfl⟩ ?_
                    rotate_left
                    · clear hw
                      go_simp
                      try rfl
                    refine take_read (i := 6) (v := ?_) (by kernel_rfl) (by rfl) rfl (by rfl) (by kernel_rfl) (by kernel_rfl) (fun _ _ _ h => h) hCd ⟨Or.inl ⟨by rfl, fun w9 hw => ?_⟩, fun _ => rfl⟩ ?_
                    rotate_left
                    · clear hw
                      go_simp
                      try rfl
                    refine take_read (i := 7) (v := ?_) (by kernel_rfl) (by rfl) rfl (by rfl) (by kernel_rfl) (by kernel_rfl) (fun _ _ _ h => h) hCd ⟨Or.inl ⟨by rfl, fun w9 hw => ?_⟩, fun _ => rfl⟩ ?_
                    rotate_left
                    · clear hw
                      go_simp
                      try rfl
                    refine take_read (i := 8) (v := ?_) (by kernel_rfl) (by rfl) rfl (by rfl) (by kernel_rfl) (by kernel_rfl) (fun _ _ _ h => h) hCd ⟨Or.inl ⟨by rfl, fun w9 hw => ?_⟩, fun _ => rfl⟩ ?_
                    rotate_left
                    · have q := HZ0.out w9 hw
                      go_simp
                      try rfl
                    refine take_read (i := 9) (v := ?_) (by kernel_rfl) (by rfl) rfl (by rfl) (by kernel_rfl) (by kernel_rfl) (fun _ _ _ h => h) hCd ⟨Or.inl ⟨by rfl, fun w9 hw => ?_⟩, fun _ => rfl⟩ ?_
                    rotate_left
                    · clear hw
                      go_simp
                      try rfl
                    refine take_only (i := 10) (by kernel_rfl) rfl rfl (by rfl) (fun K hK => ?_)
                    go_simp
                    have hC5 : Below wr.heap.size wr (wr.alloc (.cells #[.int .i64 (z : Int)] 3)).drew := ((Below.refl _ _).alloc (Nat.le_refl _) _).drew
                    refine hK _ _ hC5 ?_
                    clear hK K
                    refine take_tail (by kernel_rfl) (by kernel_rfl) ?_
                    simp only [List.drop_succ_cons, List.drop_zero]
                    have HM9 := hidden (HM.out.below hC5)
                    have HX : Hid (Rd (wr.alloc (.cells #[.int .i64 (z : Int)] 3)).drew (fun _ => True) 1 (.slice (some ⟨wr.heap.size, 0, none⟩) 1 1) 1 [.int .i64 (z : Int)]) := hidden (rd_lit' (T := fun _ => True) (Holds.new wr 3 #[.int .i64 (z : Int)]) trivial rfl rfl (by decide))
                    have hbd : w7.heap.size ≤ (wr.alloc (.cells #[.int .i64 (z : Int)] 3)).drew.heap.size := Nat.le_trans hbi hC5.size
                    have HC5 := hidden hC5
                    clear hC5 hCd HY0 HZ0
                    refine wpListIn_append_all rfl _ _ 33 3 rfl (by kernel_rfl) int_info rfl (by decide) w7.heap.size _ _ _ HM9 _ _ _ HX HO1 rfl rfl hak (by decide) hbd ?_
                    intro v9 w9 hA
                    have hA' := hidden hA.out
                    have HM5 : Hid (Mine w9 w7.heap.size 3 1 v9 (acc ++ (rb.take (k + 1)).map (p + ·)).length (ints (acc ++ (rb.take (k + 1)).map (p + ·)))) := hidden (by
                      rw [htk.out, List.length_append, ints_snoc]; exact hA'.out.mine)
                    have HB5 : Hid (Below w7.heap.size w7 w9) := hidden ((HB.out.trans (HC5.out.mono hbi)).trans hA'.out.below)
                    have hz9 : wr.heap.size ≤ w9.heap.size := Nat.le_trans HC5.out.size hA'.out.keeps.size
                    have HQ5 : Hid (∀ q, v9.ownBlock = some q → (q < rz ∨ w6.heap.size ≤ q) ∧ q < w9.heap.size) := hidden (fun q hq => by
                      rcases hA'.out.at_ with h | ⟨g2, h, h1, h2⟩
                      · obtain ⟨h3, h4⟩ := HQ.out q (by rw [← h]; exact hq)
                        exact ⟨h3, by omega⟩
                      · rw [h] at hq
                        cases hq
                        have := HC5.out.size
                        exact ⟨.inr (by omega), h2⟩)
                    have HR5 : Hid (Rd w9 (fun k => rz ≤ k ∧ k < w6.heap.size) 1 (.slice (some ⟨b6, o6, none⟩) rb.length c6) rb.length (ints rb)) := hidden ((HR.out.keeps (w' := (wr.alloc (.cells #[.int .i64 (z : Int)] 3)).drew) (Keeps.of_below HC5.out)).keeps ⟨hA'.out.keeps.size, fun j hj hl => hA'.out.keeps.block j (fun e => by have := HQ.out _ e; omega) hl⟩)
                    have hz10 : w6.heap.size ≤ w9.heap.size := by omega
                    clear hA hA' HM9 HX HC5 HM HB HQ HR hbd htk
                    gi_wp2
                    go_wp2
                    exact ⟨⟨k + 1, by go_num, by omega, HM5, HB5, HQ5, HR5, hz10⟩, by simp [intOf]; omega⟩
                  · have hke : k = rb.length := by omega
                    subst hke
                    have qk : ¬ ((rb.length : Int) < (rb.length : Int)) := by omega
                    have HM5 : Hid (Mine wr w7.heap.size 3 1 (.slice A9 (acc ++ (rb.take rb.length).map (p + ·)).length c9) ((ra.take (i + 1)).flatMap acf).length (ints ((ra.take (i + 1)).flatMap acf))) := hidden (by
                      rw [HTI.out]
                      have := HM.out
                      rw [List.take_length] at this ⊢
                      exact this)
                    have HQ5 := hidden (fun q hq => (HQ.out q hq).2)
                    have hl5 : ((ra.take (i + 1)).flatMap acf).length ≤ 60 * (i + 1) := by rw [HTI.out, List.length_append, List.length_map]; omega
                    generalize (acc ++ (rb.take rb.length).map (p + ·)).length = n9 at *
                    clear HM HQ HR
                    go_wp2
                    exact ⟨⟨i + 1, by go_num, by omega, HM5, HB, HQ5, hl5⟩, by simp [intOf]; omega⟩
              · have hie : i = ra.length := by omega
                subst hie
                subst e8
                have qi : ¬ ((ra.length : Int) < (ra.length : Int)) := by omega
                have hb9 := hb1.trans (HB.out.mono hb1.size)
                have hHx := HB1.out.below HB.out HB1.out.lt
                clear HB1 hb1
                have HB1 := hidden hHx
                have hb1 := hb9
                clear hb9 hHx
                have HMA : Hid (Ints wr (Old wr) (.slice A8 ((ra.take ra.length).flatMap acf).length c8) (castL (ra.flatMap acf))) := hidden (by
                  have := ints_rd HM.out
                  rw [List.take_length] at this ⊢
                  unfold Ints Row
                  rw [cast_len, ints_cast]
                  exact this)
                have hal : (castL (ra.flatMap acf)).length ≤ 100000 := by rw [cast_len]; rw [List.take_length] at hlen; omega
                have HE9 : Hid (castL (ofRow g t (sa ++ sb)) = setOf (castL (ra.flatMap acf))) := hidden HE5.out
                generalize ((ra.take ra.length).flatMap acf).length = n9 at *
                generalize castL (ra.flatMap acf) = L9 at *
                clear HM HQ hlen
                have HKn9 := HKn
                obtain ⟨w8, rfl⟩ : ∃ w8, w8 = wr := ⟨_, rfl⟩
                have x0 := HB1.out.cell 0; have x1 := HB1.out.cell 1; have x2 := HB1.out.cell 2; have x3 := HB1.out.cell 3; have x4 := HB1.out.cell 4; have x5 := HB1.out.cell 5; have x6 := HB1.out.cell 6; have x7 := HB1.out.cell 7
                have HX := hidden (HOab2.out _ hb1)
                go_wp2_with fail
                refine HX.out.mono ?_
                rintro r w9 ⟨⟨ub, rfl, HMb⟩, hbn⟩
                replace HB1 := hidden (HB1.out.below hbn HB1.out.lt)
                replace HMA := hidden (Rd.old HMA.out hbn)
                replace hb1 := hb1.trans (hbn.mono hb1.size)
                clear x0 x1 x2 x3 x4 x5 x6 x7 hbn HX
                have HB9 : Hid (Ints w9 (Old w9) ub (castL (ofRow g t (sa ++ sb)))) := hidden (by
                  have := ints_rd HMb.out
                  unfold Ints Row
                  rw [cast_len, ints_cast]
                  exact this)
                rw [HE9.out] at HB9
                obtain ⟨Ab, cb, rfl⟩ := HMb.out.value
                generalize (ofRow g t (sa ++ sb)).length = n8 at *
                clear HMb HOab2 HE9
                have x0 := HB1.out.cell 0; have x1 := HB1.out.cell 1; have x2 := HB1.out.cell 2; have x3 := HB1.out.cell 3; have x4 := HB1.out.cell 4; have x5 := HB1.out.cell 5; have x6 := HB1.out.cell 6; have x7 := HB1.out.cell 7
                have HX := hidden (ref11_Of _ L9 w9 HMA.out hal)
                go_wp2_with fail
                refine HX.out.mono ?_
                rintro r w10 ⟨⟨us, rfl, HSs⟩, hbn⟩
                replace HB1 := hidden (HB1.out.below hbn HB1.out.lt)
                replace HB9 := hidden (Rd.old HB9.out hbn)
                replace hb1 := hb1.trans (hbn.mono hb1.size)
                clear x0 x1 x2 x3 x4 x5 x6 x7 hbn HX
                obtain ⟨As, cs, rfl, hcs1, hcs2⟩ := HSs.out.val
                have HSm := hidden (Go.Proofs.Ytdbbjlphlbndkaa.same_ints _ _ (setOf L9) (setOf L9) w10 HB9.out HSs.out)
                rw [show eqB (setOf L9) (setOf L9) = true from by unfold eqB; simp] at HSm
                have x0 := HB1.out.cell 0; have x1 := HB1.out.cell 1; have x2 := HB1.out.cell 2; have x3 := HB1.out.cell 3; have x4 := HB1.out.cell 4; have x5 := HB1.out.cell 5; have x6 := HB1.out.cell 6; have x7 := HB1.out.cell 7
                have HX := hidden (HSm.out)
                go_wp2_with fail
                refine HX.out.mono ?_
                rintro r w11 ⟨rfl, hbn⟩
                replace HB1 := hidden (HB1.out.below hbn HB1.out.lt)
                replace hb1 := hb1.trans (hbn.mono hb1.size)
                clear x0 x1 x2 x3 x4 x5 x6 x7 hbn HX
                have x0 := HB1.out.cell 0; have x1 := HB1.out.cell 1; have x2 := HB1.out.cell 2; have x3 := HB1.out.cell 3; have x4 := HB1.out.cell 4; have x5 := HB1.out.cell 5; have x6 := HB1.out.cell 6; have x7 := HB1.out.cell 7
                have HX := hidden (HKn.out w11)
                go_wp2_with fail
                refine HX.out.mono ?_
                rintro r w12 ⟨rfl, hbn⟩
                replace HB1 := hidden (HB1.out.below hbn HB1.out.lt)
                replace hb1 := hb1.trans (hbn.mono hb1.size)
                clear x0 x1 x2 x3 x4 x5 x6 x7 hbn HX
                go_wp2
                go_ret
                exact ⟨rfl, hb1⟩
end Go.Proofs.Ytdbbjlphlbndkaa.T
