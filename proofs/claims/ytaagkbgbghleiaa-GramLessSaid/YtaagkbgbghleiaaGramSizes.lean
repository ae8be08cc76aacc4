/-
  gram: sizes.
-/
import Derived.Test.YtaagkbgbghleiaaGramCode
import Derived.IntWalk
import Derived.Deep.RegionHeld3
namespace Go.Proofs.Ytaagkbgbghleiaa
open Go.RowKit Go.Shelf

theorem But.drew {p : Nat} {w w' : World} (h : But p w w') : But p w w'.drew := ⟨h.os, h.tape, h.output, h.size, h.block⟩
theorem But.alloc {p : Nat} {w w' : World} (h : But p w w') (o : Obj) : But p w (w'.alloc o) := h.next ((Below.refl _ _).alloc (Nat.le_refl _) _)
theorem Chk.drew {p : Nat} {a b c : Value} {g : Gram} {d : Defect} {w : World} (h : Chk p a b c g d w) : Chk p a b c g d w.drew := h.next (Below.refl _ _).drew
theorem Chk.alloc {p : Nat} {a b c : Value} {g : Gram} {d : Defect} {w : World} (h : Chk p a b c g d w) (o : Obj) : Chk p a b c g d (w.alloc o) := h.next ((Below.refl _ _).alloc (Nat.le_refl _) _)

/-- What a check's method leaves behind. -/
def ChkOut (p : Nat) (a b c : Value) (g : Gram) (d : Defect) (w : World) (e : Ending) (w' : World) : Prop := e = .returned (.bool (decide (d.kind ≠ 0))) ∧ Chk p a b c g d w' ∧ But p w w'
theorem ChkOut.mk_ {p : Nat} {a b c : Value} {g : Gram} {d d' : Defect} {w w' : World} {r : Bool} (hd : d' = d) (hr : r = decide (d.kind ≠ 0)) (h1 : Chk p a b c g d' w') (h2 : But p w w') : ChkOut p a b c g d w (.returned (.bool r)) w' := by
  subst hd
  exact ⟨by rw [hr], h1, h2⟩

set_option maxRecDepth 20000 in
set_option maxHeartbeats 8000000 in
theorem gram_sizes (p : Nat) (a b c : Value) (g : Gram) (w : World) (H : Chk p a b c g D0 w) (s1 : g.toks.length ≤ 100000) (s2 : g.rules.length ≤ 100000) (s3 : g.prods.length ≤ 100000) :
    Calls Try.prog 67 #[.pointer (some ⟨p, 0, none⟩)] w (ChkOut p a b c g (sizesOf g) w) := by
  obtain ⟨⟨A1, k1, rfl, v1, m1⟩, ⟨A2, k2, rfl, v2, m2⟩, ⟨A3, k3, rfl, v3, m3⟩⟩ := H.gram.vals
  have HH := hidden H
  have HBad := hidden (fun k at_ (w' : World) (h : Chk p (.slice A1 g.toks.length k1) (.slice A2 g.rules.length k2) (.slice A3 g.prods.length k3) g D0 w') => gram_bad p _ _ _ g D0 k at_ 0 w' h)
  obtain ⟨x0, x1, x2, x3, x4, x5, x6, x7⟩ := H.cells
  have hl := H.lt
  have HS := hidden (show sizesOf g = _ from rfl)
  obtain ⟨dd, hdd⟩ : ∃ dd, dd = sizesOf g := ⟨_, rfl⟩
  rw [← hdd]
  unfold sizesOf at hdd
  have HD := hidden hdd
  clear hdd H HS x3
  generalize g.toks.length = n1 at *
  generalize g.rules.length = n2 at *
  generalize g.prods.length = n3 at *
  obtain ⟨sa, esa⟩ : ∃ x, g.states = x := ⟨_, rfl⟩
  obtain ⟨tx, etx⟩ : ∃ x, g.text = x := ⟨_, rfl⟩
  obtain ⟨nd, end_⟩ : ∃ x, g.nodes = x := ⟨_, rfl⟩
  obtain ⟨pr, epr⟩ : ∃ x, g.pairs = x := ⟨_, rfl⟩
  have HGs := hidden (And.intro esa (And.intro etx (And.intro end_ epr)))
  rw [esa] at x4 HD
  rw [etx] at x5 HD
  rw [end_] at x6 HD
  rw [epr] at x7 HD
  clear esa etx end_ epr
  have hw1 : IntKind.i64.wrap ((n1 : Int) - 64) = (n1 : Int) - 64 := IntWalk.i64_in _ (by omega)
  have hw2 : IntKind.i64.wrap ((n2 : Int) - 64) = (n2 : Int) - 64 := IntWalk.i64_in _ (by omega)
  have hw3 : IntKind.i64.wrap ((n3 : Int) - 256) = (n3 : Int) - 256 := IntWalk.i64_in _ (by omega)
  go_enter Try.func67, Try.ntmps67
  go_wp2_with fail
  go_region_held3 (fun w' => w'.cell? ⟨p, 0, none⟩ = some (.slice A1 n1 k1) ∧ w'.cell? ⟨p, 1, none⟩ = some (.slice A2 n2 k2) ∧ w'.cell? ⟨p, 2, none⟩ = some (.slice A3 n3 k3))
    (first | exact ⟨x0, x1, x2⟩ | go_keep) (fail)
  have HB1 := hidden (((But.refl p w).alloc (.cells #[.int .i64 ((n1 : Int) - 64), .int .i64 ((n2 : Int) - 64), .int .i64 ((n3 : Int) - 256)] 3)).drew)
  have HC1 := hidden ((HH.out.alloc (.cells #[.int .i64 ((n1 : Int) - 64), .int .i64 ((n2 : Int) - 64), .int .i64 ((n3 : Int) - 256)] 3)).drew)
  have y0 : (w.alloc (.cells #[.int .i64 ((n1 : Int) - 64), .int .i64 ((n2 : Int) - 64), .int .i64 ((n3 : Int) - 256)] 3)).drew.cell? ⟨w.heap.size, 0, none⟩ = some (.int .i64 ((n1 : Int) - 64)) := (Holds.new w _ _).cell 0
  have y1 : (w.alloc (.cells #[.int .i64 ((n1 : Int) - 64), .int .i64 ((n2 : Int) - 64), .int .i64 ((n3 : Int) - 256)] 3)).drew.cell? ⟨w.heap.size, 1, none⟩ = some (.int .i64 ((n2 : Int) - 64)) := (Holds.new w _ _).cell 1
  have y2 : (w.alloc (.cells #[.int .i64 ((n1 : Int) - 64), .int .i64 ((n2 : Int) - 64), .int .i64 ((n3 : Int) - 256)] 3)).drew.cell? ⟨w.heap.size, 2, none⟩ = some (.int .i64 ((n3 : Int) - 256)) := (Holds.new w _ _).cell 2
  clear hw1 hw2 hw3 HH x0 x1 x2 x4 x5 x6 x7
  generalize (w.alloc (.cells #[.int .i64 ((n1 : Int) - 64), .int .i64 ((n2 : Int) - 64), .int .i64 ((n3 : Int) - 256)] 3)).drew = w1 at *
  generalize w.heap.size = q0 at *
  go_wp2
  go_loop [30] (fun ii => ∃ k : Nat, k ≤ 3 ∧ ii = .int .i64 k ∧ (1 ≤ k → n1 ≤ 64) ∧ (2 ≤ k → n2 ≤ 64) ∧ (3 ≤ k → n3 ≤ 256)) (fun ii => 3 - (intOf ii).toNat)
  case atStart => exact ⟨0, by omega, rfl, by omega, by omega, by omega⟩
  case round =>
    obtain ⟨k, hk, rfl, g1, g2, g3⟩ := hrel
    obtain rfl | rfl | rfl | rfl : k = 0 ∨ k = 1 ∨ k = 2 ∨ k = 3 := by omega
    · clear g1 g2 g3
      by_cases h1 : 64 < n1
      · have hp1 : (0 : Int) < (n1 : Int) - 64 := by omega
        obtain rfl : dd = ⟨4, 0, 0⟩ := by rw [HD.out, if_pos h1]
        go_wp2_with fail
        refine (HBad.out 4 0 _ HC1.out).mono ?_
        rintro r w2 ⟨rfl, HC2, hb2⟩
        have HE := hidden (ChkOut.mk_ (r := true) rfl rfl HC2 (HB1.out.trans hb2))
        clear HC2 hb2
        go_wp2
        go_ret
        exact HE.out
      · have hp1 : ¬ (0 : Int) < (n1 : Int) - 64 := by omega
        go_wp2
        go_round
        case rel => exact ⟨1, by omega, rfl, by omega, by omega, by omega⟩
        case measure => simp [intOf]
    · have g1 := g1 (by omega)
      clear g2 g3
      by_cases h1 : 64 < n2
      · have hp1 : (0 : Int) < (n2 : Int) - 64 := by omega
        obtain rfl : dd = ⟨4, 1, 0⟩ := by rw [HD.out, if_neg (by omega), if_pos h1]
        go_wp2_with fail
        refine (HBad.out 4 1 _ HC1.out).mono ?_
        rintro r w2 ⟨rfl, HC2, hb2⟩
        have HE := hidden (ChkOut.mk_ (r := true) rfl rfl HC2 (HB1.out.trans hb2))
        clear HC2 hb2
        go_wp2
        go_ret
        exact HE.out
      · have hp1 : ¬ (0 : Int) < (n2 : Int) - 64 := by omega
        go_wp2
        go_round
        case rel => exact ⟨2, by omega, rfl, by omega, by omega, by omega⟩
        case measure => simp [intOf]
    · have g1 := g1 (by omega)
      have g2 := g2 (by omega)
      clear g3
      by_cases h1 : 256 < n3
      · have hp1 : (0 : Int) < (n3 : Int) - 256 := by omega
        obtain rfl : dd = ⟨4, 2, 0⟩ := by rw [HD.out, if_neg (by omega), if_neg (by omega), if_pos h1]
        go_wp2_with fail
        refine (HBad.out 4 2 _ HC1.out).mono ?_
        rintro r w2 ⟨rfl, HC2, hb2⟩
        have HE := hidden (ChkOut.mk_ (r := true) rfl rfl HC2 (HB1.out.trans hb2))
        clear HC2 hb2
        go_wp2
        go_ret
        exact HE.out
      · have hp1 : ¬ (0 : Int) < (n3 : Int) - 256 := by omega
        go_wp2
        go_round
        case rel => exact ⟨3, by omega, rfl, by omega, by omega, by omega⟩
        case measure => simp [intOf]
    · have g1 := g1 (by omega)
      have g2 := g2 (by omega)
      have g3 := g3 (by omega)
      have HD2 : Hid (dd = if sa < 1 ∨ 4096 < sa then ⟨2, 0, 0⟩ else if tx < 0 ∨ 65536 < tx then ⟨2, 1, 0⟩ else if nd < 1 ∨ 65536 < nd then ⟨2, 2, 0⟩ else if pr < 1 ∨ 1048576 < pr then ⟨2, 3, 0⟩ else D0) := hidden (by rw [HD.out, if_neg (by omega), if_neg (by omega), if_neg (by omega)])
      obtain ⟨x0, x1, x2, x3, x4, x5, x6, x7⟩ := HC1.out.cells
      rw [HGs.out.1] at x4
      rw [HGs.out.2.1] at x5
      rw [HGs.out.2.2.1] at x6
      rw [HGs.out.2.2.2] at x7
      clear HD g1 g2 g3 y0 y1 y2 x0 x1 x2 x3
      go_wp2_with fail
      go_region_held3 (fun w' => w'.cell? ⟨p, 4, none⟩ = some (.int .i64 sa) ∧ w'.cell? ⟨p, 5, none⟩ = some (.int .i64 tx) ∧ w'.cell? ⟨p, 6, none⟩ = some (.int .i64 nd) ∧ w'.cell? ⟨p, 7, none⟩ = some (.int .i64 pr))
        (first | exact ⟨x4, x5, x6, x7⟩ | go_keep) (fail)
      have HB2 := hidden ((HB1.out.alloc (.cells #[.int .i64 1, .int .i64 sa, .int .i64 4096, .int .i64 0, .int .i64 tx, .int .i64 65536, .int .i64 1, .int .i64 nd, .int .i64 65536, .int .i64 1, .int .i64 pr, .int .i64 1048576] 119)).drew)
      have HC2 := hidden ((HC1.out.alloc (.cells #[.int .i64 1, .int .i64 sa, .int .i64 4096, .int .i64 0, .int .i64 tx, .int .i64 65536, .int .i64 1, .int .i64 nd, .int .i64 65536, .int .i64 1, .int .i64 pr, .int .i64 1048576] 119)).drew)
      have HQ : Hid (Holds (w1.alloc (.cells #[.int .i64 1, .int .i64 sa, .int .i64 4096, .int .i64 0, .int .i64 tx, .int .i64 65536, .int .i64 1, .int .i64 nd, .int .i64 65536, .int .i64 1, .int .i64 pr, .int .i64 1048576] 119)).drew w1.heap.size 119 #[.int .i64 1, .int .i64 sa, .int .i64 4096, .int .i64 0, .int .i64 tx, .int .i64 65536, .int .i64 1, .int .i64 nd, .int .i64 65536, .int .i64 1, .int .i64 pr, .int .i64 1048576]) := hidden (Holds.new w1 _ _).drew
      have hq : p < w1.heap.size := HC1.out.lt
      clear x4 x5 x6 x7 HB1 HC1
      generalize (w1.alloc (.cells #[.int .i64 1, .int .i64 sa, .int .i64 4096, .int .i64 0, .int .i64 tx, .int .i64 65536, .int .i64 1, .int .i64 nd, .int .i64 65536, .int .i64 1, .int .i64 pr, .int .i64 1048576] 119)).drew = w2 at *
      generalize w1.heap.size = q at *
      go_wp2
      go_loopw [67] (fun ii wr => ∃ k : Nat, k ≤ 4 ∧ ii = .int .i64 k ∧ Hid (1 ≤ k → ¬ (sa < 1 ∨ 4096 < sa)) ∧ Hid (2 ≤ k → ¬ (tx < 0 ∨ 65536 < tx)) ∧ Hid (3 ≤ k → ¬ (nd < 1 ∨ 65536 < nd)) ∧ Hid (4 ≤ k → ¬ (pr < 1 ∨ 1048576 < pr)) ∧ Hid (But p w wr) ∧ Hid (Chk p (.slice A1 n1 k1) (.slice A2 n2 k2) (.slice A3 n3 k3) g D0 wr) ∧ Hid (Holds wr q 119 #[.int .i64 1, .int .i64 sa, .int .i64 4096, .int .i64 0, .int .i64 tx, .int .i64 65536, .int .i64 1, .int .i64 nd, .int .i64 65536, .int .i64 1, .int .i64 pr, .int .i64 1048576])) (fun ii _ => 4 - (intOf ii).toNat)
      case atStart => exact ⟨0, by omega, rfl, hidden (by omega), hidden (by omega), hidden (by omega), hidden (by omega), HB2, HC2, HQ⟩
      case round =>
        clear HB2 HC2 HQ
        obtain ⟨k, hk, rfl, g1, g2, g3, g4, HB, HC, HQ⟩ := hrel
        have hqr := HQ.out.lt
        have hpr := HC.out.lt
        obtain rfl | rfl | rfl | rfl | rfl : k = 0 ∨ k = 1 ∨ k = 2 ∨ k = 3 ∨ k = 4 := by omega
        · have y0 : wr.cell? ⟨q, 0, none⟩ = some (.int .i64 1) := HQ.out.cell 0
          have y1 : wr.cell? ⟨q, 1, none⟩ = some (.int .i64 sa) := HQ.out.cell 1
          have y2 : wr.cell? ⟨q, 2, none⟩ = some (.int .i64 4096) := HQ.out.cell 2
          have HCn := hidden (HC.out.alloc (.cells #[.int .i64 1, .int .i64 sa, .int .i64 4096] 119))
          have HBn := hidden (HB.out.alloc (.cells #[.int .i64 1, .int .i64 sa, .int .i64 4096] 119))
          by_cases c1 : sa < 1
          · obtain rfl : dd = ⟨2, 0, 0⟩ := by rw [HD2.out, if_pos (Or.inl c1)]
            go_wp2_with fail
            refine (HBad.out 2 0 _ HCn.out).mono ?_
            rintro r w3 ⟨rfl, HC3, hb3⟩
            have HE := hidden (ChkOut.mk_ (r := true) rfl rfl HC3 (HBn.out.trans hb3))
            clear HC3 hb3
            go_wp2
            go_ret
            exact HE.out
          by_cases c2 : 4096 < sa
          · obtain rfl : dd = ⟨2, 0, 0⟩ := by rw [HD2.out, if_pos (Or.inr c2)]
            go_wp2_with fail
            refine (HBad.out 2 0 _ HCn.out).mono ?_
            rintro r w3 ⟨rfl, HC3, hb3⟩
            have HE := hidden (ChkOut.mk_ (r := true) rfl rfl HC3 (HBn.out.trans hb3))
            clear HC3 hb3
            go_wp2
            go_ret
            exact HE.out
          have HN : Hid (1 ≤ 1 → ¬ (sa < 1 ∨ 4096 < sa)) := hidden (by omega)
          have HQn := hidden (HQ.out.alloc (.cells #[.int .i64 1, .int .i64 sa, .int .i64 4096] 119))
          go_wp2
          go_roundw
          case rel => exact ⟨1, by omega, rfl, HN, hidden (by omega), hidden (by omega), hidden (by omega), HBn, HCn, HQn⟩
          case measure => simp [intOf]
        · have y0 : wr.cell? ⟨q, 3, none⟩ = some (.int .i64 0) := HQ.out.cell 3
          have y1 : wr.cell? ⟨q, 4, none⟩ = some (.int .i64 tx) := HQ.out.cell 4
          have y2 : wr.cell? ⟨q, 5, none⟩ = some (.int .i64 65536) := HQ.out.cell 5
          have HCn := hidden (HC.out.alloc (.cells #[.int .i64 0, .int .i64 tx, .int .i64 65536] 119))
          have HBn := hidden (HB.out.alloc (.cells #[.int .i64 0, .int .i64 tx, .int .i64 65536] 119))
          by_cases c1 : tx < 0
          · obtain rfl : dd = ⟨2, 1, 0⟩ := by rw [HD2.out, if_neg (g1.out (by omega)), if_pos (Or.inl c1)]
            go_wp2_with fail
            refine (HBad.out 2 1 _ HCn.out).mono ?_
            rintro r w3 ⟨rfl, HC3, hb3⟩
            have HE := hidden (ChkOut.mk_ (r := true) rfl rfl HC3 (HBn.out.trans hb3))
            clear HC3 hb3
            go_wp2
            go_ret
            exact HE.out
          by_cases c2 : 65536 < tx
          · obtain rfl : dd = ⟨2, 1, 0⟩ := by rw [HD2.out, if_neg (g1.out (by omega)), if_pos (Or.inr c2)]
            go_wp2_with fail
            refine (HBad.out 2 1 _ HCn.out).mono ?_
            rintro r w3 ⟨rfl, HC3, hb3⟩
            have HE := hidden (ChkOut.mk_ (r := true) rfl rfl HC3 (HBn.out.trans hb3))
            clear HC3 hb3
            go_wp2
            go_ret
            exact HE.out
          have HN : Hid (2 ≤ 2 → ¬ (tx < 0 ∨ 65536 < tx)) := hidden (by omega)
          have HQn := hidden (HQ.out.alloc (.cells #[.int .i64 0, .int .i64 tx, .int .i64 65536] 119))
          go_wp2
          go_roundw
          case rel => exact ⟨2, by omega, rfl, hidden (fun _ => g1.out (by omega)), HN, hidden (by omega), hidden (by omega), HBn, HCn, HQn⟩
          case measure => simp [intOf]
        · have y0 : wr.cell? ⟨q, 6, none⟩ = some (.int .i64 1) := HQ.out.cell 6
          have y1 : wr.cell? ⟨q, 7, none⟩ = some (.int .i64 nd) := HQ.out.cell 7
          have y2 : wr.cell? ⟨q, 8, none⟩ = some (.int .i64 65536) := HQ.out.cell 8
          have HCn := hidden (HC.out.alloc (.cells #[.int .i64 1, .int .i64 nd, .int .i64 65536] 119))
          have HBn := hidden (HB.out.alloc (.cells #[.int .i64 1, .int .i64 nd, .int .i64 65536] 119))
          by_cases c1 : nd < 1
          · obtain rfl : dd = ⟨2, 2, 0⟩ := by rw [HD2.out, if_neg (g1.out (by omega)), if_neg (g2.out (by omega)), if_pos (Or.inl c1)]
            go_wp2_with fail
            refine (HBad.out 2 2 _ HCn.out).mono ?_
            rintro r w3 ⟨rfl, HC3, hb3⟩
            have HE := hidden (ChkOut.mk_ (r := true) rfl rfl HC3 (HBn.out.trans hb3))
            clear HC3 hb3
            go_wp2
            go_ret
            exact HE.out
          by_cases c2 : 65536 < nd
          · obtain rfl : dd = ⟨2, 2, 0⟩ := by rw [HD2.out, if_neg (g1.out (by omega)), if_neg (g2.out (by omega)), if_pos (Or.inr c2)]
            go_wp2_with fail
            refine (HBad.out 2 2 _ HCn.out).mono ?_
            rintro r w3 ⟨rfl, HC3, hb3⟩
            have HE := hidden (ChkOut.mk_ (r := true) rfl rfl HC3 (HBn.out.trans hb3))
            clear HC3 hb3
            go_wp2
            go_ret
            exact HE.out
          have HN : Hid (3 ≤ 3 → ¬ (nd < 1 ∨ 65536 < nd)) := hidden (by omega)
          have HQn := hidden (HQ.out.alloc (.cells #[.int .i64 1, .int .i64 nd, .int .i64 65536] 119))
          go_wp2
          go_roundw
          case rel => exact ⟨3, by omega, rfl, hidden (fun _ => g1.out (by omega)), hidden (fun _ => g2.out (by omega)), HN, hidden (by omega), HBn, HCn, HQn⟩
          case measure => simp [intOf]
        · have y0 : wr.cell? ⟨q, 9, none⟩ = some (.int .i64 1) := HQ.out.cell 9
          have y1 : wr.cell? ⟨q, 10, none⟩ = some (.int .i64 pr) := HQ.out.cell 10
          have y2 : wr.cell? ⟨q, 11, none⟩ = some (.int .i64 1048576) := HQ.out.cell 11
          have HCn := hidden (HC.out.alloc (.cells #[.int .i64 1, .int .i64 pr, .int .i64 1048576] 119))
          have HBn := hidden (HB.out.alloc (.cells #[.int .i64 1, .int .i64 pr, .int .i64 1048576] 119))
          by_cases c1 : pr < 1
          · obtain rfl : dd = ⟨2, 3, 0⟩ := by rw [HD2.out, if_neg (g1.out (by omega)), if_neg (g2.out (by omega)), if_neg (g3.out (by omega)), if_pos (Or.inl c1)]
            go_wp2_with fail
            refine (HBad.out 2 3 _ HCn.out).mono ?_
            rintro r w3 ⟨rfl, HC3, hb3⟩
            have HE := hidden (ChkOut.mk_ (r := true) rfl rfl HC3 (HBn.out.trans hb3))
            clear HC3 hb3
            go_wp2
            go_ret
            exact HE.out
          by_cases c2 : 1048576 < pr
          · obtain rfl : dd = ⟨2, 3, 0⟩ := by rw [HD2.out, if_neg (g1.out (by omega)), if_neg (g2.out (by omega)), if_neg (g3.out (by omega)), if_pos (Or.inr c2)]
            go_wp2_with fail
            refine (HBad.out 2 3 _ HCn.out).mono ?_
            rintro r w3 ⟨rfl, HC3, hb3⟩
            have HE := hidden (ChkOut.mk_ (r := true) rfl rfl HC3 (HBn.out.trans hb3))
            clear HC3 hb3
            go_wp2
            go_ret
            exact HE.out
          have HN : Hid (4 ≤ 4 → ¬ (pr < 1 ∨ 1048576 < pr)) := hidden (by omega)
          have HQn := hidden (HQ.out.alloc (.cells #[.int .i64 1, .int .i64 pr, .int .i64 1048576] 119))
          go_wp2
          go_roundw
          case rel => exact ⟨4, by omega, rfl, hidden (fun _ => g1.out (by omega)), hidden (fun _ => g2.out (by omega)), hidden (fun _ => g3.out (by omega)), HN, HBn, HCn, HQn⟩
          case measure => simp [intOf]
        · obtain rfl : dd = D0 := by rw [HD2.out, if_neg (g1.out (by omega)), if_neg (g2.out (by omega)), if_neg (g3.out (by omega)), if_neg (g4.out (by omega))]
          have HE := hidden (ChkOut.mk_ (r := false) rfl rfl HC.out HB.out)
          clear HC HB HQ
          go_wp2
          go_ret
          exact HE.out
end Go.Proofs.Ytaagkbgbghleiaa
