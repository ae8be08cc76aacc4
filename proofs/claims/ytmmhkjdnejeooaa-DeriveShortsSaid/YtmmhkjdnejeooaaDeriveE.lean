/-
  The first node that does not fit, whole trees, parts: derive.look.wrong, derive.Wrong, Fits, Part.
-/
import Derived.Test.YtmmhkjdnejeooaaDeriveC
import Derived.Test.YtmmhkjdnejeooaaDeriveD
import Derived.Test.YtmmhkjdnejeooaaT5
namespace Go.Proofs.Ytmmhkjdnejeooaa.T
open Go.RowKit Go.Shelf

theorem look_wrong (a b c v : Value) (g : Gram) (t : List Node) (q : Nat) (w : World) (HG : GramIs w (Old w) a b c g) (HL : Holds w q 49 (lkCells a b c v g)) (HN : Nds w (Old w) v t) (ht : Tree t) (h4 : t.length ≤ 1000000) :
    Calls Try.prog 27 #[.pointer (some ⟨q, 0, none⟩)] w fun r w' => r = .returned (.int .i64 (wrongAll g t)) ∧ Below w.heap.size w w' := by
  have HLk := hidden HL
  have HNo := hidden (fun (i : Nat) (hi : i < t.length) (w' : World) (hb : Below w.heap.size w w') => look_node a b c v g t i q w' (HG.old hb) (HL.below hb HL.lt) (HN.old hb) ht hi h4)
  have hAt := hidden (fun (j : Nat) (hj : j < t.length) (h : ∀ k, k < j → fitsD g t k = true) (hb : fitsD g t j = false) => wrong_at hj h hb)
  have hNo := hidden (fun (h : ∀ k, k < t.length → fitsD g t k = true) => wrong_none h)
  obtain ⟨A, cc, rfl, hc1, hc2⟩ := HN.value
  unfold lkCells at *
  obtain ⟨l0, l1, l2, l3, l4, l5, l6, l7, l8⟩ := nineR HL
  generalize wrongAll g t = res at *
  clear HG HL HN l0 l1 l2 l3 l4 l5 l6 l7
  go_enter Try.func27, Try.ntmps27
  go_wp2
  clear l8
  go_loopw [9] (fun iv wr => ∃ i : Nat, iv = .int .i64 i ∧ i ≤ t.length ∧ Hid (∀ k, k < i → fitsD g t k = true) ∧ Hid (Below w.heap.size w wr)) (fun iv wr => t.length - (intOf iv).toNat)
  case atStart => exact ⟨0, by go_num, Nat.zero_le _, hidden (fun k h => by omega), hidden (Below.refl _ _)⟩
  case round =>
    obtain ⟨i, rfl, hi, HF, HB⟩ := hrel
    by_cases hlt : i < t.length
    · have qi : (i : Int) < (t.length : Int) := by omega
      have HX := hidden (HNo.out i hlt wr HB.out)
      have hA2 := hidden (fun hb => hAt.out i hlt HF.out hb)
      have hF2 := hidden (fun (e : fitsD g t i = true) => (show ∀ k, k < i + 1 → fitsD g t k = true from fun k hk => by
        by_cases e2 : k = i
        · subst e2; exact e
        · exact HF.out k (by omega)))
      clear HF
      generalize fitsD g t i = f at *
      go_wp2_with fail
      refine HX.out.mono ?_
      rintro r w2 ⟨rfl, hb2⟩
      replace HB := hidden (HB.out.trans (hb2.mono HB.out.size))
      clear HX hb2
      cases f
      · have he : Hid (res = (i : Int)) := hidden (hA2.out rfl)
        have hbw := HB.out
        clear hA2 hF2 HB
        go_wp2
        go_ret
        exact ⟨by rw [he.out]; rfl, hbw⟩
      · have HF3 := hidden (hF2.out rfl)
        clear hA2 hF2
        go_wp2
        go_roundw
        case rel => exact ⟨i + 1, by go_num, by omega, HF3, HB⟩
        case measure => simp [intOf]; omega
    · obtain rfl : i = t.length := by omega
      have qi : ¬ (t.length : Int) < (t.length : Int) := by omega
      have he : Hid (res = -1) := hidden (hNo.out HF.out)
      have hbw := HB.out
      clear HF HB
      go_wp2
      go_ret
      exact ⟨by rw [he.out]; rfl, hbw⟩

set_option maxRecDepth 20000 in
set_option maxHeartbeats 8000000 in
theorem derive_Wrong (a b c v : Value) (g : Gram) (t : List Node) (w : World) (HG : GramIs w (Old w) a b c g) (hsm : Small g) (HN : Nds w (Old w) v t) (h4 : t.length ≤ 1000000) :
    Calls Try.prog 12 #[.agg (gramCells a b c g), v] w fun r w' => r = .returned (.int .i64 (wrongD g t)) ∧ Below w.heap.size w w' := by
  have HRt := hidden (fun (w' : World) (hb : Below w.heap.size w w') => gram_Right a b c g w' (HG.old hb) hsm.toks hsm.rules hsm.prods hsm.names)
  have HAr := hidden (fun (w' : World) (hb : Below w.heap.size w w') => arena_right v t w' (by omega) (HN.old hb))
  have HWr := hidden (fun (ht : Tree t) (q : Nat) (w' : World) (hb : Below w.heap.size w w') (HL : Holds w' q 49 (lkCells a b c v g)) => look_wrong a b c v g t q w' (HG.old hb) HL (HN.old hb) ht h4)
  have hE : Hid (wrongD g t = if rightB g = true then (if treeB t = true ∧ kindAt t 0 = 1 then wrongAll g t else 0) else -1) := hidden rfl
  have HND := hidden HN
  obtain ⟨⟨A1, k1, rfl, v1, m1⟩, ⟨A2, k2, rfl, v2, m2⟩, ⟨A3, k3, rfl, v3, m3⟩⟩ := HG.vals
  obtain ⟨A, cc, rfl, hc1, hc2⟩ := HN.value
  generalize wrongD g t = res at *
  unfold gramCells lkCells at *
  have hb1 : Below w.heap.size w (w.alloc (.cells #[.slice A1 g.toks.length k1, .slice A2 g.rules.length k2, .slice A3 g.prods.length k3, .int .i64 g.start, .int .i64 g.states, .int .i64 g.text, .int .i64 g.nodes, .int .i64 g.pairs] 26)) := (Below.refl _ _).alloc (Nat.le_refl _) _
  have HB1 : Hid (Holds (w.alloc (.cells #[.slice A1 g.toks.length k1, .slice A2 g.rules.length k2, .slice A3 g.prods.length k3, .int .i64 g.start, .int .i64 g.states, .int .i64 g.text, .int .i64 g.nodes, .int .i64 g.pairs] 26)) w.heap.size 26 #[.slice A1 g.toks.length k1, .slice A2 g.rules.length k2, .slice A3 g.prods.length k3, .int .i64 g.start, .int .i64 g.states, .int .i64 g.text, .int .i64 g.nodes, .int .i64 g.pairs]) := hidden (Holds.new w _ _)
  clear HG HN hsm
  go_enter Try.func12, Try.ntmps12
  go_upto_region 1 with fail
  generalize (w.alloc (.cells #[.slice A1 g.toks.length k1, .slice A2 g.rules.length k2, .slice A3 g.prods.length k3, .int .i64 g.start, .int .i64 g.states, .int .i64 g.text, .int .i64 g.nodes, .int .i64 g.pairs] 26)) = w1 at *
  obtain ⟨x0, x1, x2, x3, x4, x5, x6, x7⟩ := eightR HB1.out
  have HX := hidden (HRt.out _ hb1)
  go_wp2_with fail
  refine HX.out.mono ?_
  rintro r w2 ⟨rfl, hb2⟩
  replace HB1 := hidden (HB1.out.below hb2 HB1.out.lt)
  replace hb1 := hb1.trans (hb2.mono hb1.size)
  clear x0 x1 x2 x3 x4 x5 x6 x7 hb2 HX HRt
  cases hr : rightB g
  · have he : Hid (res = -1) := hidden (by rw [hE.out, hr, if_neg Bool.false_ne_true])
    go_wp2
    go_ret
    exact ⟨by rw [he.out]; rfl, hb1⟩
  · have HX := hidden (HAr.out _ hb1)
    go_wp2_with fail
    refine HX.out.mono ?_
    rintro r w3 ⟨rfl, hb2⟩
    replace HB1 := hidden (HB1.out.below hb2 HB1.out.lt)
    replace hb1 := hb1.trans (hb2.mono hb1.size)
    clear hb2 HX HAr
    cases htr : treeB t
    · have he : Hid (res = 0) := hidden (by rw [hE.out, if_pos hr, if_neg (by rw [htr]; simp)])
      go_wp2
      go_ret
      exact ⟨by rw [he.out]; rfl, hb1⟩
    · have ht := treeB_iff.1 htr
      have ht0 := tree_len ht
      obtain ⟨bt, ot, ct, hvt, _, _, _, hat⟩ := HND.out.open_ (by intro e; rw [e] at ht0; simp at ht0)
      cases hvt
      obtain ⟨x, hx⟩ : ∃ x, t[0]? = some x := ⟨_, List.getElem?_eq_getElem ht0⟩
      obtain ⟨l, z0, _⟩ := hat 0 x hx
      have hk : kindAt t 0 = x.kind := by unfold kindAt; rw [hx]
      rw [Nat.zero_mul, Nat.add_zero] at z0
      have q0 : (0 : Int) < (t.length : Int) := by omega
      replace z0 := cellF z0 hb1
      by_cases h1 : x.kind = 1
      · have he : Hid (res = wrongAll g t) := hidden (by rw [hE.out, if_pos hr, if_pos ⟨htr, hk.trans h1⟩])
        have q1 : (x.kind != 1) = false := by rw [h1]; rfl
        have HW2 := hidden (fun q w' hb HL => HWr.out ht q w' hb HL)
        clear HWr hE hat hk hx HND
        generalize wrongAll g t = wa at *
        have HLn : Hid (Holds (w3.alloc (.cells #[.slice A1 g.toks.length k1, .slice A2 g.rules.length k2, .slice A3 g.prods.length k3, .int .i64 g.start, .int .i64 g.states, .int .i64 g.text, .int .i64 g.nodes, .int .i64 g.pairs, .slice (some ⟨bt, ot, none⟩) t.length cc] 49)) w3.heap.size 49 #[.slice A1 g.toks.length k1, .slice A2 g.rules.length k2, .slice A3 g.prods.length k3, .int .i64 g.start, .int .i64 g.states, .int .i64 g.text, .int .i64 g.nodes, .int .i64 g.pairs, .slice (some ⟨bt, ot, none⟩) t.length cc]) := hidden (Holds.new w3 _ _)
        have hb4 : Below w.heap.size w (w3.alloc (.cells #[.slice A1 g.toks.length k1, .slice A2 g.rules.length k2, .slice A3 g.prods.length k3, .int .i64 g.start, .int .i64 g.states, .int .i64 g.text, .int .i64 g.nodes, .int .i64 g.pairs, .slice (some ⟨bt, ot, none⟩) t.length cc] 49)) := hb1.alloc hb1.size _
        have HX := hidden (HW2.out _ _ hb4 HLn.out)
        obtain ⟨x0, x1, x2, x3, x4, x5, x6, x7⟩ := eightR HB1.out
        clear HW2 HLn
        go_wp2_with fail
        refine HX.out.mono ?_
        rintro r w5 ⟨rfl, hb5⟩
        have hbf := hb4.trans (hb5.mono hb4.size)
        clear x0 x1 x2 x3 x4 x5 x6 x7 hb5 HX z0
        go_wp2
        go_ret
        exact ⟨by rw [he.out]; rfl, hbf⟩
      · have he : Hid (res = 0) := hidden (by rw [hE.out, if_pos hr, if_neg (fun e => h1 (hk.symm.trans e.2))])
        have q1 : (x.kind != 1) = true := by simpa using h1
        go_wp2
        go_ret
        exact ⟨by rw [he.out]; rfl, hb1⟩

set_option maxRecDepth 20000 in
set_option maxHeartbeats 8000000 in
theorem derive_Fits (a b c v : Value) (g : Gram) (t : List Node) (w : World) (HG : GramIs w (Old w) a b c g) (hsm : Small g) (HN : Nds w (Old w) v t) (h4 : t.length ≤ 1000000) :
    Calls Try.prog 8 #[.agg (gramCells a b c g), v] w fun r w' => r = .returned (.bool (fitsB g t)) ∧ Below w.heap.size w w' := by
  have HRt := hidden (fun (w' : World) (hb : Below w.heap.size w w') => gram_Right a b c g w' (HG.old hb) hsm.toks hsm.rules hsm.prods hsm.names)
  have HWr := hidden (fun (w' : World) (hb : Below w.heap.size w w') => derive_Wrong a b c v g t w' (HG.old hb) hsm (HN.old hb) h4)
  have hE : Hid (fitsB g t = (rightB g && decide (wrongD g t < 0))) := hidden rfl
  obtain ⟨⟨A1, k1, rfl, v1, m1⟩, ⟨A2, k2, rfl, v2, m2⟩, ⟨A3, k3, rfl, v3, m3⟩⟩ := HG.vals
  generalize fitsB g t = res at *
  generalize wrongD g t = wd at *
  unfold gramCells at *
  have hb1 : Below w.heap.size w (w.alloc (.cells #[.slice A1 g.toks.length k1, .slice A2 g.rules.length k2, .slice A3 g.prods.length k3, .int .i64 g.start, .int .i64 g.states, .int .i64 g.text, .int .i64 g.nodes, .int .i64 g.pairs] 26)) := (Below.refl _ _).alloc (Nat.le_refl _) _
  have HB1 : Hid (Holds (w.alloc (.cells #[.slice A1 g.toks.length k1, .slice A2 g.rules.length k2, .slice A3 g.prods.length k3, .int .i64 g.start, .int .i64 g.states, .int .i64 g.text, .int .i64 g.nodes, .int .i64 g.pairs] 26)) w.heap.size 26 #[.slice A1 g.toks.length k1, .slice A2 g.rules.length k2, .slice A3 g.prods.length k3, .int .i64 g.start, .int .i64 g.states, .int .i64 g.text, .int .i64 g.nodes, .int .i64 g.pairs]) := hidden (Holds.new w _ _)
  clear HG HN hsm
  go_enter Try.func8, Try.ntmps8
  go_upto_region 1 with fail
  generalize (w.alloc (.cells #[.slice A1 g.toks.length k1, .slice A2 g.rules.length k2, .slice A3 g.prods.length k3, .int .i64 g.start, .int .i64 g.states, .int .i64 g.text, .int .i64 g.nodes, .int .i64 g.pairs] 26)) = w1 at *
  obtain ⟨x0, x1, x2, x3, x4, x5, x6, x7⟩ := eightR HB1.out
  have HX := hidden (HRt.out _ hb1)
  go_wp2_with fail
  refine HX.out.mono ?_
  rintro r w2 ⟨rfl, hb2⟩
  replace HB1 := hidden (HB1.out.below hb2 HB1.out.lt)
  replace hb1 := hb1.trans (hb2.mono hb1.size)
  clear x0 x1 x2 x3 x4 x5 x6 x7 hb2 HX HRt
  cases hr : rightB g
  · have he : Hid (res = false) := hidden (by rw [hE.out, hr]; rfl)
    go_wp2
    go_ret
    exact ⟨by rw [he.out]; rfl, hb1⟩
  · have he : Hid (res = decide (wd < 0)) := hidden (by rw [hE.out, hr, Bool.true_and])
    have HX := hidden (HWr.out _ hb1)
    obtain ⟨x0, x1, x2, x3, x4, x5, x6, x7⟩ := eightR HB1.out
    go_wp2_with fail
    refine HX.out.mono ?_
    rintro r w3 ⟨rfl, hb2⟩
    replace hb1 := hb1.trans (hb2.mono hb1.size)
    clear x0 x1 x2 x3 x4 x5 x6 x7 hb2 HX HWr
    go_wp2
    go_ret
    exact ⟨by rw [he.out]; rfl, hb1⟩

set_option maxRecDepth 20000 in
set_option maxHeartbeats 16000000 in
theorem derive_Part (a b c v : Value) (g : Gram) (t : List Node) (y : Item) (w : World) (HG : GramIs w (Old w) a b c g) (hsm : Small g) (HN : Nds w (Old w) v t) (h4 : t.length ≤ 1000000) :
    Calls Try.prog 10 #[.agg (gramCells a b c g), v, .agg (itV y)] w fun r w' => r = .returned (.bool (partD g t y)) ∧ Below w.heap.size w w' := by
  have HRt := hidden (fun (w' : World) (hb : Below w.heap.size w w') => gram_Right a b c g w' (HG.old hb) hsm.toks hsm.rules hsm.prods hsm.names)
  have HAr := hidden (fun (w' : World) (hb : Below w.heap.size w w') => arena_right v t w' (by omega) (HN.old hb))
  have HOf := hidden (fun (x : Node) (l : Value) (q : Nat) (w' : World) (hb : Below w.heap.size w w') (HL : Holds w' q 49 (lkCells a b c v g)) => look_of a b c v l g x y q w' (HG.old hb) HL)
  have HWr := hidden (fun (ht : Tree t) (q : Nat) (w' : World) (hb : Below w.heap.size w w') (HL : Holds w' q 49 (lkCells a b c v g)) => look_wrong a b c v g t q w' (HG.old hb) HL (HN.old hb) ht h4)
  have hE : Hid (partD g t y = (rightB g && (treeB t && (ofAt g t 0 y && (decide (wrongAll g t < 0) && decide (∀ i, i < t.length → outAt t i = false)))))) := hidden rfl
  have HND := hidden HN
  obtain ⟨⟨A1, k1, rfl, v1, m1⟩, ⟨A2, k2, rfl, v2, m2⟩, ⟨A3, k3, rfl, v3, m3⟩⟩ := HG.vals
  obtain ⟨A, cc, rfl, hc1, hc2⟩ := HN.value
  generalize partD g t y = res at *
  obtain ⟨rl, yn, gp, ii⟩ := y
  unfold gramCells lkCells itV at *
  dsimp only at *
  have hb1 : Below w.heap.size w (((w.alloc (.cells #[.slice A1 g.toks.length k1, .slice A2 g.rules.length k2, .slice A3 g.prods.length k3, .int .i64 g.start, .int .i64 g.states, .int .i64 g.text, .int .i64 g.nodes, .int .i64 g.pairs] 26)).alloc (.cells #[.bool rl, .int .i64 yn, .int .i64 gp, .int .i64 ii] 30)).alloc (.cells #[.slice A1 g.toks.length k1, .slice A2 g.rules.length k2, .slice A3 g.prods.length k3, .int .i64 g.start, .int .i64 g.states, .int .i64 g.text, .int .i64 g.nodes, .int .i64 g.pairs, .slice A t.length cc] 49)) := (((Below.refl _ _).alloc (Nat.le_refl _) _).alloc (by simp) _).alloc (by simp; omega) _
  have HB1 : Hid (Holds (((w.alloc (.cells #[.slice A1 g.toks.length k1, .slice A2 g.rules.length k2, .slice A3 g.prods.length k3, .int .i64 g.start, .int .i64 g.states, .int .i64 g.text, .int .i64 g.nodes, .int .i64 g.pairs] 26)).alloc (.cells #[.bool rl, .int .i64 yn, .int .i64 gp, .int .i64 ii] 30)).alloc (.cells #[.slice A1 g.toks.length k1, .slice A2 g.rules.length k2, .slice A3 g.prods.length k3, .int .i64 g.start, .int .i64 g.states, .int .i64 g.text, .int .i64 g.nodes, .int .i64 g.pairs, .slice A t.length cc] 49)) w.heap.size 26 #[.slice A1 g.toks.length k1, .slice A2 g.rules.length k2, .slice A3 g.prods.length k3, .int .i64 g.start, .int .i64 g.states, .int .i64 g.text, .int .i64 g.nodes, .int .i64 g.pairs]) := hidden (by repeat (first | (with_reducible assumption) | ((with_reducible refine holds_new ?_); (focus (first | rfl | (simp; done)))) | (with_reducible refine Holds.alloc ?_ _) | (with_reducible refine Holds.drew ?_)))
  have HB2 : Hid (Holds (((w.alloc (.cells #[.slice A1 g.toks.length k1, .slice A2 g.rules.length k2, .slice A3 g.prods.length k3, .int .i64 g.start, .int .i64 g.states, .int .i64 g.text, .int .i64 g.nodes, .int .i64 g.pairs] 26)).alloc (.cells #[.bool rl, .int .i64 yn, .int .i64 gp, .int .i64 ii] 30)).alloc (.cells #[.slice A1 g.toks.length k1, .slice A2 g.rules.length k2, .slice A3 g.prods.length k3, .int .i64 g.start, .int .i64 g.states, .int .i64 g.text, .int .i64 g.nodes, .int .i64 g.pairs, .slice A t.length cc] 49)) (w.heap.size + 1) 30 #[.bool rl, .int .i64 yn, .int .i64 gp, .int .i64 ii]) := hidden (by repeat (first | (with_reducible assumption) | ((with_reducible refine holds_new ?_); (focus (first | rfl | (simp; done)))) | (with_reducible refine Holds.alloc ?_ _) | (with_reducible refine Holds.drew ?_)))
  have HB3 : Hid (Holds (((w.alloc (.cells #[.slice A1 g.toks.length k1, .slice A2 g.rules.length k2, .slice A3 g.prods.length k3, .int .i64 g.start, .int .i64 g.states, .int .i64 g.text, .int .i64 g.nodes, .int .i64 g.pairs] 26)).alloc (.cells #[.bool rl, .int .i64 yn, .int .i64 gp, .int .i64 ii] 30)).alloc (.cells #[.slice A1 g.toks.length k1, .slice A2 g.rules.length k2, .slice A3 g.prods.length k3, .int .i64 g.start, .int .i64 g.states, .int .i64 g.text, .int .i64 g.nodes, .int .i64 g.pairs, .slice A t.length cc] 49)) (w.heap.size + 1 + 1) 49 #[.slice A1 g.toks.length k1, .slice A2 g.rules.length k2, .slice A3 g.prods.length k3, .int .i64 g.start, .int .i64 g.states, .int .i64 g.text, .int .i64 g.nodes, .int .i64 g.pairs, .slice A t.length cc]) := hidden (Holds.new_at (by simp))
  clear HG HN hsm
  go_enter Try.func10, Try.ntmps10
  go_upto_region 2 with fail
  generalize (((w.alloc (.cells #[.slice A1 g.toks.length k1, .slice A2 g.rules.length k2, .slice A3 g.prods.length k3, .int .i64 g.start, .int .i64 g.states, .int .i64 g.text, .int .i64 g.nodes, .int .i64 g.pairs] 26)).alloc (.cells #[.bool rl, .int .i64 yn, .int .i64 gp, .int .i64 ii] 30)).alloc (.cells #[.slice A1 g.toks.length k1, .slice A2 g.rules.length k2, .slice A3 g.prods.length k3, .int .i64 g.start, .int .i64 g.states, .int .i64 g.text, .int .i64 g.nodes, .int .i64 g.pairs, .slice A t.length cc] 49)) = w1 at *
  obtain ⟨x0, x1, x2, x3, x4, x5, x6, x7⟩ := eightR HB1.out
  have y0 := HB2.out.cell 0; have y1 := HB2.out.cell 1; have y2 := HB2.out.cell 2; have y3 := HB2.out.cell 3
  have e0 := Ext.cell x0; have e1 := Ext.cell x1; have e2 := Ext.cell x2; have e3 := Ext.cell x3; have e4 := Ext.cell x4; have e5 := Ext.cell x5; have e6 := Ext.cell x6; have e7 := Ext.cell x7
  have e8 := Ext.cell y0; have e9 := Ext.cell y1; have e10 := Ext.cell y2; have e11 := Ext.cell y3
  have hz1 := hb1.size
  cases hr : rightB g
  · rw [hr] at HRt
    have he : Hid (res = false) := hidden (by rw [hE.out, hr]; rfl)
    go_wp2_with fail
    refine wp_region_ext (by kernel_rfl) (by kernel_rfl) ?_
    repeat (go_big_quiet_step ((first | (go_at_call 23; exact Ext.call (HRt.out _ (hb1.trans ((Ext.below _).mono hz1)))) | (go_at_call 25; exact Ext.call (HAr.out _ (hb1.trans ((Ext.below _).mono hz1)))) | (go_at_call 26; exact Ext.call (HOf2.out _ (Ext.below _))) | (go_at_call 27; exact Ext.call (HWr2.out _ (Ext.below _))))))
    refine wpQuiet_nil ?_
    intro w2 hb2
    have hbf := hb1.trans (hb2.mono hz1)
    clear e0 e1 e2 e3 e4 e5 e6 e7 e8 e9 e10 e11 x0 x1 x2 x3 x4 x5 x6 x7 y0 y1 y2 y3
    go_wp2
    go_ret
    exact ⟨by rw [he.out]; rfl, hbf⟩
  · rw [hr] at HRt
    cases htr : treeB t
    · rw [htr] at HAr
      have he : Hid (res = false) := hidden (by rw [hE.out, hr, htr]; rfl)
      go_wp2_with fail
      refine wp_region_ext (by kernel_rfl) (by kernel_rfl) ?_
      repeat (go_big_quiet_step ((first | (go_at_call 23; exact Ext.call (HRt.out _ (hb1.trans ((Ext.below _).mono hz1)))) | (go_at_call 25; exact Ext.call (HAr.out _ (hb1.trans ((Ext.below _).mono hz1)))) | (go_at_call 26; exact Ext.call (HOf2.out _ (Ext.below _))) | (go_at_call 27; exact Ext.call (HWr2.out _ (Ext.below _))))))
      refine wpQuiet_nil ?_
      intro w2 hb2
      have hbf := hb1.trans (hb2.mono hz1)
      clear e0 e1 e2 e3 e4 e5 e6 e7 e8 e9 e10 e11 x0 x1 x2 x3 x4 x5 x6 x7 y0 y1 y2 y3
      go_wp2
      go_ret
      exact ⟨by rw [he.out]; rfl, hbf⟩
    · rw [htr] at HAr
      have ht := treeB_iff.1 htr
      have ht0 := tree_len ht
      obtain ⟨bt, ot, ct, hvt, _, _, _, hat⟩ := HND.out.open_ (by intro e; rw [e] at ht0; simp at ht0)
      cases hvt
      obtain ⟨x, hx⟩ : ∃ x, t[0]? = some x := ⟨_, List.getElem?_eq_getElem ht0⟩
      obtain ⟨l, z0, z1, z2, z3, z4, _⟩ := hat 0 x hx
      have hof : Hid (ofAt g t 0 ⟨rl, yn, gp, ii⟩ = ofD g x ⟨rl, yn, gp, ii⟩) := hidden (by unfold ofAt; rw [hx])
      have q0 : (0 : Int) < (t.length : Int) := by omega
      rw [Nat.zero_mul, Nat.add_zero] at z0 z1 z2 z3 z4
      have HAt := hidden hat
      have HOf2 := hidden (fun w' (hb : Below w1.heap.size w1 w') => HOf.out x l (w.heap.size + 1 + 1) w' (hb1.trans (hb.mono hz1)) (HB3.out.below hb HB3.out.lt))
      have HWr2 := hidden (fun w' (hb : Below w1.heap.size w1 w') => HWr.out ht (w.heap.size + 1 + 1) w' (hb1.trans (hb.mono hz1)) (HB3.out.below hb HB3.out.lt))
      unfold ndV at HOf2
      clear HOf HWr hat hx
      replace z0 := cellF z0 hb1; replace z1 := cellF z1 hb1; replace z2 := cellF z2 hb1; replace z3 := cellF z3 hb1; replace z4 := cellF z4 hb1
      have e12 := Ext.cell z0; have e13 := Ext.cell z1; have e14 := Ext.cell z2; have e15 := Ext.cell z3; have e16 := Ext.cell z4
      generalize ofD g x ⟨rl, yn, gp, ii⟩ = fo at *
      generalize wrongAll g t = wa at *
      cases fo
      · have he : Hid (res = false) := hidden (by rw [hE.out, hr, htr, hof.out]; rfl)
        go_wp2_with fail
        refine wp_region_ext (by kernel_rfl) (by kernel_rfl) ?_
        repeat (go_big_quiet_step ((first | (go_at_call 23; exact Ext.call (HRt.out _ (hb1.trans ((Ext.below _).mono hz1)))) | (go_at_call 25; exact Ext.call (HAr.out _ (hb1.trans ((Ext.below _).mono hz1)))) | (go_at_call 26; exact Ext.call (HOf2.out _ (Ext.below _))) | (go_at_call 27; exact Ext.call (HWr2.out _ (Ext.below _))))))
        refine wpQuiet_nil ?_
        intro w2 hb2
        have hbf := hb1.trans (hb2.mono hz1)
        clear e0 e1 e2 e3 e4 e5 e6 e7 e8 e9 e10 e11 x0 x1 x2 x3 x4 x5 x6 x7 y0 y1 y2 y3 e12 e13 e14 e15 e16 z0 z1 z2 z3 z4
        go_wp2
        go_ret
        exact ⟨by rw [he.out]; rfl, hbf⟩
      · by_cases hw : wa < 0
        · have qw : decide (0 ≤ wa) = false := decide_eq_false (by omega)
          have hE2 : Hid (res = decide (∀ i, i < t.length → outAt t i = false)) := hidden (by rw [hE.out, hr, htr, hof.out, decide_eq_true hw]; rfl)
          clear hE hof hw
          go_wp2_with fail
          refine wp_region_ext (by kernel_rfl) (by kernel_rfl) ?_
          repeat (go_big_quiet_step ((first | (go_at_call 23; exact Ext.call (HRt.out _ (hb1.trans ((Ext.below _).mono hz1)))) | (go_at_call 25; exact Ext.call (HAr.out _ (hb1.trans ((Ext.below _).mono hz1)))) | (go_at_call 26; exact Ext.call (HOf2.out _ (Ext.below _))) | (go_at_call 27; exact Ext.call (HWr2.out _ (Ext.below _))))))
          refine wpQuiet_nil ?_
          intro w2 hb2
          have hbf := hb1.trans (hb2.mono hz1)
          clear e0 e1 e2 e3 e4 e5 e6 e7 e8 e9 e10 e11 x0 x1 x2 x3 x4 x5 x6 x7 y0 y1 y2 y3 e12 e13 e14 e15 e16 z0 z1 z2 z3 z4
          clear HOf2 HWr2 HB1 HB2 HB3 HND
          go_wp2
          go_loopw [38] (fun iv wr => ∃ i : Nat, iv = .int .i64 i ∧ i ≤ t.length ∧ Hid (∀ k, k < i → outAt t k = false) ∧ Hid (Below w.heap.size w wr)) (fun iv wr => t.length - (intOf iv).toNat)
          case atStart => exact ⟨0, by go_num, Nat.zero_le _, hidden (fun k h => by omega), hidden hbf⟩
          case round =>
            clear hbf
            obtain ⟨i, rfl, hi, HF, HB⟩ := hrel
            by_cases hlt : i < t.length
            · have qi : (i : Int) < (t.length : Int) := by omega
              obtain ⟨x, hx⟩ : ∃ x, t[i]? = some x := ⟨_, List.getElem?_eq_getElem hlt⟩
              obtain ⟨l, z0, z1, z2, z3, z4, hPc⟩ := HAt.out i x hx
              obtain ⟨Al, cl, rfl, _, _⟩ := Rd.val hPc
              generalize hll : x.lead.length = nl at *
              clear hll hPc
              have hot : Hid (outAt t i = (decide (x.kind = 3) && decide (x.n = -2))) := hidden (by unfold outAt; rw [hx])
              have hbw := HB.out
              replace z0 := cellF z0 hbw; replace z1 := cellF z1 hbw; replace z2 := cellF z2 hbw; replace z3 := cellF z3 hbw; replace z4 := cellF z4 hbw
              have hbz := hbw.size
              have HF2 := hidden (fun (e : outAt t i = false) => (show ∀ k, k < i + 1 → outAt t k = false from fun k hk => by
                by_cases e2 : k = i
                · subst e2; exact e
                · exact HF.out k (by omega)))
              by_cases h3 : x.kind = 3
              · have q3 : (x.kind == 3) = true := by rw [h3]; rfl
                by_cases h2 : x.n = -2
                · have q2 : (x.n == -2) = true := by rw [h2]; rfl
                  have he : Hid (res = false) := hidden (by
                    rw [hE2.out]
                    exact decide_eq_false (fun hall => by have := hall i hlt; rw [hot.out, decide_eq_true h3, decide_eq_true h2] at this; cases this))
                  clear hE2 HF HF2 hot HB h3 h2
                  go_wp2
                  go_ret
                  exact ⟨by rw [he.out]; rfl, hbw.alloc hbz _⟩
                · have q2 : (x.n == -2) = false := beq_eq_false_iff_ne.2 h2
                  have HF3 := hidden (HF2.out (by rw [hot.out, decide_eq_false h2, Bool.and_false]))
                  clear HF HF2 hot h3 h2
                  go_wp2
                  go_roundw
                  case rel => exact ⟨i + 1, by go_num, by omega, HF3, hidden (hbw.alloc hbz _)⟩
                  case measure => simp [intOf]; omega
              · have q3 : (x.kind == 3) = false := beq_eq_false_iff_ne.2 h3
                have HF3 := hidden (HF2.out (by rw [hot.out, decide_eq_false h3, Bool.false_and]))
                clear HF HF2 hot h3
                go_wp2
                go_roundw
                case rel => exact ⟨i + 1, by go_num, by omega, HF3, hidden (hbw.alloc hbz _)⟩
                case measure => simp [intOf]; omega
            · obtain rfl : i = t.length := by omega
              have qi : ¬ (t.length : Int) < (t.length : Int) := by omega
              have he : Hid (res = true) := hidden (by rw [hE2.out]; exact decide_eq_true HF.out)
              have hbw := HB.out
              clear HF HB hE2
              go_wp2
              go_ret
              exact ⟨by rw [he.out]; rfl, hbw⟩
        · have qw : decide (0 ≤ wa) = true := decide_eq_true (by omega)
          have he : Hid (res = false) := hidden (by rw [hE.out, hr, htr, hof.out, decide_eq_false hw]; rfl)
          go_wp2_with fail
          refine wp_region_ext (by kernel_rfl) (by kernel_rfl) ?_
          repeat (go_big_quiet_step ((first | (go_at_call 23; exact Ext.call (HRt.out _ (hb1.trans ((Ext.below _).mono hz1)))) | (go_at_call 25; exact Ext.call (HAr.out _ (hb1.trans ((Ext.below _).mono hz1)))) | (go_at_call 26; exact Ext.call (HOf2.out _ (Ext.below _))) | (go_at_call 27; exact Ext.call (HWr2.out _ (Ext.below _))))))
          refine wpQuiet_nil ?_
          intro w2 hb2
          have hbf := hb1.trans (hb2.mono hz1)
          clear e0 e1 e2 e3 e4 e5 e6 e7 e8 e9 e10 e11 x0 x1 x2 x3 x4 x5 x6 x7 y0 y1 y2 y3 e12 e13 e14 e15 e16 z0 z1 z2 z3 z4
          go_wp2
          go_ret
          exact ⟨by rw [he.out]; rfl, hbf⟩
end Go.Proofs.Ytmmhkjdnejeooaa.T
