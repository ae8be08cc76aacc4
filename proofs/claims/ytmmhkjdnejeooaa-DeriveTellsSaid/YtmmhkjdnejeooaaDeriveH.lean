/-
  The document's whole trees and parts: facsimileref30.Wrong, Fits, Part.
-/
import Derived.Test.YtmmhkjdnejeooaaDeriveG
import Derived.Test.YtmmhkjdnejeooaaT5
namespace Go.Proofs.Ytmmhkjdnejeooaa.T
open Go.RowKit Go.Shelf

theorem wrong_low (g : Gram) (t : List Node) : wrongAll g t = -1 ∨ 0 ≤ wrongAll g t := by
  rcases wrong_cases g t with ⟨h, _⟩ | ⟨j, _, h, _⟩
  · exact .inl h
  · right; omega
theorem wrongD_low (g : Gram) (t : List Node) : decide (wrongD g t < 0) = (wrongD g t == -1) := by
  have h := wrong_low g t
  rw [Bool.eq_iff_iff, decide_eq_true_iff, beq_iff_eq]
  unfold wrongD
  split
  · split
    · omega
    · omega
  · omega
/-- Is a node none that may not be in a part? -/
noncomputable def okR (g : Gram) (t : List Node) (i : Nat) : Bool := decide (kindAt t i ≠ 1) && (!(outAt t i) && fitsD g t i)
theorem partR_is {g : Gram} {t : List Node} {y : Item} (ho : ofAt g t 0 y = true) : (decide (wrongAll g t < 0) && decide (∀ i, i < t.length → outAt t i = false)) = decide (∀ i, i < t.length → okR g t i = true) := by
  rw [Bool.eq_iff_iff, Bool.and_eq_true, decide_eq_true_iff, decide_eq_true_iff, decide_eq_true_iff]
  have hk0 : kindAt t 0 ≠ 1 := by
    intro e
    unfold ofAt at ho
    unfold kindAt at e
    cases h : t[0]? with
    | none => rw [h] at e; cases e
    | some x =>
      rw [h] at ho e
      simp only at ho e
      unfold ofD at ho
      rw [ruleD_out (fun e2 => by omega) (fun e2 => by omega), e] at ho
      split at ho
      · simp at ho; omega
      · simp at ho
  constructor
  · rintro ⟨h1, h2⟩ i hi
    have hf : ∀ k, k < t.length → fitsD g t k = true := by
      rcases wrong_cases g t with ⟨_, h⟩ | ⟨j, _, h, _⟩
      · exact h
      · omega
    have hk : kindAt t i ≠ 1 := by
      by_cases e : i = 0
      · subst e; exact hk0
      · intro e1
        have := hf i hi
        unfold fitsD at this
        unfold kindAt at e1
        cases hx : t[i]? with
        | none => rw [hx] at this; cases this
        | some x =>
          rw [hx] at this e1
          simp only at this e1
          rw [if_pos e1, decide_eq_false e] at this
          cases this
    unfold okR
    rw [decide_eq_true hk, h2 i hi, hf i hi]
    rfl
  · intro h
    have h3 : ∀ i, i < t.length → outAt t i = false ∧ fitsD g t i = true := fun i hi => by
      have := h i hi
      unfold okR at this
      simp only [Bool.and_eq_true, Bool.not_eq_true'] at this
      exact ⟨this.2.1, this.2.2⟩
    refine ⟨?_, fun i hi => (h3 i hi).1⟩
    rw [wrong_none (fun k hk => (h3 k hk).2)]
    decide

set_option maxRecDepth 20000 in
set_option maxHeartbeats 16000000 in
theorem ref_Wrong30 (a b c v : Value) (g : Gram) (t : List Node) (w : World) (HG : GramIs w (Old w) a b c g) (hsm : Small g) (HN : Nds w (Old w) v t) (h4 : t.length ≤ 1000000) :
    Calls Try.prog 13 #[.agg (gramCells a b c g), v] w fun r w' => r = .returned (.int .i64 (wrongD g t)) ∧ Below w.heap.size w w' := by
  have HRt := hidden (fun (w' : World) (hb : Below w.heap.size w w') => ref_Right21 a b c g w' (HG.old hb) hsm.toks hsm.rules hsm.prods hsm.names)
  have HAr := hidden (fun (w' : World) (hb : Below w.heap.size w w') => ref_right v t w' (by omega) (HN.old hb))
  have HFt := hidden (fun (hr : rightB g = true) (ht : Tree t) (i : Nat) (hi : i < t.length) (w' : World) (hb : Below w.heap.size w w') => ref_fits30 a b c v g t i w' (HG.old hb) hsm hr (HN.old hb) ht hi h4)
  have hE : Hid (wrongD g t = if rightB g = true then (if treeB t = true ∧ kindAt t 0 = 1 then wrongAll g t else 0) else -1) := hidden rfl
  have hAt := hidden (fun (j : Nat) (hj : j < t.length) (h : ∀ k, k < j → fitsD g t k = true) (hb : fitsD g t j = false) => wrong_at hj h hb)
  have hNo := hidden (fun (h : ∀ k, k < t.length → fitsD g t k = true) => wrong_none h)
  have HND := hidden HN
  obtain ⟨⟨A1, k1, rfl, v1, m1⟩, ⟨A2, k2, rfl, v2, m2⟩, ⟨A3, k3, rfl, v3, m3⟩⟩ := HG.vals
  obtain ⟨A, cc, rfl, hc1, hc2⟩ := HN.value
  generalize wrongD g t = res at *
  unfold gramCells at *
  have hb1 : Below w.heap.size w (w.alloc (.cells #[.slice A1 g.toks.length k1, .slice A2 g.rules.length k2, .slice A3 g.prods.length k3, .int .i64 g.start, .int .i64 g.states, .int .i64 g.text, .int .i64 g.nodes, .int .i64 g.pairs] 26)) := (Below.refl _ _).alloc (Nat.le_refl _) _
  have HB1 : Hid (Holds (w.alloc (.cells #[.slice A1 g.toks.length k1, .slice A2 g.rules.length k2, .slice A3 g.prods.length k3, .int .i64 g.start, .int .i64 g.states, .int .i64 g.text, .int .i64 g.nodes, .int .i64 g.pairs] 26)) w.heap.size 26 #[.slice A1 g.toks.length k1, .slice A2 g.rules.length k2, .slice A3 g.prods.length k3, .int .i64 g.start, .int .i64 g.states, .int .i64 g.text, .int .i64 g.nodes, .int .i64 g.pairs]) := hidden (Holds.new w _ _)
  clear HG HN hsm
  go_enter Try.func13, Try.ntmps13
  go_upto_region 1 with fail
  generalize (w.alloc (.cells #[.slice A1 g.toks.length k1, .slice A2 g.rules.length k2, .slice A3 g.prods.length k3, .int .i64 g.start, .int .i64 g.states, .int .i64 g.text, .int .i64 g.nodes, .int .i64 g.pairs] 26)) = w1 at *
  obtain ⟨x0, x1, x2, x3, x4, x5, x6, x7⟩ := eightR HB1.out
  have HX := hidden (HRt.out _ hb1)
  go_wp2_with fail
  refine HX.out.mono ?_
  rintro r w2 ⟨rfl, hb2⟩
  replace HB1 := hidden (HB1.out.below hb2 HB1.out.lt)
  replace hb1 := hb1.trans (hb2.mono hb1.size)
  clear x0 x1 x2 x3 x4 x5 x6 x7 hb2 HX HRt
  cases hr : rightB g
  · have he : Hid (res = -1) := hidden (by rw [hE.out, hr, if_neg Bool.false_ne_true])
    go_wp2
    go_ret
    exact ⟨by rw [he.out]; rfl, hb1⟩
  · have HX := hidden (HAr.out _ hb1)
    go_wp2_with fail
    refine HX.out.mono ?_
    rintro r w3 ⟨rfl, hb2⟩
    replace HB1 := hidden (HB1.out.below hb2 HB1.out.lt)
    replace hb1 := hb1.trans (hb2.mono hb1.size)
    clear hb2 HX HAr
    cases htr : treeB t
    · have he : Hid (res = 0) := hidden (by rw [hE.out, if_pos hr, if_neg (by rw [htr]; simp)])
      go_wp2
      go_ret
      exact ⟨by rw [he.out]; rfl, hb1⟩
    · have ht := treeB_iff.1 htr
      have ht0 := tree_len ht
      obtain ⟨bt, ot, ct, hvt, _, _, _, hat⟩ := HND.out.open_ (by intro e; rw [e] at ht0; simp at ht0)
      cases hvt
      obtain ⟨x, hx⟩ : ∃ x, t[0]? = some x := ⟨_, List.getElem?_eq_getElem ht0⟩
      obtain ⟨l, z0, _⟩ := hat 0 x hx
      have hk : kindAt t 0 = x.kind := by unfold kindAt; rw [hx]
      rw [Nat.zero_mul, Nat.add_zero] at z0
      have q0 : (0 : Int) < (t.length : Int) := by omega
      replace z0 := cellF z0 hb1
      by_cases h1 : x.kind = 1
      · have he : Hid (res = wrongAll g t) := hidden (by rw [hE.out, if_pos hr, if_pos ⟨htr, hk.trans h1⟩])
        have q1 : (x.kind != 1) = false := by rw [h1]; rfl
        have HFt2 := hidden (HFt.out hr ht)
        clear HFt hE hat hk hx HND hr htr ht
        generalize wrongAll g t = wa at *
        go_wp2
        clear z0
        go_loopw [5] (fun iv wr => ∃ i : Nat, iv = .int .i64 i ∧ i ≤ t.length ∧ Hid (∀ k, k < i → fitsD g t k = true) ∧ Hid (Below w3.heap.size w3 wr)) (fun iv wr => t.length - (intOf iv).toNat)
        case atStart => exact ⟨0, by go_num, Nat.zero_le _, hidden (fun k h => by omega), hidden (Below.refl _ _)⟩
        case round =>
          obtain ⟨i, rfl, hi, HF, HB⟩ := hrel
          have hbw := hb1.trans (HB.out.mono hb1.size)
          by_cases hlt : i < t.length
          · have qi : (i : Int) < (t.length : Int) := by omega
            have HX := hidden (HFt2.out i hlt wr hbw)
            have hA2 := hidden (fun hb => hAt.out i hlt HF.out hb)
            have hF2 := hidden (fun (e : fitsD g t i = true) => (show ∀ k, k < i + 1 → fitsD g t k = true from fun k hk => by
              by_cases e2 : k = i
              · subst e2; exact e
              · exact HF.out k (by omega)))
            obtain ⟨x0, x1, x2, x3, x4, x5, x6, x7⟩ := eightR (HB1.out.below HB.out HB1.out.lt)
            clear HF
            generalize fitsD g t i = f at *
            go_wp2_with fail
            refine HX.out.mono ?_
            rintro r w5 ⟨rfl, hb5⟩
            have hbf := hbw.trans (hb5.mono hbw.size)
            replace HB := hidden (HB.out.trans (hb5.mono HB.out.size))
            clear HX hb5 x0 x1 x2 x3 x4 x5 x6 x7 hbw
            cases f
            · have he2 : Hid (res = (i : Int)) := hidden (he.out.trans (hA2.out rfl))
              clear hA2 hF2 HB he
              go_wp2
              go_ret
              exact ⟨by rw [he2.out]; rfl, hbf⟩
            · have HF3 := hidden (hF2.out rfl)
              clear hA2 hF2
              go_wp2
              go_roundw
              case rel => exact ⟨i + 1, by go_num, by omega, HF3, HB⟩
              case measure => simp [intOf]; omega
          · obtain rfl : i = t.length := by omega
            have qi : ¬ (t.length : Int) < (t.length : Int) := by omega
            have he2 : Hid (res = -1) := hidden (he.out.trans (hNo.out HF.out))
            clear HF HB he
            go_wp2
            go_ret
            exact ⟨by rw [he2.out]; rfl, hbw⟩
      · have he : Hid (res = 0) := hidden (by rw [hE.out, if_pos hr, if_neg (fun e => h1 (hk.symm.trans e.2))])
        have q1 : (x.kind != 1) = true := by simpa using h1
        go_wp2
        go_ret
        exact ⟨by rw [he.out]; rfl, hb1⟩

set_option maxRecDepth 20000 in
set_option maxHeartbeats 8000000 in
theorem ref_Fits30 (a b c v : Value) (g : Gram) (t : List Node) (w : World) (HG : GramIs w (Old w) a b c g) (hsm : Small g) (HN : Nds w (Old w) v t) (h4 : t.length ≤ 1000000) :
    Calls Try.prog 9 #[.agg (gramCells a b c g), v] w fun r w' => r = .returned (.bool (fitsB g t)) ∧ Below w.heap.size w w' := by
  have HRt := hidden (fun (w' : World) (hb : Below w.heap.size w w') => ref_Right21 a b c g w' (HG.old hb) hsm.toks hsm.rules hsm.prods hsm.names)
  have HWr := hidden (fun (w' : World) (hb : Below w.heap.size w w') => ref_Wrong30 a b c v g t w' (HG.old hb) hsm (HN.old hb) h4)
  have hE : Hid (fitsB g t = (rightB g && (wrongD g t == -1))) := hidden (by unfold fitsB; rw [wrongD_low])
  obtain ⟨⟨A1, k1, rfl, v1, m1⟩, ⟨A2, k2, rfl, v2, m2⟩, ⟨A3, k3, rfl, v3, m3⟩⟩ := HG.vals
  generalize fitsB g t = res at *
  generalize wrongD g t = wd at *
  unfold gramCells at *
  have hb1 : Below w.heap.size w (w.alloc (.cells #[.slice A1 g.toks.length k1, .slice A2 g.rules.length k2, .slice A3 g.prods.length k3, .int .i64 g.start, .int .i64 g.states, .int .i64 g.text, .int .i64 g.nodes, .int .i64 g.pairs] 26)) := (Below.refl _ _).alloc (Nat.le_refl _) _
  have HB1 : Hid (Holds (w.alloc (.cells #[.slice A1 g.toks.length k1, .slice A2 g.rules.length k2, .slice A3 g.prods.length k3, .int .i64 g.start, .int .i64 g.states, .int .i64 g.text, .int .i64 g.nodes, .int .i64 g.pairs] 26)) w.heap.size 26 #[.slice A1 g.toks.length k1, .slice A2 g.rules.length k2, .slice A3 g.prods.length k3, .int .i64 g.start, .int .i64 g.states, .int .i64 g.text, .int .i64 g.nodes, .int .i64 g.pairs]) := hidden (Holds.new w _ _)
  clear HG HN hsm
  go_enter Try.func9, Try.ntmps9
  go_upto_region 1 with fail
  generalize (w.alloc (.cells #[.slice A1 g.toks.length k1, .slice A2 g.rules.length k2, .slice A3 g.prods.length k3, .int .i64 g.start, .int .i64 g.states, .int .i64 g.text, .int .i64 g.nodes, .int .i64 g.pairs] 26)) = w1 at *
  obtain ⟨x0, x1, x2, x3, x4, x5, x6, x7⟩ := eightR HB1.out
  have HX := hidden (HRt.out _ hb1)
  go_wp2_with fail
  refine HX.out.mono ?_
  rintro r w2 ⟨rfl, hb2⟩
  replace HB1 := hidden (HB1.out.below hb2 HB1.out.lt)
  replace hb1 := hb1.trans (hb2.mono hb1.size)
  clear x0 x1 x2 x3 x4 x5 x6 x7 hb2 HX HRt
  cases hr : rightB g
  · have he : Hid (res = false) := hidden (by rw [hE.out, hr]; rfl)
    go_wp2
    go_ret
    exact ⟨by rw [he.out]; rfl, hb1⟩
  · have he : Hid (res = (wd == -1)) := hidden (by rw [hE.out, hr, Bool.true_and])
    have HX := hidden (HWr.out _ hb1)
    obtain ⟨x0, x1, x2, x3, x4, x5, x6, x7⟩ := eightR HB1.out
    go_wp2_with fail
    refine HX.out.mono ?_
    rintro r w3 ⟨rfl, hb2⟩
    replace hb1 := hb1.trans (hb2.mono hb1.size)
    clear x0 x1 x2 x3 x4 x5 x6 x7 hb2 HX HWr
    go_wp2
    go_ret
    exact ⟨by rw [he.out]; rfl, hb1⟩

set_option maxRecDepth 20000 in
set_option maxHeartbeats 16000000 in
theorem ref_Part30 (a b c v : Value) (g : Gram) (t : List Node) (y : Item) (w : World) (HG : GramIs w (Old w) a b c g) (hsm : Small g) (HN : Nds w (Old w) v t) (h4 : t.length ≤ 1000000) :
    Calls Try.prog 11 #[.agg (gramCells a b c g), v, .agg (itV y)] w fun r w' => r = .returned (.bool (partD g t y)) ∧ Below w.heap.size w w' := by
  have HRt := hidden (fun (w' : World) (hb : Below w.heap.size w w') => ref_Right21 a b c g w' (HG.old hb) hsm.toks hsm.rules hsm.prods hsm.names)
  have HAr := hidden (fun (w' : World) (hb : Below w.heap.size w w') => ref_right v t w' (by omega) (HN.old hb))
  have HOf := hidden (fun (hr : rightB g = true) (x : Node) (l : Value) (w' : World) (hb : Below w.heap.size w w') => ref_of30 a b c l g x y w' (HG.old hb) hsm hr)
  have HFt := hidden (fun (hr : rightB g = true) (ht : Tree t) (i : Nat) (hi : i < t.length) (w' : World) (hb : Below w.heap.size w w') => ref_fits30 a b c v g t i w' (HG.old hb) hsm hr (HN.old hb) ht hi h4)
  have hE : Hid (partD g t y = (rightB g && (treeB t && (ofAt g t 0 y && (decide (wrongAll g t < 0) && decide (∀ i, i < t.length → outAt t i = false)))))) := hidden rfl
  have hP := hidden (fun (ho : ofAt g t 0 y = true) => partR_is (g := g) (t := t) ho)
  have HND := hidden HN
  obtain ⟨⟨A1, k1, rfl, v1, m1⟩, ⟨A2, k2, rfl, v2, m2⟩, ⟨A3, k3, rfl, v3, m3⟩⟩ := HG.vals
  obtain ⟨A, cc, rfl, hc1, hc2⟩ := HN.value
  generalize partD g t y = res at *
  obtain ⟨rl, yn, gp, ii⟩ := y
  unfold gramCells itV at *
  dsimp only at *
  have hb1 : Below w.heap.size w ((w.alloc (.cells #[.slice A1 g.toks.length k1, .slice A2 g.rules.length k2, .slice A3 g.prods.length k3, .int .i64 g.start, .int .i64 g.states, .int .i64 g.text, .int .i64 g.nodes, .int .i64 g.pairs] 26)).alloc (.cells #[.bool rl, .int .i64 yn, .int .i64 gp, .int .i64 ii] 30)) := ((Below.refl _ _).alloc (Nat.le_refl _) _).alloc (by simp) _
  have HB1 : Hid (Holds ((w.alloc (.cells #[.slice A1 g.toks.length k1, .slice A2 g.rules.length k2, .slice A3 g.prods.length k3, .int .i64 g.start, .int .i64 g.states, .int .i64 g.text, .int .i64 g.nodes, .int .i64 g.pairs] 26)).alloc (.cells #[.bool rl, .int .i64 yn, .int .i64 gp, .int .i64 ii] 30)) w.heap.size 26 #[.slice A1 g.toks.length k1, .slice A2 g.rules.length k2, .slice A3 g.prods.length k3, .int .i64 g.start, .int .i64 g.states, .int .i64 g.text, .int .i64 g.nodes, .int .i64 g.pairs]) := hidden (by repeat (first | (with_reducible assumption) | ((with_reducible refine holds_new ?_); (focus (first | rfl | (simp; done)))) | (with_reducible refine Holds.alloc ?_ _) | (with_reducible refine Holds.drew ?_)))
  have HB2 : Hid (Holds ((w.alloc (.cells #[.slice A1 g.toks.length k1, .slice A2 g.rules.length k2, .slice A3 g.prods.length k3, .int .i64 g.start, .int .i64 g.states, .int .i64 g.text, .int .i64 g.nodes, .int .i64 g.pairs] 26)).alloc (.cells #[.bool rl, .int .i64 yn, .int .i64 gp, .int .i64 ii] 30)) (w.heap.size + 1) 30 #[.bool rl, .int .i64 yn, .int .i64 gp, .int .i64 ii]) := hidden (Holds.new_at (by simp))
  clear HG HN hsm
  go_enter Try.func11, Try.ntmps11
  go_upto_region 1 with fail
  generalize ((w.alloc (.cells #[.slice A1 g.toks.length k1, .slice A2 g.rules.length k2, .slice A3 g.prods.length k3, .int .i64 g.start, .int .i64 g.states, .int .i64 g.text, .int .i64 g.nodes, .int .i64 g.pairs] 26)).alloc (.cells #[.bool rl, .int .i64 yn, .int .i64 gp, .int .i64 ii] 30)) = w1 at *
  obtain ⟨x0, x1, x2, x3, x4, x5, x6, x7⟩ := eightR HB1.out
  have y0 := HB2.out.cell 0; have y1 := HB2.out.cell 1; have y2 := HB2.out.cell 2; have y3 := HB2.out.cell 3
  have e0 := Ext.cell x0; have e1 := Ext.cell x1; have e2 := Ext.cell x2; have e3 := Ext.cell x3; have e4 := Ext.cell x4; have e5 := Ext.cell x5; have e6 := Ext.cell x6; have e7 := Ext.cell x7
  have e8 := Ext.cell y0; have e9 := Ext.cell y1; have e10 := Ext.cell y2; have e11 := Ext.cell y3
  have hz1 := hb1.size
  cases hr : rightB g
  · rw [hr] at HRt
    have he : Hid (res = false) := hidden (by rw [hE.out, hr]; rfl)
    go_wp2_with fail
    refine wp_region_ext (by kernel_rfl) (by kernel_rfl) ?_
    repeat (go_big_quiet_step ((first | (go_at_call 24; exact Ext.call (HRt.out _ (hb1.trans ((Ext.below _).mono hz1)))) | (go_at_call 28; exact Ext.call (HAr.out _ (hb1.trans ((Ext.below _).mono hz1)))) | (go_at_call 29; exact Ext.call (HOf2.out _ (hb1.trans ((Ext.below _).mono hz1)))))))
    refine wpQuiet_nil ?_
    intro w2 hb2
    have hbf := hb1.trans (hb2.mono hz1)
    clear e0 e1 e2 e3 e4 e5 e6 e7 e8 e9 e10 e11 x0 x1 x2 x3 x4 x5 x6 x7 y0 y1 y2 y3
    go_wp2
    go_ret
    exact ⟨by rw [he.out]; rfl, hbf⟩
  · have HR0 := hidden hr
    rw [hr] at HRt
    cases htr : treeB t
    · rw [htr] at HAr
      have he : Hid (res = false) := hidden (by rw [hE.out, hr, htr]; rfl)
      clear hr HOf HFt
      go_wp2_with fail
      refine wp_region_ext (by kernel_rfl) (by kernel_rfl) ?_
      repeat (go_big_quiet_step ((first | (go_at_call 24; exact Ext.call (HRt.out _ (hb1.trans ((Ext.below _).mono hz1)))) | (go_at_call 28; exact Ext.call (HAr.out _ (hb1.trans ((Ext.below _).mono hz1)))) | (go_at_call 29; exact Ext.call (HOf2.out _ (hb1.trans ((Ext.below _).mono hz1)))))))
      refine wpQuiet_nil ?_
      intro w2 hb2
      have hbf := hb1.trans (hb2.mono hz1)
      clear e0 e1 e2 e3 e4 e5 e6 e7 e8 e9 e10 e11 x0 x1 x2 x3 x4 x5 x6 x7 y0 y1 y2 y3
      go_wp2
      go_ret
      exact ⟨by rw [he.out]; rfl, hbf⟩
    · rw [htr] at HAr
      have ht := treeB_iff.1 htr
      have ht0 := tree_len ht
      obtain ⟨bt, ot, ct, hvt, _, _, _, hat⟩ := HND.out.open_ (by intro e; rw [e] at ht0; simp at ht0)
      cases hvt
      obtain ⟨x, hx⟩ : ∃ x, t[0]? = some x := ⟨_, List.getElem?_eq_getElem ht0⟩
      obtain ⟨l, z0, z1, z2, z3, z4, _⟩ := hat 0 x hx
      have hof : Hid (ofAt g t 0 ⟨rl, yn, gp, ii⟩ = ofD g x ⟨rl, yn, gp, ii⟩) := hidden (by unfold ofAt; rw [hx])
      have q0 : (0 : Int) < (t.length : Int) := by omega
      rw [Nat.zero_mul, Nat.add_zero] at z0 z1 z2 z3 z4
      have HAt := hidden hat
      have HOf2 := hidden (HOf.out HR0.out x l)
      have HFt2 := hidden (HFt.out HR0.out ht)
      unfold ndV at HOf2
      clear HOf HFt hat hx
      replace z0 := cellF z0 hb1; replace z1 := cellF z1 hb1; replace z2 := cellF z2 hb1; replace z3 := cellF z3 hb1; replace z4 := cellF z4 hb1
      have e12 := Ext.cell z0; have e13 := Ext.cell z1; have e14 := Ext.cell z2; have e15 := Ext.cell z3; have e16 := Ext.cell z4
      have hE1 : Hid (res = (ofD g x ⟨rl, yn, gp, ii⟩ && (decide (wrongAll g t < 0) && decide (∀ i, i < t.length → outAt t i = false)))) := hidden (by rw [hE.out, hr, htr, hof.out]; rfl)
      have hP1 := hidden (fun (e : ofD g x ⟨rl, yn, gp, ii⟩ = true) => hP.out (hof.out.trans e))
      clear hE hP hof hr htr ht HR0
      generalize ofD g x ⟨rl, yn, gp, ii⟩ = fo at *
      cases fo
      · have he : Hid (res = false) := hidden (by rw [hE1.out]; rfl)
        clear hE1 hP1
        go_wp2_with fail
        refine wp_region_ext (by kernel_rfl) (by kernel_rfl) ?_
        repeat (go_big_quiet_step ((first | (go_at_call 24; exact Ext.call (HRt.out _ (hb1.trans ((Ext.below _).mono hz1)))) | (go_at_call 28; exact Ext.call (HAr.out _ (hb1.trans ((Ext.below _).mono hz1)))) | (go_at_call 29; exact Ext.call (HOf2.out _ (hb1.trans ((Ext.below _).mono hz1)))))))
        refine wpQuiet_nil ?_
        intro w2 hb2
        have hbf := hb1.trans (hb2.mono hz1)
        clear e0 e1 e2 e3 e4 e5 e6 e7 e8 e9 e10 e11 x0 x1 x2 x3 x4 x5 x6 x7 y0 y1 y2 y3 e12 e13 e14 e15 e16 z0 z1 z2 z3 z4
        go_wp2
        go_ret
        exact ⟨by rw [he.out]; rfl, hbf⟩
      · have hE2 : Hid (res = decide (∀ i, i < t.length → okR g t i = true)) := hidden (by rw [hE1.out, Bool.true_and, hP1.out rfl])
        clear hE1 hP1
        go_wp2_with fail
        refine wp_region_ext (by kernel_rfl) (by kernel_rfl) ?_
        repeat (go_big_quiet_step ((first | (go_at_call 24; exact Ext.call (HRt.out _ (hb1.trans ((Ext.below _).mono hz1)))) | (go_at_call 28; exact Ext.call (HAr.out _ (hb1.trans ((Ext.below _).mono hz1)))) | (go_at_call 29; exact Ext.call (HOf2.out _ (hb1.trans ((Ext.below _).mono hz1)))))))
        refine wpQuiet_nil ?_
        intro w2 hb2
        have hbf := hb1.trans (hb2.mono hz1)
        clear e0 e1 e2 e3 e4 e5 e6 e7 e8 e9 e10 e11 x0 x1 x2 x3 x4 x5 x6 x7 y0 y1 y2 y3 e12 e13 e14 e15 e16 z0 z1 z2 z3 z4
        have hB12 := hb2
        clear HOf2 HND hbf
        go_wp2
        go_loopw [7] (fun iv wr => ∃ i : Nat, iv = .int .i64 i ∧ i ≤ t.length ∧ Hid (∀ k, k < i → okR g t k = true) ∧ Hid (Below w1.heap.size w1 wr)) (fun iv wr => t.length - (intOf iv).toNat)
        case atStart => exact ⟨0, by go_num, Nat.zero_le _, hidden (fun k h => by omega), hidden hB12⟩
        case round =>
          clear hB12
          obtain ⟨i, rfl, hi, HF, HB⟩ := hrel
          have hbw := hb1.trans (HB.out.mono hz1)
          by_cases hlt : i < t.length
          · have qi : (i : Int) < (t.length : Int) := by omega
            obtain ⟨x, hx⟩ : ∃ x, t[i]? = some x := ⟨_, List.getElem?_eq_getElem hlt⟩
            obtain ⟨l, z0, z1, _⟩ := HAt.out i x hx
            have hok : Hid (okR g t i = (decide (x.kind ≠ 1) && (!(decide (x.kind = 3) && decide (x.n = -2)) && fitsD g t i))) := hidden (by unfold okR kindAt outAt; rw [hx])
            replace z0 := cellF z0 hbw; replace z1 := cellF z1 hbw
            have HX := hidden (HFt2.out i hlt wr hbw)
            have HF2 := hidden (fun (e : okR g t i = true) => (show ∀ k, k < i + 1 → okR g t k = true from fun k hk => by
              by_cases e2 : k = i
              · subst e2; exact e
              · exact HF.out k (by omega)))
            have hF0 := hidden (fun (e : okR g t i = false) => (show res = false from by
              rw [hE2.out]
              exact decide_eq_false (fun hall => by have := hall i hlt; rw [e] at this; cases this)))
            obtain ⟨x0, x1, x2, x3, x4, x5, x6, x7⟩ := eightR (HB1.out.below HB.out HB1.out.lt)
            generalize fitsD g t i = f at *
            clear hx HF
            by_cases h1 : x.kind = 1
            · have q1 : (x.kind == 1) = true := by rw [h1]; rfl
              have he : Hid (res = false) := hidden (hF0.out (by rw [hok.out, decide_eq_false (by rw [h1]; simp)]; rfl))
              clear hE2 HF2 hF0 hok HB HX h1
              go_wp2
              go_ret
              exact ⟨by rw [he.out]; rfl, hbw⟩
            · have q1 : (x.kind == 1) = false := beq_eq_false_iff_ne.2 h1
              have hok2 : Hid (okR g t i = (!(decide (x.kind = 3) && decide (x.n = -2)) && f)) := hidden (by rw [hok.out, decide_eq_true h1]; rfl)
              clear hok h1
              by_cases h3 : x.kind = 3
              · have q3 : (x.kind == 3) = true := by rw [h3]; rfl
                by_cases h2 : x.n = -2
                · have q2 : (x.n == -2) = true := by rw [h2]; rfl
                  have he : Hid (res = false) := hidden (hF0.out (by rw [hok2.out, decide_eq_true h3, decide_eq_true h2]; rfl))
                  clear hE2 HF2 hF0 hok2 HB HX h3 h2
                  go_wp2
                  go_ret
                  exact ⟨by rw [he.out]; rfl, hbw⟩
                · have q2 : (x.n == -2) = false := beq_eq_false_iff_ne.2 h2
                  have hok3 : Hid (okR g t i = f) := hidden (by rw [hok2.out, decide_eq_false h2, Bool.and_false]; rfl)
                  clear hok2 h3 h2
                  go_wp2_with fail
                  refine HX.out.mono ?_
                  rintro r w5 ⟨rfl, hb5⟩
                  have hbf := hbw.trans (hb5.mono hbw.size)
                  replace HB := hidden (HB.out.trans (hb5.mono HB.out.size))
                  clear HX hb5 x0 x1 x2 x3 x4 x5 x6 x7 hbw z0 z1
                  cases f
                  · have he : Hid (res = false) := hidden (hF0.out hok3.out)
                    clear hE2 HF2 hF0 hok3 HB
                    go_wp2
                    go_ret
                    exact ⟨by rw [he.out]; rfl, hbf⟩
                  · have HF3 := hidden (HF2.out hok3.out)
                    clear HF2 hF0 hok3
                    go_wp2
                    go_roundw
                    case rel => exact ⟨i + 1, by go_num, by omega, HF3, HB⟩
                    case measure => simp [intOf]; omega
              · have q3 : (x.kind == 3) = false := beq_eq_false_iff_ne.2 h3
                have hok3 : Hid (okR g t i = f) := hidden (by rw [hok2.out, decide_eq_false h3, Bool.false_and]; rfl)
                clear hok2 h3
                go_wp2_with fail
                refine HX.out.mono ?_
                rintro r w5 ⟨rfl, hb5⟩
                have hbf := hbw.trans (hb5.mono hbw.size)
                replace HB := hidden (HB.out.trans (hb5.mono HB.out.size))
                clear HX hb5 x0 x1 x2 x3 x4 x5 x6 x7 hbw z0 z1
                cases f
                · have he : Hid (res = false) := hidden (hF0.out hok3.out)
                  clear hE2 HF2 hF0 hok3 HB
                  go_wp2
                  go_ret
                  exact ⟨by rw [he.out]; rfl, hbf⟩
                · have HF3 := hidden (HF2.out hok3.out)
                  clear HF2 hF0 hok3
                  go_wp2
                  go_roundw
                  case rel => exact ⟨i + 1, by go_num, by omega, HF3, HB⟩
                  case measure => simp [intOf]; omega
          · obtain rfl : i = t.length := by omega
            have qi : ¬ (t.length : Int) < (t.length : Int) := by omega
            have he : Hid (res = true) := hidden (by rw [hE2.out]; exact decide_eq_true HF.out)
            clear HF HB hE2
            go_wp2
            go_ret
            exact ⟨by rw [he.out]; rfl, hbw⟩
end Go.Proofs.Ytmmhkjdnejeooaa.T
