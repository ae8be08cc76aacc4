/-
  The document's way of telling an item's part, and rows of kids: facsimileref30.of, row.
-/
import Derived.Test.YtmmhkjdnejeooaaDeriveC
import Derived.Test.YtmmhkjdnejeooaaDeriveD
namespace Go.Proofs.Ytmmhkjdnejeooaa.T
open Go.RowKit Go.Shelf

set_option maxRecDepth 20000 in
set_option maxHeartbeats 16000000 in
theorem ref_of30 (a b c l : Value) (g : Gram) (x : Node) (y : Item) (w : World) (HG : GramIs w (Old w) a b c g) (hsm : Small g) (hr : rightB g = true) :
    Calls Try.prog 29 #[.agg (gramCells a b c g), .agg (ndV x l), .agg (itV y)] w fun r w' => r = .returned (.bool (ofD g x y)) ∧ Below w.heap.size w w' := by
  have HRl := hidden (fun (w' : World) (hb : Below w.heap.size w w') => (show Calls Try.prog 15 #[.agg (gramCells a b c g), .agg (ndV x l)] w' fun r w'' => r = .returned (.int .i64 (ruleD g x)) ∧ Below w'.heap.size w' w'' from by
    have := ref_Rule30 a b c l g x w' (HG.old hb) hsm
    rwa [show ruleOf g x = ruleD g x from if_pos hr] at this))
  have hE : Hid (ofD g x y = if y.rule = true then decide (0 ≤ y.n) && decide (ruleD g x = y.n) else decide (0 ≤ y.n) && (decide (y.n < g.toks.length) && (decide (x.n = y.n) && (decide (x.kind = 3) || decide (x.kind = 5))))) := hidden rfl
  obtain ⟨⟨A1, k1, rfl, v1, m1⟩, ⟨A2, k2, rfl, v2, m2⟩, ⟨A3, k3, rfl, v3, m3⟩⟩ := HG.vals
  generalize ofD g x y = res at *
  generalize ruleD g x = rd at *
  obtain ⟨kd, n, sz_, ld, tx⟩ := x
  obtain ⟨rl, yn, gp, ii⟩ := y
  unfold gramCells ndV itV at *
  dsimp only at *
  have hb1 : Below w.heap.size w (((w.alloc (.cells #[.slice A1 g.toks.length k1, .slice A2 g.rules.length k2, .slice A3 g.prods.length k3, .int .i64 g.start, .int .i64 g.states, .int .i64 g.text, .int .i64 g.nodes, .int .i64 g.pairs] 26)).alloc (.cells #[.int .i64 kd, .int .i64 n, .int .i64 sz_, l, .string tx] 37)).alloc (.cells #[.bool rl, .int .i64 yn, .int .i64 gp, .int .i64 ii] 30)) := (((Below.refl _ _).alloc (Nat.le_refl _) _).alloc (by simp) _).alloc (by simp; omega) _
  have HB1 : Hid (Holds (((w.alloc (.cells #[.slice A1 g.toks.length k1, .slice A2 g.rules.length k2, .slice A3 g.prods.length k3, .int .i64 g.start, .int .i64 g.states, .int .i64 g.text, .int .i64 g.nodes, .int .i64 g.pairs] 26)).alloc (.cells #[.int .i64 kd, .int .i64 n, .int .i64 sz_, l, .string tx] 37)).alloc (.cells #[.bool rl, .int .i64 yn, .int .i64 gp, .int .i64 ii] 30)) w.heap.size 26 #[.slice A1 g.toks.length k1, .slice A2 g.rules.length k2, .slice A3 g.prods.length k3, .int .i64 g.start, .int .i64 g.states, .int .i64 g.text, .int .i64 g.nodes, .int .i64 g.pairs]) := hidden (by repeat (first | (with_reducible assumption) | ((with_reducible refine holds_new ?_); (focus (first | rfl | (simp; done)))) | (with_reducible refine Holds.alloc ?_ _) | (with_reducible refine Holds.drew ?_)))
  have HB2 : Hid (Holds (((w.alloc (.cells #[.slice A1 g.toks.length k1, .slice A2 g.rules.length k2, .slice A3 g.prods.length k3, .int .i64 g.start, .int .i64 g.states, .int .i64 g.text, .int .i64 g.nodes, .int .i64 g.pairs] 26)).alloc (.cells #[.int .i64 kd, .int .i64 n, .int .i64 sz_, l, .string tx] 37)).alloc (.cells #[.bool rl, .int .i64 yn, .int .i64 gp, .int .i64 ii] 30)) (w.heap.size + 1) 37 #[.int .i64 kd, .int .i64 n, .int .i64 sz_, l, .string tx]) := hidden (by repeat (first | (with_reducible assumption) | ((with_reducible refine holds_new ?_); (focus (first | rfl | (simp; done)))) | (with_reducible refine Holds.alloc ?_ _) | (with_reducible refine Holds.drew ?_)))
  have HB3 : Hid (Holds (((w.alloc (.cells #[.slice A1 g.toks.length k1, .slice A2 g.rules.length k2, .slice A3 g.prods.length k3, .int .i64 g.start, .int .i64 g.states, .int .i64 g.text, .int .i64 g.nodes, .int .i64 g.pairs] 26)).alloc (.cells #[.int .i64 kd, .int .i64 n, .int .i64 sz_, l, .string tx] 37)).alloc (.cells #[.bool rl, .int .i64 yn, .int .i64 gp, .int .i64 ii] 30)) (w.heap.size + 1 + 1) 30 #[.bool rl, .int .i64 yn, .int .i64 gp, .int .i64 ii]) := hidden (Holds.new_at (by simp))
  clear HG hsm
  go_enter Try.func29, Try.ntmps29
  go_upto_region 1 with fail
  generalize (((w.alloc (.cells #[.slice A1 g.toks.length k1, .slice A2 g.rules.length k2, .slice A3 g.prods.length k3, .int .i64 g.start, .int .i64 g.states, .int .i64 g.text, .int .i64 g.nodes, .int .i64 g.pairs] 26)).alloc (.cells #[.int .i64 kd, .int .i64 n, .int .i64 sz_, l, .string tx] 37)).alloc (.cells #[.bool rl, .int .i64 yn, .int .i64 gp, .int .i64 ii] 30)) = w1 at *
  obtain ⟨x0, x1, x2, x3, x4, x5, x6, x7⟩ := eightR HB1.out
  have y0 := HB2.out.cell 0; have y1 := HB2.out.cell 1; have y2 := HB2.out.cell 2; have y3 := HB2.out.cell 3; have y4 := HB2.out.cell 4
  have i0 := HB3.out.cell 0; have i1 := HB3.out.cell 1
  have hz1 := hb1.size
  cases rl
  · rw [if_neg Bool.false_ne_true] at hE
    by_cases h0 : yn < 0
    · have q0 : decide (0 ≤ yn) = false := decide_eq_false (by omega)
      have he : Hid (res = false) := hidden (by rw [hE.out, q0]; rfl)
      clear hE
      go_wp2
      go_ret
      exact ⟨by rw [he.out]; rfl, hb1⟩
    · have q0 : decide (0 ≤ yn) = true := decide_eq_true (by omega)
      rw [q0, Bool.true_and] at hE
      by_cases h1 : yn < g.toks.length
      · have q1 : decide (yn < (g.toks.length : Int)) = true := decide_eq_true h1
        rw [q1, Bool.true_and] at hE
        by_cases hn : n = yn
        · subst hn
          rw [decide_eq_true rfl, Bool.true_and] at hE
          by_cases h3 : kd = 3
          · subst h3
            have he : Hid (res = true) := hidden (by rw [hE.out]; rfl)
            clear hE
            go_wp2
            go_ret
            exact ⟨by rw [he.out]; rfl, hb1⟩
          · have q3 : (kd == 3) = false := beq_eq_false_iff_ne.2 h3
            by_cases h5 : kd = 5
            · subst h5
              have he : Hid (res = true) := hidden (by rw [hE.out]; rfl)
              clear hE
              go_wp2
              go_ret
              exact ⟨by rw [he.out]; rfl, hb1⟩
            · have q5 : (kd == 5) = false := beq_eq_false_iff_ne.2 h5
              have he : Hid (res = false) := hidden (by rw [hE.out, decide_eq_false h3, decide_eq_false h5]; rfl)
              clear hE h3 h5
              go_wp2
              go_ret
              exact ⟨by rw [he.out]; rfl, hb1⟩
        · have q2 : (n == yn) = false := beq_eq_false_iff_ne.2 hn
          have he : Hid (res = false) := hidden (by rw [hE.out, decide_eq_false hn]; rfl)
          clear hE hn
          go_wp2
          go_ret
          exact ⟨by rw [he.out]; rfl, hb1⟩
      · have q1 : decide (yn < (g.toks.length : Int)) = false := decide_eq_false h1
        have he : Hid (res = false) := hidden (by rw [hE.out, q1]; rfl)
        clear hE
        go_wp2
        go_ret
        exact ⟨by rw [he.out]; rfl, hb1⟩
  · rw [if_pos rfl] at hE
    by_cases h0 : yn < 0
    · have q0 : decide (0 ≤ yn) = false := decide_eq_false (by omega)
      have he : Hid (res = false) := hidden (by rw [hE.out, q0]; rfl)
      clear hE
      have e0 := Ext.cell x0
      have e1 := Ext.cell x1
      have e2 := Ext.cell x2
      have e3 := Ext.cell x3
      have e4 := Ext.cell x4
      have e5 := Ext.cell x5
      have e6 := Ext.cell x6
      have e7 := Ext.cell x7
      have e8 := Ext.cell y0
      have e9 := Ext.cell y1
      have e10 := Ext.cell y2
      have e11 := Ext.cell y3
      have e12 := Ext.cell y4
      have e13 := Ext.cell i0
      have e14 := Ext.cell i1
      go_wp2_with fail
      refine wp_region_ext (by kernel_rfl) (by kernel_rfl) ?_
      repeat (go_big_quiet_step (fail))
      refine wpQuiet_nil ?_
      intro w2 hb2
      replace hb1 := hb1.trans (hb2.mono hz1)
      clear hb2 e0 e1 e2 e3 e4 e5 e6 e7 e8 e9 e10 e11 e12 e13 e14 x0 x1 x2 x3 x4 x5 x6 x7 y0 y1 y2 y3 y4 i0 i1
      go_wp2
      go_ret
      exact ⟨by rw [he.out]; rfl, hb1⟩
    · have q0 : decide (0 ≤ yn) = true := decide_eq_true (by omega)
      rw [q0, Bool.true_and] at hE
      by_cases hy : rd = yn
      · have q1 : (rd == yn) = true := by rw [hy]; exact beq_self_eq_true _
        have he : Hid (res = true) := hidden (by rw [hE.out]; exact decide_eq_true hy)
        clear hE hy
        have e0 := Ext.cell x0
        have e1 := Ext.cell x1
        have e2 := Ext.cell x2
        have e3 := Ext.cell x3
        have e4 := Ext.cell x4
        have e5 := Ext.cell x5
        have e6 := Ext.cell x6
        have e7 := Ext.cell x7
        have e8 := Ext.cell y0
        have e9 := Ext.cell y1
        have e10 := Ext.cell y2
        have e11 := Ext.cell y3
        have e12 := Ext.cell y4
        have e13 := Ext.cell i0
        have e14 := Ext.cell i1
        go_wp2_with fail
        refine wp_region_ext (by kernel_rfl) (by kernel_rfl) ?_
        repeat (go_big_quiet_step ((go_at_call 15; exact Ext.call (HRl.out _ (hb1.trans ((Ext.below _).mono hz1))))))
        refine wpQuiet_nil ?_
        intro w2 hb2
        replace hb1 := hb1.trans (hb2.mono hz1)
        clear hb2 e0 e1 e2 e3 e4 e5 e6 e7 e8 e9 e10 e11 e12 e13 e14 x0 x1 x2 x3 x4 x5 x6 x7 y0 y1 y2 y3 y4 i0 i1
        go_wp2
        go_ret
        exact ⟨by rw [he.out]; rfl, hb1⟩
      · have q1 : (rd == yn) = false := beq_eq_false_iff_ne.2 hy
        have he : Hid (res = false) := hidden (by rw [hE.out]; exact decide_eq_false hy)
        clear hE hy
        have e0 := Ext.cell x0
        have e1 := Ext.cell x1
        have e2 := Ext.cell x2
        have e3 := Ext.cell x3
        have e4 := Ext.cell x4
        have e5 := Ext.cell x5
        have e6 := Ext.cell x6
        have e7 := Ext.cell x7
        have e8 := Ext.cell y0
        have e9 := Ext.cell y1
        have e10 := Ext.cell y2
        have e11 := Ext.cell y3
        have e12 := Ext.cell y4
        have e13 := Ext.cell i0
        have e14 := Ext.cell i1
        go_wp2_with fail
        refine wp_region_ext (by kernel_rfl) (by kernel_rfl) ?_
        repeat (go_big_quiet_step ((go_at_call 15; exact Ext.call (HRl.out _ (hb1.trans ((Ext.below _).mono hz1))))))
        refine wpQuiet_nil ?_
        intro w2 hb2
        replace hb1 := hb1.trans (hb2.mono hz1)
        clear hb2 e0 e1 e2 e3 e4 e5 e6 e7 e8 e9 e10 e11 e12 e13 e14 x0 x1 x2 x3 x4 x5 x6 x7 y0 y1 y2 y3 y4 i0 i1
        go_wp2
        go_ret
        exact ⟨by rw [he.out]; rfl, hb1⟩

theorem drop_at {ks : List Nat} {k : Nat} (h : k < ks.length) : ks.drop k = ks[k] :: ks.drop (k + 1) := List.drop_eq_getElem_cons h

set_option maxRecDepth 20000 in
set_option maxHeartbeats 16000000 in
theorem ref_row30 (a b c v vk vi : Value) (g : Gram) (t : List Node) (ks : List Nat) (its : List Item) (w : World) (HG : GramIs w (Old w) a b c g) (hsm : Small g) (hr : rightB g = true) (HN : Nds w (Old w) v t) (HK : Rd w (Old w) 1 vk ks.length (ints ks))
    (hks : ∀ k ∈ ks, k < t.length) (hkz : ks.length ≤ 1000000000) (HI : Rd w (Old w) 4 vi its.length (its.flatMap itCells)) :
    Calls Try.prog 46 #[.agg (gramCells a b c g), v, vk, vi] w fun r w' => r = .returned (.bool (decide (rowD g t ks its = some []))) ∧ Below w.heap.size w w' := by
  have HOf := hidden (fun (x : Node) (l : Value) (y : Item) (w' : World) (hb : Below w.heap.size w w') => ref_of30 a b c l g x y w' (HG.old hb) hsm hr)
  have hE : Hid (decide (rowD g t ks its = some []) = decide (rowD g t ks its = some [])) := hidden rfl
  generalize hres : decide (rowD g t ks its = some []) = res at *
  have hRes := hidden (fun (o : Option (List Nat)) (e : rowD g t ks its = o) => (show res = decide (o = some []) from by subst e; exact hres.symm))
  clear hres hE
  have HND := hidden HN
  have HIT := hidden HI
  have HKK := hidden HK
  have hks2 := hidden hks
  obtain ⟨⟨A1, k1, rfl, v1, m1⟩, ⟨A2, k2, rfl, v2, m2⟩, ⟨A3, k3, rfl, v3, m3⟩⟩ := HG.vals
  obtain ⟨A, cc, rfl, hc1, hc2⟩ := HN.value
  obtain ⟨Ai, ci, rfl, hi1, hi2⟩ := HI.val
  obtain ⟨Ak, ck, rfl, hk1, hk2⟩ := HK.val
  unfold maxLen at hi2
  unfold gramCells at *
  have hb1 : Below w.heap.size w (w.alloc (.cells #[.slice A1 g.toks.length k1, .slice A2 g.rules.length k2, .slice A3 g.prods.length k3, .int .i64 g.start, .int .i64 g.states, .int .i64 g.text, .int .i64 g.nodes, .int .i64 g.pairs] 26)) := (Below.refl _ _).alloc (Nat.le_refl _) _
  have HB1 : Hid (Holds (w.alloc (.cells #[.slice A1 g.toks.length k1, .slice A2 g.rules.length k2, .slice A3 g.prods.length k3, .int .i64 g.start, .int .i64 g.states, .int .i64 g.text, .int .i64 g.nodes, .int .i64 g.pairs] 26)) w.heap.size 26 #[.slice A1 g.toks.length k1, .slice A2 g.rules.length k2, .slice A3 g.prods.length k3, .int .i64 g.start, .int .i64 g.states, .int .i64 g.text, .int .i64 g.nodes, .int .i64 g.pairs]) := hidden (Holds.new w _ _)
  clear HG hsm hr HN HK HI hks
  go_enter Try.func46, Try.ntmps46
  go_wp2
  generalize (w.alloc (.cells #[.slice A1 g.toks.length k1, .slice A2 g.rules.length k2, .slice A3 g.prods.length k3, .int .i64 g.start, .int .i64 g.states, .int .i64 g.text, .int .i64 g.nodes, .int .i64 g.pairs] 26)) = w1 at *
  go_loopw [9, 10] (fun kv iv wr => ∃ (i k : Nat), kv = .int .i64 k ∧ iv = .int .i64 i ∧ i ≤ its.length ∧ k ≤ ks.length ∧ Hid (rowD g t ks its = rowD g t (ks.drop k) (its.drop i)) ∧ Hid (Below w1.heap.size w1 wr)) (fun kv iv wr => its.length - (intOf iv).toNat)
  case atStart => exact ⟨0, 0, by go_num, by go_num, Nat.zero_le _, Nat.zero_le _, hidden rfl, hidden (Below.refl _ _)⟩
  case round =>
    obtain ⟨i, k, rfl, rfl, hi, hk, hR, HB⟩ := hrel
    by_cases hlt : i < its.length
    · have qi : (i : Int) < (its.length : Int) := by omega
      have hy := List.getElem?_eq_getElem hlt
      have hdr : its.drop i = its[i] :: its.drop (i + 1) := (List.drop_eq_getElem_cons hlt)
      generalize its[i] = y at *
      obtain ⟨rl, yn, gp, ii⟩ := y
      obtain ⟨bi, oi, rfl, i0, i1, i2, i3⟩ := items_at HIT.out hy
      dsimp only at i0 i1 i2 i3
      have HII := hidden (And.intro i0 (And.intro i1 (And.intro i2 i3)))
      have hR2 : Hid (rowD g t ks its = match hdD t ⟨rl, yn, gp, ii⟩ (ks.drop k) with | [] => none | k :: r => if ofAt g t k ⟨rl, yn, gp, ii⟩ = true then rowD g t r (its.drop (i + 1)) else none) := hidden (by rw [hR.out, hdr, rowD_cons]; try rfl)
      clear hy hdr hR i0 i1 i2 i3
      go_wp2
      generalize hhd : hdD t ⟨rl, yn, gp, ii⟩ (ks.drop k) = hd0 at *
      generalize wr = wo at *
      go_loopw [9] (fun kv wi => ∃ m : Nat, kv = .int .i64 m ∧ m ≤ ks.length ∧ Hid (hd0 = hdD t ⟨rl, yn, gp, ii⟩ (ks.drop m)) ∧ Hid (Below w1.heap.size w1 wi)) (fun kv wi => ks.length - (intOf kv).toNat)
      case atStart => exact ⟨k, by go_num, hk, hidden hhd.symm, HB⟩
      case round =>
        clear hhd HB hk
        obtain ⟨m, rfl, hm, hH, HB⟩ := hrel
        by_cases hml : m < ks.length
        · have hmk := List.getElem?_eq_getElem hml
          have hdk := drop_at hml
          have hkt := hks2.out _ (List.getElem_mem hml)
          generalize ks[m] = kk at *
          have q1 : (m : Int) < (ks.length : Int) := by omega
          have q2 : ((m : Int) == (ks.length : Int)) = false := beq_eq_false_iff_ne.2 (by omega)
          obtain ⟨_, A5, c5, hv5, _, _, hop⟩ := HKK.out
          obtain ⟨b4, o4, hA4, hT4, hc4⟩ := hop (by unfold ints; rw [List.length_map]; omega)
          subst hA4
          cases hv5
          have z5 := hc4 m (.int .i64 (kk : Int)) (by unfold ints; rw [List.getElem?_map, hmk]; rfl)
          obtain ⟨bt, ot, ct, hvt, _, _, _, hat⟩ := HND.out.open_ (by intro e; rw [e] at hkt; simp at hkt)
          cases hvt
          obtain ⟨x, hx⟩ : ∃ x, t[kk]? = some x := ⟨_, List.getElem?_eq_getElem hkt⟩
          obtain ⟨lx, z0, z1, z2, z3, z4, _⟩ := hat kk x hx
          have hbad : Hid (isBad t kk = decide (x.kind = 4)) := hidden (by unfold isBad kindAt; rw [hx])
          have qk : (kk : Int) < (t.length : Int) := by omega
          rw [hdk] at hH
          clear hat hop hc4 hmk hdk
          have hbw := hb1.trans (HB.out.mono hb1.size)
          have hwz := hbw.size
          obtain ⟨i0, i1, i2, i3⟩ := HII.out
          replace i0 := cellF i0 hbw; replace i1 := cellF i1 hbw; replace i2 := cellF i2 hbw; replace i3 := cellF i3 hbw
          have u0 := cellF z5 hbw; have u1 := cellF z0 hbw
          cases rl
          · have hH2 : Hid (hd0 = kk :: ks.drop (m + 1)) := hidden (by rw [hH.out, hd_tok rfl])
            clear hH hbad
            have hH := hH2
            clear hH2
            have HOf2 := hidden (HOf.out x lx ⟨false, yn, gp, ii⟩)
            have hofx : Hid (ofAt g t kk ⟨false, yn, gp, ii⟩ = ofD g x ⟨false, yn, gp, ii⟩) := hidden (by unfold ofAt; rw [hx])
            unfold ndV itV at HOf2
            dsimp only at HOf2
            generalize ofD g x ⟨false, yn, gp, ii⟩ = fo at *
            obtain ⟨x0, x1, x2, x3, x4, x5, x6, x7⟩ := eightR (HB1.out.below HB.out HB1.out.lt)
            have u2 := cellF z1 hbw; have u3 := cellF z2 hbw; have u4 := cellF z3 hbw; have u5 := cellF z4 hbw
            cases fo
            · have he : Hid (res = false) := hidden (by rw [hRes.out none (by rw [hR2.out, hH.out]; simp only; rw [hofx.out]; rfl)]; rfl)
              clear hR2 hH hofx hRes
              go_wp2_with fail
              have e0 := Ext.cell i0
              have e1 := Ext.cell i1
              have e2 := Ext.cell i2
              have e3 := Ext.cell i3
              have e4 := Ext.cell u0
              have e5 := Ext.cell u1
              have e6 := Ext.cell u2
              have e7 := Ext.cell u3
              have e8 := Ext.cell u4
              have e9 := Ext.cell u5
              have e10 := Ext.cell x0
              have e11 := Ext.cell x1
              have e12 := Ext.cell x2
              have e13 := Ext.cell x3
              have e14 := Ext.cell x4
              have e15 := Ext.cell x5
              have e16 := Ext.cell x6
              have e17 := Ext.cell x7
              refine wp_region_ext (by kernel_rfl) (by kernel_rfl) ?_
              repeat (go_big_quiet_step ((go_at_call 29; exact Ext.call (HOf2.out _ (hbw.trans ((Ext.below _).mono hwz))))))
              refine wpQuiet_nil ?_
              intro w6 hb6
              clear e0 e1 e2 e3 e4 e5 e6 e7 e8 e9 e10 e11 e12 e13 e14 e15 e16 e17 i0 i1 i2 i3 u0 u1 u2 u3 u4 u5 x0 x1 x2 x3 x4 x5 x6 x7
              clear hbw hwz
              replace HB := hidden (HB.out.trans (hb6.mono HB.out.size))
              clear hb6
              have hbf := hb1.trans (HB.out.mono hb1.size)
              clear HB
              go_wp2
              go_ret
              exact ⟨by rw [he.out]; rfl, hbf⟩
            · have hR3 : Hid (rowD g t ks its = rowD g t (ks.drop (m + 1)) (its.drop (i + 1))) := hidden (by rw [hR2.out, hH.out]; simp only; rw [hofx.out]; rfl)
              clear hR2 hH hofx
              go_wp2_with fail
              have e0 := Ext.cell i0
              have e1 := Ext.cell i1
              have e2 := Ext.cell i2
              have e3 := Ext.cell i3
              have e4 := Ext.cell u0
              have e5 := Ext.cell u1
              have e6 := Ext.cell u2
              have e7 := Ext.cell u3
              have e8 := Ext.cell u4
              have e9 := Ext.cell u5
              have e10 := Ext.cell x0
              have e11 := Ext.cell x1
              have e12 := Ext.cell x2
              have e13 := Ext.cell x3
              have e14 := Ext.cell x4
              have e15 := Ext.cell x5
              have e16 := Ext.cell x6
              have e17 := Ext.cell x7
              refine wp_region_ext (by kernel_rfl) (by kernel_rfl) ?_
              repeat (go_big_quiet_step ((go_at_call 29; exact Ext.call (HOf2.out _ (hbw.trans ((Ext.below _).mono hwz))))))
              refine wpQuiet_nil ?_
              intro w6 hb6
              clear e0 e1 e2 e3 e4 e5 e6 e7 e8 e9 e10 e11 e12 e13 e14 e15 e16 e17 i0 i1 i2 i3 u0 u1 u2 u3 u4 u5 x0 x1 x2 x3 x4 x5 x6 x7
              clear hbw hwz
              replace HB := hidden (HB.out.trans (hb6.mono HB.out.size))
              clear hb6
              go_wp2
              go_roundw
              case rel => exact ⟨i + 1, m + 1, by go_num, by go_num, by omega, by omega, hR3, HB⟩
              case measure => simp [intOf]; omega
          · by_cases h4 : x.kind = 4
            · have q3 : (x.kind == 4) = true := by rw [h4]; rfl
              have hH2 : Hid (hd0 = hdD t ⟨true, yn, gp, ii⟩ (ks.drop (m + 1))) := hidden (by rw [hH.out, hd_bad rfl (by rw [hbad.out]; exact decide_eq_true h4)])
              clear hH hbad
              go_wp2
              go_roundw
              case rel => exact ⟨m + 1, by go_num, by omega, hH2, HB⟩
              case measure => simp [intOf]; omega
            · have q3 : (x.kind == 4) = false := beq_eq_false_iff_ne.2 h4
              have hH2 : Hid (hd0 = kk :: ks.drop (m + 1)) := hidden (by rw [hH.out, hd_good (by rw [hbad.out]; exact decide_eq_false h4)])
              clear hH hbad
              have hH := hH2
              clear hH2
              have HOf2 := hidden (HOf.out x lx ⟨true, yn, gp, ii⟩)
              have hofx : Hid (ofAt g t kk ⟨true, yn, gp, ii⟩ = ofD g x ⟨true, yn, gp, ii⟩) := hidden (by unfold ofAt; rw [hx])
              unfold ndV itV at HOf2
              dsimp only at HOf2
              generalize ofD g x ⟨true, yn, gp, ii⟩ = fo at *
              obtain ⟨x0, x1, x2, x3, x4, x5, x6, x7⟩ := eightR (HB1.out.below HB.out HB1.out.lt)
              have u2 := cellF z1 hbw; have u3 := cellF z2 hbw; have u4 := cellF z3 hbw; have u5 := cellF z4 hbw
              cases fo
              · have he : Hid (res = false) := hidden (by rw [hRes.out none (by rw [hR2.out, hH.out]; simp only; rw [hofx.out]; rfl)]; rfl)
                clear hR2 hH hofx hRes
                go_wp2_with fail
                have e0 := Ext.cell i0
                have e1 := Ext.cell i1
                have e2 := Ext.cell i2
                have e3 := Ext.cell i3
                have e4 := Ext.cell u0
                have e5 := Ext.cell u1
                have e6 := Ext.cell u2
                have e7 := Ext.cell u3
                have e8 := Ext.cell u4
                have e9 := Ext.cell u5
                have e10 := Ext.cell x0
                have e11 := Ext.cell x1
                have e12 := Ext.cell x2
                have e13 := Ext.cell x3
                have e14 := Ext.cell x4
                have e15 := Ext.cell x5
                have e16 := Ext.cell x6
                have e17 := Ext.cell x7
                refine wp_region_ext (by kernel_rfl) (by kernel_rfl) ?_
                repeat (go_big_quiet_step ((go_at_call 29; exact Ext.call (HOf2.out _ (hbw.trans ((Ext.below _).mono hwz))))))
                refine wpQuiet_nil ?_
                intro w6 hb6
                clear e0 e1 e2 e3 e4 e5 e6 e7 e8 e9 e10 e11 e12 e13 e14 e15 e16 e17 i0 i1 i2 i3 u0 u1 u2 u3 u4 u5 x0 x1 x2 x3 x4 x5 x6 x7
                clear hbw hwz
                replace HB := hidden (HB.out.trans (hb6.mono HB.out.size))
                clear hb6
                have hbf := hb1.trans (HB.out.mono hb1.size)
                clear HB
                go_wp2
                go_ret
                exact ⟨by rw [he.out]; rfl, hbf⟩
              · have hR3 : Hid (rowD g t ks its = rowD g t (ks.drop (m + 1)) (its.drop (i + 1))) := hidden (by rw [hR2.out, hH.out]; simp only; rw [hofx.out]; rfl)
                clear hR2 hH hofx
                go_wp2_with fail
                have e0 := Ext.cell i0
                have e1 := Ext.cell i1
                have e2 := Ext.cell i2
                have e3 := Ext.cell i3
                have e4 := Ext.cell u0
                have e5 := Ext.cell u1
                have e6 := Ext.cell u2
                have e7 := Ext.cell u3
                have e8 := Ext.cell u4
                have e9 := Ext.cell u5
                have e10 := Ext.cell x0
                have e11 := Ext.cell x1
                have e12 := Ext.cell x2
                have e13 := Ext.cell x3
                have e14 := Ext.cell x4
                have e15 := Ext.cell x5
                have e16 := Ext.cell x6
                have e17 := Ext.cell x7
                refine wp_region_ext (by kernel_rfl) (by kernel_rfl) ?_
                repeat (go_big_quiet_step ((go_at_call 29; exact Ext.call (HOf2.out _ (hbw.trans ((Ext.below _).mono hwz))))))
                refine wpQuiet_nil ?_
                intro w6 hb6
                clear e0 e1 e2 e3 e4 e5 e6 e7 e8 e9 e10 e11 e12 e13 e14 e15 e16 e17 i0 i1 i2 i3 u0 u1 u2 u3 u4 u5 x0 x1 x2 x3 x4 x5 x6 x7
                clear hbw hwz
                replace HB := hidden (HB.out.trans (hb6.mono HB.out.size))
                clear hb6
                go_wp2
                go_roundw
                case rel => exact ⟨i + 1, m + 1, by go_num, by go_num, by omega, by omega, hR3, HB⟩
                case measure => simp [intOf]; omega
        · obtain rfl : m = ks.length := by omega
          have q1 : ¬ (ks.length : Int) < (ks.length : Int) := by omega
          have q2 : ((ks.length : Int) == (ks.length : Int)) = true := beq_self_eq_true _
          have he : Hid (res = false) := hidden (by rw [hRes.out none (by rw [hR2.out, hH.out, List.drop_length, hd_nil])]; rfl)
          clear hR2 hH hRes
          have hbw := hb1.trans (HB.out.mono hb1.size)
          have hwz := hbw.size
          obtain ⟨i0, i1, i2, i3⟩ := HII.out
          replace i0 := cellF i0 hbw; replace i1 := cellF i1 hbw; replace i2 := cellF i2 hbw; replace i3 := cellF i3 hbw
          obtain ⟨x0, x1, x2, x3, x4, x5, x6, x7⟩ := eightR (HB1.out.below HB.out HB1.out.lt)
          cases rl
          · go_wp2_with fail
            have e0 := Ext.cell i0
            have e1 := Ext.cell i1
            have e2 := Ext.cell i2
            have e3 := Ext.cell i3
            have e4 := Ext.cell x0
            have e5 := Ext.cell x1
            have e6 := Ext.cell x2
            have e7 := Ext.cell x3
            have e8 := Ext.cell x4
            have e9 := Ext.cell x5
            have e10 := Ext.cell x6
            have e11 := Ext.cell x7
            refine wp_region_ext (by kernel_rfl) (by kernel_rfl) ?_
            repeat (go_big_quiet_step (fail))
            refine wpQuiet_nil ?_
            intro w6 hb6
            clear e0 e1 e2 e3 e4 e5 e6 e7 e8 e9 e10 e11 i0 i1 i2 i3 x0 x1 x2 x3 x4 x5 x6 x7
            clear hbw hwz
            replace HB := hidden (HB.out.trans (hb6.mono HB.out.size))
            clear hb6
            have hbf := hb1.trans (HB.out.mono hb1.size)
            clear HB
            go_wp2
            go_ret
            exact ⟨by rw [he.out]; rfl, hbf⟩
          · go_wp2_with fail
            have e0 := Ext.cell i0
            have e1 := Ext.cell i1
            have e2 := Ext.cell i2
            have e3 := Ext.cell i3
            have e4 := Ext.cell x0
            have e5 := Ext.cell x1
            have e6 := Ext.cell x2
            have e7 := Ext.cell x3
            have e8 := Ext.cell x4
            have e9 := Ext.cell x5
            have e10 := Ext.cell x6
            have e11 := Ext.cell x7
            refine wp_region_ext (by kernel_rfl) (by kernel_rfl) ?_
            repeat (go_big_quiet_step (fail))
            refine wpQuiet_nil ?_
            intro w6 hb6
            clear e0 e1 e2 e3 e4 e5 e6 e7 e8 e9 e10 e11 i0 i1 i2 i3 x0 x1 x2 x3 x4 x5 x6 x7
            clear hbw hwz
            replace HB := hidden (HB.out.trans (hb6.mono HB.out.size))
            clear hb6
            have hbf := hb1.trans (HB.out.mono hb1.size)
            clear HB
            go_wp2
            go_ret
            exact ⟨by rw [he.out]; rfl, hbf⟩
    · obtain rfl : i = its.length := by omega
      have qi : ¬ (its.length : Int) < (its.length : Int) := by omega
      have hbw := hb1.trans (HB.out.mono hb1.size)
      have hfin : Hid (res = decide (k = ks.length)) := hidden (by
        rw [hRes.out (some (ks.drop k)) (by rw [hR.out, List.drop_length]; rfl), decide_eq_decide, Option.some.injEq, List.drop_eq_nil_iff]
        omega)
      by_cases hkl : k = ks.length
      · have q1 : ((k : Int) == (ks.length : Int)) = true := by rw [hkl]; exact beq_self_eq_true _
        have he : Hid (res = true) := hidden (by rw [hfin.out, decide_eq_true hkl])
        clear hR HB hfin hRes hkl
        go_wp2
        go_ret
        exact ⟨by rw [he.out]; rfl, hbw⟩
      · have q1 : ((k : Int) == (ks.length : Int)) = false := beq_eq_false_iff_ne.2 (by omega)
        have he : Hid (res = false) := hidden (by rw [hfin.out, decide_eq_false hkl])
        clear hR HB hfin hRes hkl
        go_wp2
        go_ret
        exact ⟨by rw [he.out]; rfl, hbw⟩
end Go.Proofs.Ytmmhkjdnejeooaa.T
