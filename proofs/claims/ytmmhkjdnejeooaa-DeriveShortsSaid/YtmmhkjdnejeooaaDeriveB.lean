/-
  Are kids parts of items? derive.look.row.
-/
import Derived.Test.YtmmhkjdnejeooaaDeriveA
import Derived.WalkMore
namespace Go.Proofs.Ytmmhkjdnejeooaa.T
open Go.RowKit Go.Shelf

/-- A row of numbers, its first one and the others. -/
theorem rd_cons {w : World} {T : Nat → Prop} {u : Value} {k : Nat} {r : List Nat} (h : Rd w T 1 u (k :: r).length (ints (k :: r))) : ∃ b o c n, u = .slice (some ⟨b, o, none⟩) n c ∧ Hid (n = r.length + 1) ∧ 0 < n ∧ n ≤ c ∧ c ≤ maxLen ∧ T b ∧ w.cell? ⟨b, o, none⟩ = some (.int .i64 (k : Int)) ∧
    (c = 1 → Hid (Rd w T 1 (.slice (some ⟨b, o, none⟩) (n - 1) 0) r.length (ints r))) ∧ (c ≠ 1 → Hid (Rd w T 1 (.slice (some ⟨b, o + 1, none⟩) (n - 1) (c - 1)) r.length (ints r))) := by
  have hl : (k :: r).length = r.length + 1 := rfl
  have h0 := h
  obtain ⟨_, A, c, rfl, h1, h2, hop⟩ := h
  obtain ⟨b, o, rfl, hT, hc⟩ := hop (by simp [ints])
  rw [hl] at h0 h1
  refine ⟨b, o, c, r.length + 1, rfl, hidden rfl, by omega, h1, h2, hT, by have := hc 0 (.int .i64 (k : Int)) rfl; rwa [Nat.add_zero] at this, fun e => hidden ?_, fun _ => hidden ?_⟩
  · have e0 : r = [] := List.eq_nil_of_length_eq_zero (by omega)
    subst e0
    exact ⟨rfl, _, 0, rfl, Nat.le_refl _, by simp [maxLen], fun h => by simp [ints] at h⟩
  · have := rd_drop h0 (i := 1) (by omega)
    rw [Nat.mul_one] at this
    exact this
theorem rd_nilv {w : World} {T : Nat → Prop} {u : Value} (h : Rd w T 1 u ([] : List Nat).length (ints [])) : ∃ A c, u = .slice A 0 c := by
  obtain ⟨_, A, c, rfl, _⟩ := h
  exact ⟨A, c, rfl⟩
noncomputable def hdD (t : List Node) (y : Item) (ks : List Nat) : List Nat := if y.rule = true then ks.dropWhile (isBad t) else ks
theorem rowD_cons (g : Gram) (t : List Node) (ks : List Nat) (y : Item) (l : List Item) : rowD g t ks (y :: l) = match hdD t y ks with | [] => none | k :: r => if ofAt g t k y = true then rowD g t r l else none := by
  rw [rowD]; rfl
theorem hd_bad {t : List Node} {y : Item} {k : Nat} {r : List Nat} (hy : y.rule = true) (h : isBad t k = true) : hdD t y (k :: r) = hdD t y r := by unfold hdD; rw [if_pos hy, if_pos hy, List.dropWhile_cons, if_pos h]
theorem hd_good {t : List Node} {y : Item} {k : Nat} {r : List Nat} (h : isBad t k = false) : hdD t y (k :: r) = k :: r := by
  unfold hdD
  split
  · rw [List.dropWhile_cons, if_neg (by rw [h]; decide)]
  · rfl
theorem hd_nil (t : List Node) (y : Item) : hdD t y [] = [] := by unfold hdD; split <;> rfl
theorem hd_tok {t : List Node} {y : Item} (h : y.rule = false) (ks : List Nat) : hdD t y ks = ks := by unfold hdD; rw [if_neg (by rw [h]; decide)]
/-- Where items lie. -/
theorem items_at {w : World} {T : Nat → Prop} {A : Option Addr} {n c : Nat} {its : List Item} (h : Rd w T 4 (.slice A n c) n (its.flatMap itCells)) {i : Nat} {y : Item} (hy : its[i]? = some y) : ∃ b o, A = some ⟨b, o, none⟩ ∧ w.cell? ⟨b, o + i * 4, none⟩ = some (.bool y.rule) ∧ w.cell? ⟨b, o + i * 4 + 1, none⟩ = some (.int .i64 y.n) ∧ w.cell? ⟨b, o + i * 4 + 2, none⟩ = some (.int .i64 y.gap) ∧ w.cell? ⟨b, o + i * 4 + 3, none⟩ = some (.int .i64 y.in_) := by
  obtain ⟨b, o, e, _, hc⟩ := Rd.flat_at (f := itCells) h (fun _ => rfl) (by decide) hy
  exact ⟨b, o, e, by have := hc 0 _ rfl; rwa [Nat.add_zero] at this, hc 1 _ rfl, hc 2 _ rfl, hc 3 _ rfl⟩
def RowEnd (g : Gram) (t : List Node) (ks : List Nat) (its : List Item) (w : World) (e : Ending) (w' : World) : Prop :=
  (∃ (u : Value) (fine : Bool) (ks' : List Nat), e = .returned (.tuple #[u, .bool fine]) ∧ ks' <:+ ks ∧ Hid (rowD g t ks its = if fine = true then some ks' else none) ∧ Hid (Rd w (Old w) 1 u ks'.length (ints ks'))) ∧ Below w.heap.size w w'

set_option maxRecDepth 20000 in
set_option maxHeartbeats 16000000 in
theorem look_row (a b c v vk vi : Value) (g : Gram) (t : List Node) (ks : List Nat) (its : List Item) (q : Nat) (w : World) (HG : GramIs w (Old w) a b c g) (HL : Holds w q 49 (lkCells a b c v g)) (HN : Nds w (Old w) v t) (HK : Rd w (Old w) 1 vk ks.length (ints ks))
    (hks : ∀ k ∈ ks, k < t.length) (HI : Rd w (Old w) 4 vi its.length (its.flatMap itCells)) :
    Calls Try.prog 65 #[.pointer (some ⟨q, 0, none⟩), vk, vi] w fun r w' => RowEnd g t ks its w r w' := by
  have HOf := hidden (fun (x : Node) (l : Value) (y : Item) (w' : World) (hb : Below w.heap.size w w') => look_of a b c v l g x y q w' (HG.old hb) (HL.below hb HL.lt))
  have HLk := hidden HL
  have hR0 : Hid (rowD g t ks its = rowD g t ks (its.drop 0)) := hidden rfl
  have HK0 := hidden HK
  have HND := hidden HN
  have HIT := hidden HI
  have hks2 := hidden hks
  obtain ⟨⟨A1, k1, rfl, v1, m1⟩, ⟨A2, k2, rfl, v2, m2⟩, ⟨A3, k3, rfl, v3, m3⟩⟩ := HG.vals
  obtain ⟨A, cc, rfl, hc1, hc2⟩ := HN.value
  obtain ⟨Ai, ci, rfl, hi1, hi2⟩ := HI.val
  obtain ⟨Ak, ck, rfl, hk1, hk2⟩ := HK.val
  unfold maxLen at hi2
  unfold lkCells at *
  clear HG HL HN HK HI hks
  go_enter Try.func65, Try.ntmps65
  go_wp2
  go_step3
  go_wp2
  go_step3
  go_wp2
  go_loopw [1, 8, 13] (fun kv fv iv wr => ∃ (i : Nat) (k0 : List Nat), iv = .int .i64 i ∧ i ≤ its.length ∧ fv = .bool true ∧ k0 <:+ ks ∧ Hid (rowD g t ks its = rowD g t k0 (its.drop i)) ∧ Hid (Rd w (Old w) 1 kv k0.length (ints k0)) ∧ Hid (Below w.heap.size w wr)) (fun kv fv iv wr => its.length - (intOf iv).toNat)
  case atStart => exact ⟨0, ks, by go_num, Nat.zero_le _, rfl, List.suffix_refl _, hR0, HK0, hidden (Below.refl _ _)⟩
  case round =>
    clear hR0 HK0
    obtain ⟨i, k0, rfl, hi, rfl, hsf, hR, HK, HB⟩ := hrel
    by_cases hlt : i < its.length
    · have qi : (i : Int) < (its.length : Int) := by omega
      have hy := List.getElem?_eq_getElem hlt
      have hdr : its.drop i = its[i] :: its.drop (i + 1) := (List.drop_eq_getElem_cons hlt)
      generalize its[i] = y at *
      obtain ⟨rl, yn, gp, ii⟩ := y
      obtain ⟨bi, oi, rfl, i0, i1, i2, i3⟩ := items_at HIT.out hy
      dsimp only at i0 i1 i2 i3
      have hbw := HB.out
      replace i0 := cellF i0 hbw; replace i1 := cellF i1 hbw; replace i2 := cellF i2 hbw; replace i3 := cellF i3 hbw
      have hR2 : Hid (rowD g t ks its = match hdD t ⟨rl, yn, gp, ii⟩ k0 with | [] => none | k :: r => if ofAt g t k ⟨rl, yn, gp, ii⟩ = true then rowD g t r (its.drop (i + 1)) else none) := hidden (by rw [hR.out, hdr, rowD_cons])
      have hbz := hbw.size
      have HBx : Hid (Below w.heap.size w (wr.alloc (.cells #[.bool rl, .int .i64 yn, .int .i64 gp, .int .i64 ii] 30))) := hidden (hbw.alloc hbz _)
      have HYx : Hid (Holds (wr.alloc (.cells #[.bool rl, .int .i64 yn, .int .i64 gp, .int .i64 ii] 30)) wr.heap.size 30 #[.bool rl, .int .i64 yn, .int .i64 gp, .int .i64 ii]) := hidden (Holds.new _ _ _)
      have hbxz : w.heap.size ≤ wr.heap.size := hbz
      clear hy hdr hR HB hbw
      obtain ⟨Ak9, ck9, hkv, _, _⟩ := HK.out.val
      subst hkv
      go_wp2
      generalize hbx : wr.heap.size = bx at *
      clear hbx i0 i1 i2 i3
      generalize hhd : hdD t ⟨rl, yn, gp, ii⟩ k0 = hd0 at *
      go_loopw [1] (fun kv wi => ∃ k1 : List Nat, k1 <:+ ks ∧ Hid (hd0 = hdD t ⟨rl, yn, gp, ii⟩ k1) ∧ Hid (Rd w (Old w) 1 kv k1.length (ints k1)) ∧ Hid (Below w.heap.size w wi) ∧ Hid (Holds wi bx 30 #[.bool rl, .int .i64 yn, .int .i64 gp, .int .i64 ii])) (fun kv wi => lenV kv)
      case atStart => exact ⟨k0, hsf, hidden (by rw [hhd]), HK, HBx, HYx⟩
      case round =>
        obtain ⟨kl, hs1, hH, HKl, HB, HY⟩ := hrel
        clear hhd HK HBx HYx
        cases kl with
        | nil =>
          obtain ⟨A9, c9, rfl⟩ := rd_nilv HKl.out
          have hfin : Hid (rowD g t ks its = none) := hidden (by rw [hR2.out, hH.out, hd_nil])
          clear hR2 hH
          have hbw := HB.out
          obtain ⟨l0, l1, l2, l3, l4, l5, l6, l7, l8⟩ := nineR (HLk.out.below hbw HLk.out.lt)
          have y0 := HY.out.cell 0; have y1 := HY.out.cell 1; have y2 := HY.out.cell 2; have y3 := HY.out.cell 3
          have e0 := Ext.cell l8; have e1 := Ext.cell y0; have e2 := Ext.cell y1; have e3 := Ext.cell y2; have e4 := Ext.cell y3
          cases rl
          · go_wp2_with fail
            refine wp_region_ext (by kernel_rfl) (by kernel_rfl) ?_
            repeat (go_big_quiet_step (fail))
            refine wpQuiet_nil ?_
            intro w6 hb6
            clear e0 e1 e2 e3 e4 l0 l1 l2 l3 l4 l5 l6 l7 l8 y0 y1 y2 y3
            clear hbw
            have hwz := HB.out.size
            replace HB := hidden (HB.out.trans (hb6.mono hwz))
            replace HY := hidden (HY.out.below hb6 HY.out.lt)
            clear hb6 hwz
            have hbw := HB.out
            obtain ⟨l0, l1, l2, l3, l4, l5, l6, l7, l8⟩ := nineR (HLk.out.below hbw HLk.out.lt)
            have y0 := HY.out.cell 0; have y1 := HY.out.cell 1; have y2 := HY.out.cell 2; have y3 := HY.out.cell 3
            have e0 := Ext.cell l8; have e1 := Ext.cell y0; have e2 := Ext.cell y1; have e3 := Ext.cell y2; have e4 := Ext.cell y3
            clear y1 y2 y3 e1 e2 e3 e4
            go_wp2_with fail
            refine wp_region_ext (by kernel_rfl) (by kernel_rfl) ?_
            repeat (go_big_quiet_step (fail))
            refine wpQuiet_nil ?_
            intro w6 hb6
            clear e0 l0 l1 l2 l3 l4 l5 l6 l7 l8 y0
            clear hbw
            have hwz := HB.out.size
            replace HB := hidden (HB.out.trans (hb6.mono hwz))
            replace HY := hidden (HY.out.below hb6 HY.out.lt)
            clear hb6 hwz
            have hbf := HB.out
            have hsz9 := hbf.size
            clear HB HY
            go_wp2
            (try rw [Exit.noGoto_ret])
            refine bodyPost_ret (v := .tuple #[.slice A9 0 c9, .bool false]) (by simp [results, Try.results65, go_sem]) rfl ?_
            exact ⟨⟨_, false, [], rfl, hs1, hidden (by rw [hfin.out]; rfl), HKl⟩, hbf⟩
          · go_wp2_with fail
            refine wp_region_ext (by kernel_rfl) (by kernel_rfl) ?_
            repeat (go_big_quiet_step (fail))
            refine wpQuiet_nil ?_
            intro w6 hb6
            clear e0 e1 e2 e3 e4 l0 l1 l2 l3 l4 l5 l6 l7 l8 y0 y1 y2 y3
            clear hbw
            have hwz := HB.out.size
            replace HB := hidden (HB.out.trans (hb6.mono hwz))
            replace HY := hidden (HY.out.below hb6 HY.out.lt)
            clear hb6 hwz
            have hbw := HB.out
            obtain ⟨l0, l1, l2, l3, l4, l5, l6, l7, l8⟩ := nineR (HLk.out.below hbw HLk.out.lt)
            have y0 := HY.out.cell 0; have y1 := HY.out.cell 1; have y2 := HY.out.cell 2; have y3 := HY.out.cell 3
            have e0 := Ext.cell l8; have e1 := Ext.cell y0; have e2 := Ext.cell y1; have e3 := Ext.cell y2; have e4 := Ext.cell y3
            clear y1 y2 y3 e1 e2 e3 e4
            go_wp2_with fail
            refine wp_region_ext (by kernel_rfl) (by kernel_rfl) ?_
            repeat (go_big_quiet_step (fail))
            refine wpQuiet_nil ?_
            intro w6 hb6
            clear e0 l0 l1 l2 l3 l4 l5 l6 l7 l8 y0
            clear hbw
            have hwz := HB.out.size
            replace HB := hidden (HB.out.trans (hb6.mono hwz))
            replace HY := hidden (HY.out.below hb6 HY.out.lt)
            clear hb6 hwz
            have hbf := HB.out
            have hsz9 := hbf.size
            clear HB HY
            go_wp2
            (try rw [Exit.noGoto_ret])
            refine bodyPost_ret (v := .tuple #[.slice A9 0 c9, .bool false]) (by simp [results, Try.results65, go_sem]) rfl ?_
            exact ⟨⟨_, false, [], rfl, hs1, hidden (by rw [hfin.out]; rfl), HKl⟩, hbf⟩
        | cons k r =>
          obtain ⟨b9, o9, c9, n9, hu, hn9, hn0, hnc, hcm, _, z5, ht1, ht2⟩ := rd_cons HKl.out
          subst hu
          have hkt := hks2.out k (hs1.subset List.mem_cons_self)
          have hs2 : r <:+ ks := List.IsSuffix.trans (List.suffix_cons k r) hs1
          obtain ⟨bt, ot, ct, hvt, _, _, _, hat⟩ := HND.out.open_ (by intro e; rw [e] at hkt; simp at hkt)
          cases hvt
          obtain ⟨x, hx⟩ : ∃ x, t[k]? = some x := ⟨_, List.getElem?_eq_getElem hkt⟩
          obtain ⟨lx, z0, z1, z2, z3, z4, _⟩ := hat k x hx
          have hbad : Hid (isBad t k = decide (x.kind = 4)) := hidden (by unfold isBad kindAt; rw [hx])
          have qk : (k : Int) < (t.length : Int) := by omega
          have q1 : decide ((0 : Int) < (n9 : Int)) = true := decide_eq_true (by omega)
          have q2 : ((n9 : Int) == 0) = false := beq_eq_false_iff_ne.2 (by omega)
          unfold maxLen at hcm
          clear hat
          have hbw := HB.out
          obtain ⟨l0, l1, l2, l3, l4, l5, l6, l7, l8⟩ := nineR (HLk.out.below hbw HLk.out.lt)
          have y0 := HY.out.cell 0; have y1 := HY.out.cell 1; have y2 := HY.out.cell 2; have y3 := HY.out.cell 3
          have e0 := Ext.cell l8; have e1 := Ext.cell y0; have e2 := Ext.cell y1; have e3 := Ext.cell y2; have e4 := Ext.cell y3
          have u0 := cellF z5 hbw; have u1 := cellF z0 hbw
          have e5 := Ext.cell u0; have e6 := Ext.cell u1
          cases rl
          · have hH2 : Hid (hd0 = k :: r) := hidden (by rw [hH.out, hd_tok rfl])
            clear hH hbad
            have hH := hH2
            clear hH2
            go_wp2_with fail
            refine wp_region_ext (by kernel_rfl) (by kernel_rfl) ?_
            repeat (go_big_quiet_step (fail))
            refine wpQuiet_nil ?_
            intro w6 hb6
            clear e0 e1 e2 e3 e4 l0 l1 l2 l3 l4 l5 l6 l7 l8 y0 y1 y2 y3 e5 e6 u0 u1
            clear hbw
            have hwz := HB.out.size
            replace HB := hidden (HB.out.trans (hb6.mono hwz))
            replace HY := hidden (HY.out.below hb6 HY.out.lt)
            clear hb6 hwz
            have HOf2 := hidden (HOf.out x lx ⟨false, yn, gp, ii⟩)
            have hofx : Hid (ofAt g t k ⟨false, yn, gp, ii⟩ = ofD g x ⟨false, yn, gp, ii⟩) := hidden (by unfold ofAt; rw [hx])
            unfold ndV itV at HOf2
            dsimp only at HOf2
            generalize ofD g x ⟨false, yn, gp, ii⟩ = fo at *
            have hbw := HB.out
            obtain ⟨l0, l1, l2, l3, l4, l5, l6, l7, l8⟩ := nineR (HLk.out.below hbw HLk.out.lt)
            have y0 := HY.out.cell 0; have y1 := HY.out.cell 1; have y2 := HY.out.cell 2; have y3 := HY.out.cell 3
            have e0 := Ext.cell l8; have e1 := Ext.cell y0; have e2 := Ext.cell y1; have e3 := Ext.cell y2; have e4 := Ext.cell y3
            have u0 := cellF z5 hbw; have u1 := cellF z0 hbw; have u2 := cellF z1 hbw; have u3 := cellF z2 hbw; have u4 := cellF z3 hbw; have u5 := cellF z4 hbw
            have e5 := Ext.cell u0; have e6 := Ext.cell u1; have e7 := Ext.cell u2; have e8 := Ext.cell u3; have e9 := Ext.cell u4; have e10 := Ext.cell u5
            have hwz5 := hbw.size
            cases fo
            · have hfin : Hid (rowD g t ks its = none) := hidden (by rw [hR2.out, hH.out]; simp only; rw [hofx.out]; rfl)
              clear hR2 hH hofx
              go_wp2_with fail
              refine wp_region_ext (by kernel_rfl) (by kernel_rfl) ?_
              repeat (go_big_quiet_step ((go_at_call 26; exact Ext.call (HOf2.out _ (hbw.trans ((Ext.below _).mono hwz5))))))
              refine wpQuiet_nil ?_
              intro w6 hb6
              clear e0 e1 e2 e3 e4 l0 l1 l2 l3 l4 l5 l6 l7 l8 y0 y1 y2 y3 e5 e6 e7 e8 e9 e10 u0 u1 u2 u3 u4 u5
              clear hbw hwz5
              have hwz := HB.out.size
              replace HB := hidden (HB.out.trans (hb6.mono hwz))
              replace HY := hidden (HY.out.below hb6 HY.out.lt)
              clear hb6 hwz
              have hbf := HB.out
              have hsz9 := hbf.size
              clear HB HY
              go_wp2
              (try rw [Exit.noGoto_ret])
              refine bodyPost_ret (v := .tuple #[.slice (some ⟨b9, o9, none⟩) n9 c9, .bool false]) (by simp [results, Try.results65, go_sem]) rfl ?_
              exact ⟨⟨_, false, k :: r, rfl, hs1, hidden (by rw [hfin.out]; rfl), HKl⟩, hbf⟩
            · have hR3 : Hid (rowD g t ks its = rowD g t r (its.drop (i + 1))) := hidden (by rw [hR2.out, hH.out]; simp only; rw [hofx.out]; rfl)
              clear hR2 hH hofx
              go_wp2_with fail
              refine wp_region_ext (by kernel_rfl) (by kernel_rfl) ?_
              repeat (go_big_quiet_step ((go_at_call 26; exact Ext.call (HOf2.out _ (hbw.trans ((Ext.below _).mono hwz5))))))
              refine wpQuiet_nil ?_
              intro w6 hb6
              clear e0 e1 e2 e3 e4 l0 l1 l2 l3 l4 l5 l6 l7 l8 y0 y1 y2 y3 e5 e6 e7 e8 e9 e10 u0 u1 u2 u3 u4 u5
              clear hbw hwz5
              have hwz := HB.out.size
              replace HB := hidden (HB.out.trans (hb6.mono hwz))
              replace HY := hidden (HY.out.below hb6 HY.out.lt)
              clear hb6 hwz
              clear HY
              by_cases hc9 : c9 = 1
              · have HT := hidden (ht1 hc9).out
                have hnn : n9 - 1 = 0 := by omega
                rw [hnn] at HT
                subst hc9
                clear ht1 ht2
                go_wp2
                go_roundw
                case rel => exact ⟨i + 1, r, by go_num, by omega, rfl, hs2, hR3, HT, HB⟩
                case measure => simp [intOf]; omega
              · have HT := hidden (ht2 hc9).out
                clear ht1 ht2
                go_wp2
                go_roundw
                case rel => exact ⟨i + 1, r, by go_num, by omega, rfl, hs2, hR3, HT, HB⟩
                case measure => simp [intOf]; omega
          · by_cases h4 : x.kind = 4
            · have q3 : (x.kind == 4) = true := by rw [h4]; rfl
              have hH2 : Hid (hd0 = hdD t ⟨true, yn, gp, ii⟩ r) := hidden (by rw [hH.out, hd_bad rfl (by rw [hbad.out]; exact decide_eq_true h4)])
              clear hH hbad
              go_wp2_with fail
              refine wp_region_ext (by kernel_rfl) (by kernel_rfl) ?_
              repeat (go_big_quiet_step (fail))
              refine wpQuiet_nil ?_
              intro w6 hb6
              clear e0 e1 e2 e3 e4 l0 l1 l2 l3 l4 l5 l6 l7 l8 y0 y1 y2 y3 e5 e6 u0 u1
              clear hbw
              have hwz := HB.out.size
              replace HB := hidden (HB.out.trans (hb6.mono hwz))
              replace HY := hidden (HY.out.below hb6 HY.out.lt)
              clear hb6 hwz
              by_cases hc9 : c9 = 1
              · have HT := hidden (ht1 hc9).out
                have hnn : n9 - 1 = 0 := by omega
                rw [hnn] at HT
                subst hc9
                clear ht1 ht2
                go_wp2
                go_roundw
                case rel => exact ⟨r, hs2, hH2, HT, HB, HY⟩
                case measure => simp [lenV]; omega
              · have HT := hidden (ht2 hc9).out
                clear ht1 ht2
                go_wp2
                go_roundw
                case rel => exact ⟨r, hs2, hH2, HT, HB, HY⟩
                case measure => simp [lenV]; omega
            · have q3 : (x.kind == 4) = false := beq_eq_false_iff_ne.2 h4
              have hH2 : Hid (hd0 = k :: r) := hidden (by rw [hH.out, hd_good (by rw [hbad.out]; exact decide_eq_false h4)])
              clear hH hbad
              have hH := hH2
              clear hH2
              go_wp2_with fail
              refine wp_region_ext (by kernel_rfl) (by kernel_rfl) ?_
              repeat (go_big_quiet_step (fail))
              refine wpQuiet_nil ?_
              intro w6 hb6
              clear e0 e1 e2 e3 e4 l0 l1 l2 l3 l4 l5 l6 l7 l8 y0 y1 y2 y3 e5 e6 u0 u1
              clear hbw
              have hwz := HB.out.size
              replace HB := hidden (HB.out.trans (hb6.mono hwz))
              replace HY := hidden (HY.out.below hb6 HY.out.lt)
              clear hb6 hwz
              have HOf2 := hidden (HOf.out x lx ⟨true, yn, gp, ii⟩)
              have hofx : Hid (ofAt g t k ⟨true, yn, gp, ii⟩ = ofD g x ⟨true, yn, gp, ii⟩) := hidden (by unfold ofAt; rw [hx])
              unfold ndV itV at HOf2
              dsimp only at HOf2
              generalize ofD g x ⟨true, yn, gp, ii⟩ = fo at *
              have hbw := HB.out
              obtain ⟨l0, l1, l2, l3, l4, l5, l6, l7, l8⟩ := nineR (HLk.out.below hbw HLk.out.lt)
              have y0 := HY.out.cell 0; have y1 := HY.out.cell 1; have y2 := HY.out.cell 2; have y3 := HY.out.cell 3
              have e0 := Ext.cell l8; have e1 := Ext.cell y0; have e2 := Ext.cell y1; have e3 := Ext.cell y2; have e4 := Ext.cell y3
              have u0 := cellF z5 hbw; have u1 := cellF z0 hbw; have u2 := cellF z1 hbw; have u3 := cellF z2 hbw; have u4 := cellF z3 hbw; have u5 := cellF z4 hbw
              have e5 := Ext.cell u0; have e6 := Ext.cell u1; have e7 := Ext.cell u2; have e8 := Ext.cell u3; have e9 := Ext.cell u4; have e10 := Ext.cell u5
              have hwz5 := hbw.size
              cases fo
              · have hfin : Hid (rowD g t ks its = none) := hidden (by rw [hR2.out, hH.out]; simp only; rw [hofx.out]; rfl)
                clear hR2 hH hofx
                go_wp2_with fail
                refine wp_region_ext (by kernel_rfl) (by kernel_rfl) ?_
                repeat (go_big_quiet_step ((go_at_call 26; exact Ext.call (HOf2.out _ (hbw.trans ((Ext.below _).mono hwz5))))))
                refine wpQuiet_nil ?_
                intro w6 hb6
                clear e0 e1 e2 e3 e4 l0 l1 l2 l3 l4 l5 l6 l7 l8 y0 y1 y2 y3 e5 e6 e7 e8 e9 e10 u0 u1 u2 u3 u4 u5
                clear hbw hwz5
                have hwz := HB.out.size
                replace HB := hidden (HB.out.trans (hb6.mono hwz))
                replace HY := hidden (HY.out.below hb6 HY.out.lt)
                clear hb6 hwz
                have hbf := HB.out
                have hsz9 := hbf.size
                clear HB HY
                go_wp2
                (try rw [Exit.noGoto_ret])
                refine bodyPost_ret (v := .tuple #[.slice (some ⟨b9, o9, none⟩) n9 c9, .bool false]) (by simp [results, Try.results65, go_sem]) rfl ?_
                exact ⟨⟨_, false, k :: r, rfl, hs1, hidden (by rw [hfin.out]; rfl), HKl⟩, hbf⟩
              · have hR3 : Hid (rowD g t ks its = rowD g t r (its.drop (i + 1))) := hidden (by rw [hR2.out, hH.out]; simp only; rw [hofx.out]; rfl)
                clear hR2 hH hofx
                go_wp2_with fail
                refine wp_region_ext (by kernel_rfl) (by kernel_rfl) ?_
                repeat (go_big_quiet_step ((go_at_call 26; exact Ext.call (HOf2.out _ (hbw.trans ((Ext.below _).mono hwz5))))))
                refine wpQuiet_nil ?_
                intro w6 hb6
                clear e0 e1 e2 e3 e4 l0 l1 l2 l3 l4 l5 l6 l7 l8 y0 y1 y2 y3 e5 e6 e7 e8 e9 e10 u0 u1 u2 u3 u4 u5
                clear hbw hwz5
                have hwz := HB.out.size
                replace HB := hidden (HB.out.trans (hb6.mono hwz))
                replace HY := hidden (HY.out.below hb6 HY.out.lt)
                clear hb6 hwz
                clear HY
                by_cases hc9 : c9 = 1
                · have HT := hidden (ht1 hc9).out
                  have hnn : n9 - 1 = 0 := by omega
                  rw [hnn] at HT
                  subst hc9
                  clear ht1 ht2
                  go_wp2
                  go_roundw
                  case rel => exact ⟨i + 1, r, by go_num, by omega, rfl, hs2, hR3, HT, HB⟩
                  case measure => simp [intOf]; omega
                · have HT := hidden (ht2 hc9).out
                  clear ht1 ht2
                  go_wp2
                  go_roundw
                  case rel => exact ⟨i + 1, r, by go_num, by omega, rfl, hs2, hR3, HT, HB⟩
                  case measure => simp [intOf]; omega
    · obtain rfl : i = its.length := by omega
      have qi : ¬ (its.length : Int) < (its.length : Int) := by omega
      have hfin : Hid (rowD g t ks its = some k0) := hidden (by rw [hR.out, List.drop_length]; rfl)
      have hbw := HB.out
      obtain ⟨Ak9, ck9, hkv, _, _⟩ := HK.out.val
      subst hkv
      clear hR HB
      go_wp2
      refine bodyPost_ret (v := .tuple #[.slice Ak9 k0.length ck9, .bool true]) (by simp [results, Try.results65, go_sem]) rfl ?_
      exact ⟨⟨_, true, k0, rfl, hsf, hidden (by rw [hfin.out, if_pos rfl]), HK⟩, hbw⟩
end Go.Proofs.Ytmmhkjdnejeooaa.T
