/-
  Does a node fit, by its kids alone? derive.look.node.
-/
import Derived.Test.YtmmhkjdnejeooaaDeriveB
import Derived.Test.YtmmhkjdnejeooaaLits
import Derived.Deep.RegionHeld3
import Derived.Deep.RegionWith
import Derived.StillTailTactics
namespace Go.Proofs.Ytmmhkjdnejeooaa.T
open Go.RowKit Go.Shelf

theorem tree_local {t : List Node} (ht : Tree t) {i : Nat} {x : Node} (hx : t[i]? = some x) : Local x := by
  obtain ⟨_, h1, h2, h3⟩ := ht
  have hi := (List.getElem?_eq_some_iff.1 hx).1
  have hs : sz t 0 = t.length := by
    obtain ⟨⟨y, hy, hz⟩, _⟩ := (⟨‹_›, h1, h2, h3⟩ : Tree t)
    rw [sz_of hy, hz]; omega
  obtain ⟨⟨⟨y, hy, hl⟩, _⟩, _⟩ := h3 i (Nat.zero_le _) (by omega)
  rw [hx] at hy; cases hy; exact hl
theorem cell_more {w w1 w2 : World} {b o : Nat} {v : Value} (h : w.cell? ⟨b, o, none⟩ = some v) (h1 : Below w.heap.size w w1) (h2 : Below w1.heap.size w1 w2) : w2.cell? ⟨b, o, none⟩ = some v :=
  Ext.cell h ⟨w2, h1.trans (h2.mono h1.size)⟩
theorem below_more {w w1 w2 : World} (h : Below w.heap.size w w1) (k : Below w1.heap.size w1 w2) : Below w.heap.size w w2 := h.trans (k.mono h.size)
theorem ints_rd {w : World} {base : Nat} {v : Value} {l : List Nat} (h : Mine w base 3 1 v l.length (ints l)) : Rd w (Old w) 1 v l.length (ints l) := Mine.rd h (fun _ _ _ h => h)
theorem text_none : (⟨#[]⟩ : ByteArray).toList.isEmpty = true := by rw [ByteArray.toList_eq]; rfl
theorem text_ne {s : ByteArray} (h : s ≠ ⟨#[]⟩) : s.toList.isEmpty = false := by
  rw [ByteArray.toList_eq]
  cases e : s.data.toList with
  | nil => exact absurd (ByteArray.ext (Array.toList_inj.1 e)) h
  | cons _ _ => rfl
theorem kidsD_at {t : List Node} (ht : Tree t) {a : Nat} (ha : a < t.length) : kidsOf t (a : Int) = kidsL t a := by
  unfold kidsOf
  rw [if_pos (placeB_iff.2 ⟨by omega, by omega, ht⟩), Int.toNat_natCast]
theorem kidD_lt {t : List Node} (ht : Tree t) {a k : Nat} (ha : a < t.length) (h : k ∈ kidsL t a) : k < t.length := by
  have h1 := kid_up ht ha h
  have h2 := tree_node ht ha
  omega

set_option maxRecDepth 20000 in
set_option maxHeartbeats 16000000 in
theorem look_node (a b c v : Value) (g : Gram) (t : List Node) (i : Nat) (q : Nat) (w : World) (HG : GramIs w (Old w) a b c g) (HL : Holds w q 49 (lkCells a b c v g)) (HN : Nds w (Old w) v t) (ht : Tree t) (hi : i < t.length) (h4 : t.length ≤ 1000000) :
    Calls Try.prog 42 #[.pointer (some ⟨q, 0, none⟩), .int .i64 (i : Int)] w fun r w' => r = .returned (.bool (fitsD g t i)) ∧ Below w.heap.size w w' := by
  have HLk := hidden HL
  have HG2 := hidden HG
  have HND := hidden HN
  have HKd := hidden (fun (w' : World) (hb : Below w.heap.size w w') => (show Calls Try.prog 66 #[v, .int .i64 (i : Int)] w' fun r w'' => (∃ u, r = .returned u ∧ Hid (Mine w'' w'.heap.size 3 1 u (kidsL t i).length (ints (kidsL t i)))) ∧ Below w'.heap.size w' w'' from by
    have := arena_Kids v t (i : Int) w' (by omega) (HN.old hb)
    rwa [kidsD_at ht hi] at this))
  have HRw := hidden (fun (vk vi : Value) (its : List Item) (w' : World) (hb : Below w.heap.size w w') (HK : Rd w' (Old w') 1 vk (kidsL t i).length (ints (kidsL t i))) (HI : Rd w' (Old w') 4 vi its.length (its.flatMap itCells)) =>
    look_row a b c v vk vi g t (kidsL t i) its q w' (HG.old hb) (HL.below hb HL.lt) (HN.old hb) HK (fun k hk => kidD_lt ht hi hk) HI)
  obtain ⟨x, hx⟩ : ∃ x, t[i]? = some x := ⟨_, List.getElem?_eq_getElem hi⟩
  obtain ⟨hk1, hk6, _, _, _⟩ := tree_local ht hx
  have hE : Hid (fitsD g t i = (if x.kind = 1 then decide (i = 0) && (decide (x.n = 0) && docD g t (kidsL t i))
    else if x.kind = 2 then decide (0 ≤ x.n) && (match g.prods[x.n.toNat]? with | some p => decide (rowD g t (kidsL t i) p.right = some []) | none => false)
    else if x.kind = 3 then decide (x.n = -2) || (decide (0 ≤ x.n) && decide (x.n < g.toks.length))
    else if x.kind = 4 then true
    else if x.kind = 5 then decide (0 ≤ x.n) && decide (x.n < g.toks.length)
    else decide (0 ≤ x.n) && decide (x.n < g.rules.length))) := hidden (by unfold fitsD; rw [hx]; rfl)
  generalize fitsD g t i = res at *
  have hksl := hidden (fun k (hk : k ∈ kidsL t i) => kidD_lt ht hi hk)
  have hkz := kidsL_len (t := t) i
  have htn := (tree_node ht hi).2.1
  obtain ⟨bt, ot, ct, rfl, hct1, hct2, hTt, hat⟩ := HN.open_ (by intro e; rw [e] at hi; simp at hi)
  obtain ⟨l, z0, z1, z2, z3, z4, hPc⟩ := hat i x hx
  obtain ⟨Al, cl, rfl, _, _⟩ := Rd.val hPc
  generalize hll : x.lead.length = nl at *
  clear hll hPc
  have HAt := hidden hat
  obtain ⟨⟨A1, k1, rfl, v1, m1⟩, ⟨A2, k2, rfl, v2, m2⟩, ⟨A3, k3, rfl, v3, m3⟩⟩ := HG.vals
  obtain ⟨kd, n, sz_, ld, tx⟩ := x
  unfold lkCells at *
  unfold maxLen at m1 m2 m3
  dsimp only at *
  have hqi : (i : Int) < (t.length : Int) := by omega
  obtain ⟨l0, l1, l2, l3, l4, l5, l6, l7, l8⟩ := nineR HL
  have HB1 : Hid (Holds (w.alloc (.cells #[.int .i64 kd, .int .i64 n, .int .i64 sz_, .slice Al nl cl, .string tx] 37)) w.heap.size 37 #[.int .i64 kd, .int .i64 n, .int .i64 sz_, .slice Al nl cl, .string tx]) := hidden (Holds.new w _ _)
  have hb1 : Below w.heap.size w (w.alloc (.cells #[.int .i64 kd, .int .i64 n, .int .i64 sz_, .slice Al nl cl, .string tx] 37)) := (Below.refl _ _).alloc (Nat.le_refl _) _
  clear HG HL HN hat hx
  go_enter Try.func42, Try.ntmps42
  go_upto_region 2 with fail
  clear l0 l1 l2 l3 l4 l5 l6 l7 l8 z0 z1 z2 z3 z4
  generalize (w.alloc (.cells #[.int .i64 kd, .int .i64 n, .int .i64 sz_, .slice Al nl cl, .string tx] 37)) = w1 at *
  obtain ⟨l0, l1, l2, l3, l4, l5, l6, l7, l8⟩ := nineR (HLk.out.below hb1 HLk.out.lt)
  have y0 := HB1.out.cell 0; have y1 := HB1.out.cell 1; have y2 := HB1.out.cell 2; have y3 := HB1.out.cell 3; have y4 := HB1.out.cell 4
  have hkk : kd = 1 ∨ kd = 2 ∨ kd = 3 ∨ kd = 4 ∨ kd = 5 ∨ kd = 6 := by omega
  clear hk1 hk6
  rcases hkk with rfl | rfl | rfl | rfl | rfl | rfl
  · have hE2 : Hid (res = (decide (i = 0) && (decide (n = 0) && docD g t (kidsL t i)))) := hidden (by rw [hE.out, if_pos rfl])
    have hDoc : Hid (docD g t (kidsL t i) = match rowD g t (kidsL t i) [startIt g] with | none => false | some r => match r.dropWhile (isBad t) with | [e] => endAt t e | _ => false) := hidden rfl
    generalize docD g t (kidsL t i) = dd at *
    have HKd3 := hidden (fun w' (hb : Below w1.heap.size w1 w') => HKd.out w' (hb1.trans (hb.mono hb1.size)))
    have HRw3 := hidden (fun vk vi w' (hb : Below w1.heap.size w1 w') (HK : Rd w' (Old w') 1 vk (kidsL t i).length (ints (kidsL t i))) (HI : Rd w' (Old w') 4 vi [startIt g].length ([startIt g].flatMap itCells)) => HRw.out vk vi [startIt g] w' (hb1.trans (hb.mono hb1.size)) HK HI)
    clear hE HKd HRw HG2 l0 l1 l2 l4 l5 l6 l7 y1 y2 y3 y4
    go_wp2_with fail
    go_region_held3 (fun w' => w'.cell? ⟨q, 8, none⟩ = some (.slice (some ⟨bt, ot, none⟩) t.length ct) ∧ w'.cell? ⟨q, 3, none⟩ = some (.int .i64 g.start) ∧ Below w1.heap.size w1 w')
      (first | exact ⟨l8, l3, Below.drew (Below.refl _ _)⟩ | (go_split_ands; exact ⟨cell_more l8 (by (first | assumption | exact Below.drew (Below.refl _ _) | exact Below.refl _ _)) (by assumption), cell_more l3 (by (first | assumption | exact Below.drew (Below.refl _ _) | exact Below.refl _ _)) (by assumption), below_more (by (first | assumption | exact Below.drew (Below.refl _ _) | exact Below.refl _ _)) (by assumption)⟩) | (go_split_ands; exact ⟨cellF (by assumption) ((Below.refl _ _).alloc (Nat.le_refl _) _), cellF (by assumption) ((Below.refl _ _).alloc (Nat.le_refl _) _), Below.alloc (by assumption) (Below.size (by assumption)) _⟩))
      (first | (go_at_call 66; go_split_ands; refine (HKd3.out _ (by (first | assumption | exact Below.drew (Below.refl _ _) | exact Below.refl _ _))).mono ?_; rintro e w5 ⟨⟨u5, rfl, HM5⟩, hb5⟩; obtain ⟨A5, c5, rfl⟩ := HM5.out.value) | (go_at_call 65; go_split_ands; refine (HRw3.out _ _ _ (by first | exact below_more (by (first | assumption | exact Below.drew (Below.refl _ _) | exact Below.refl _ _)) hb5 | exact (below_more (by (first | assumption | exact Below.drew (Below.refl _ _) | exact Below.refl _ _)) hb5).alloc (below_more (by (first | assumption | exact Below.drew (Below.refl _ _) | exact Below.refl _ _)) hb5).size _) (by first | exact ints_rd HM5.out | exact Rd.old (ints_rd HM5.out) ((Below.refl _ _).alloc (Nat.le_refl _) _)) (by first | exact rd_lit' (Holds.new _ _ _) (by simp [Old]) rfl rfl (by decide) | exact Rd.old (rd_lit' (Holds.new w1.drew _ _) (by simp [Old]) rfl rfl (by decide)) hb5)).mono ?_; rintro e w6 ⟨⟨u6, fine, k6, rfl, hs6, hro, HR6⟩, hb6⟩; obtain ⟨A6, c6, rfl, _, _⟩ := HR6.out.val))
    all_goals
      have HRf := hidden (Rd.old HR6.out hb6)
      have hbf : Below w1.heap.size w1 w6 := by go_split_ands; assumption
      have HBf := hidden (HB1.out.below hbf HB1.out.lt)
      clear HR6 hb6 hb5 HM5 HKd3 HRw3 l8 l3 HB1
      go_wp2
      go_loopw [7] (fun kv wi => ∃ kk : List Nat, kk <:+ kidsL t i ∧ Hid (k6.dropWhile (isBad t) = kk.dropWhile (isBad t)) ∧ Hid (Rd w6 (Old w6) 1 kv kk.length (ints kk)) ∧ Hid (Below w6.heap.size w6 wi)) (fun kv wi => lenV kv)
      case atStart => exact ⟨k6, hs6, hidden rfl, HRf, hidden (Below.refl _ _)⟩
      case round =>
        clear HRf
        obtain ⟨kk, hs, hD, HK, HB⟩ := hrel
        cases kk with
        | nil =>
          obtain ⟨A9, c9, rfl⟩ := rd_nilv HK.out
          have hb6r := hbf.trans (HB.out.mono hbf.size)
          have hwr := hb1.trans (hb6r.mono hb1.size)
          have l8 : wr.cell? ⟨q, 8, none⟩ = some (.slice (some ⟨bt, ot, none⟩) t.length ct) := (HLk.out.below hwr HLk.out.lt).cell 8
          have e0 := Ext.cell l8
          go_wp2_with fail
          refine wp_region_ext (by kernel_rfl) (by kernel_rfl) ?_
          repeat (go_big_quiet_step (fail))
          refine wpQuiet_nil ?_
          intro w7 hb7
          clear e0 l8 hwr hb6r
          replace HB := hidden (HB.out.trans (hb7.mono HB.out.size))
          clear hb7
          have y1 : w7.cell? ⟨w.heap.size, 1, none⟩ = some (.int .i64 n) := (HBf.out.below HB.out HBf.out.lt).cell 1
          have hdd : dd = false := by
            rw [hDoc.out, hro.out]
            cases fine
            · rfl
            · simp only [if_true]
              rw [hD.out]
              rfl
          have he : Hid (res = false) := hidden (by rw [hE2.out, hdd]; simp)
          clear hE2 hDoc hD hro hdd HK
          cases fine
          · have hbwf := hb1.trans (hbf.mono hb1.size)
            have hbe := hbwf.trans (HB.out.mono hbwf.size)
            clear HB HBf HLk HAt HND hbf
            go_wp2
            go_ret
            exact ⟨by rw [he.out]; rfl, hbe⟩
          · have hbwf := hb1.trans (hbf.mono hb1.size)
            have hbe := hbwf.trans (HB.out.mono hbwf.size)
            clear HB HBf HLk HAt HND hbf
            go_wp2
            go_ret
            exact ⟨by rw [he.out]; rfl, hbe⟩
        | cons k r =>
          obtain ⟨b9, o9, c9, n9, hu, hn9, hn0, hnc, hcm, _, z5, ht1, ht2⟩ := rd_cons HK.out
          subst hu
          have hkt := hksl.out k (hs.subset List.mem_cons_self)
          have hs2 : r <:+ kidsL t i := List.IsSuffix.trans (List.suffix_cons k r) hs
          obtain ⟨y, hy⟩ : ∃ y, t[k]? = some y := ⟨_, List.getElem?_eq_getElem hkt⟩
          obtain ⟨ly, z0, z1, z2, z3, z4, hPc⟩ := HAt.out k y hy
          obtain ⟨Ay, cy, rfl, _, _⟩ := Rd.val hPc
          generalize hll : y.lead.length = ny at *
          clear hll hPc
          have hbad : Hid (isBad t k = decide (y.kind = 4)) := hidden (by unfold isBad kindAt; rw [hy])
          have hend : Hid (endAt t k = (decide (y.kind = 3) && (decide (y.n = -2) && decide (y.text = ⟨#[]⟩)))) := hidden (by unfold endAt; rw [hy])
          have qk : (k : Int) < (t.length : Int) := by omega
          have q1 : decide ((0 : Int) < (n9 : Int)) = true := decide_eq_true (by omega)
          unfold maxLen at hcm
          have hb6r := hbf.trans (HB.out.mono hbf.size)
          have hwr := hb1.trans (hb6r.mono hb1.size)
          have l8 : wr.cell? ⟨q, 8, none⟩ = some (.slice (some ⟨bt, ot, none⟩) t.length ct) := (HLk.out.below hwr HLk.out.lt).cell 8
          have e0 := Ext.cell l8
          have u0 := cellF z5 HB.out; have u1 := cellF z0 hwr
          have e1 := Ext.cell u0; have e2 := Ext.cell u1
          by_cases h4 : y.kind = 4
          · have q3 : (y.kind == 4) = true := by rw [h4]; rfl
            have hD2 : Hid (k6.dropWhile (isBad t) = r.dropWhile (isBad t)) := hidden (by rw [hD.out, List.dropWhile_cons, if_pos (by rw [hbad.out]; exact decide_eq_true h4)])
            clear hD hbad hend
            go_wp2_with fail
            refine wp_region_ext (by kernel_rfl) (by kernel_rfl) ?_
            repeat (go_big_quiet_step (fail))
            refine wpQuiet_nil ?_
            intro w7 hb7
            clear e0 e1 e2 u0 u1 l8 hwr hb6r
            replace HB := hidden (HB.out.trans (hb7.mono HB.out.size))
            clear hb7
            by_cases hc9 : c9 = 1
            · have HT := hidden (ht1 hc9).out
              have hnn : n9 - 1 = 0 := by omega
              rw [hnn] at HT
              subst hc9
              clear ht1 ht2 z0 z1 z2 z3 z4 z5
              go_wp2
              go_roundw
              case rel => exact ⟨r, hs2, hD2, HT, HB⟩
              case measure => simp [lenV]; omega
            · have HT := hidden (ht2 hc9).out
              clear ht1 ht2 z0 z1 z2 z3 z4 z5
              go_wp2
              go_roundw
              case rel => exact ⟨r, hs2, hD2, HT, HB⟩
              case measure => simp [lenV]; omega
          · have q3 : (y.kind == 4) = false := beq_eq_false_iff_ne.2 h4
            have hD2 : Hid (k6.dropWhile (isBad t) = k :: r) := hidden (by rw [hD.out, List.dropWhile_cons, if_neg (by rw [hbad.out, decide_eq_false h4]; decide)])
            clear hD hbad ht1 ht2
            go_wp2_with fail
            refine wp_region_ext (by kernel_rfl) (by kernel_rfl) ?_
            repeat (go_big_quiet_step (fail))
            refine wpQuiet_nil ?_
            intro w7 hb7
            clear e0 e1 e2 u0 u1 l8 hwr hb6r
            replace HB := hidden (HB.out.trans (hb7.mono HB.out.size))
            clear hb7
            have y1 : w7.cell? ⟨w.heap.size, 1, none⟩ = some (.int .i64 n) := (HBf.out.below HB.out HBf.out.lt).cell 1
            cases fine
            · have hdd : dd = false := by rw [hDoc.out, hro.out]; rfl
              have he : Hid (res = false) := hidden (by rw [hE2.out, hdd]; simp)
              clear hE2 hDoc hD2 hro hdd HK z0 z1 z2 z3 z4 z5 hend
              have hbwf := hb1.trans (hbf.mono hb1.size)
              have hbe := hbwf.trans (HB.out.mono hbwf.size)
              clear HB HBf HLk HAt HND hbf
              go_wp2
              go_ret
              exact ⟨by rw [he.out]; rfl, hbe⟩
            · have hdd2 : dd = (match k :: r with | [e] => endAt t e | _ => false) := by rw [hDoc.out, hro.out]; simp only [if_true]; rw [hD2.out]
              have HDD := hidden hdd2
              clear hDoc hro hdd2 hD2
              by_cases hr : r = []
              · subst hr
                obtain rfl : n9 = 1 := hn9.out
                have hdd : dd = endAt t k := HDD.out
                by_cases hi0 : i = 0
                · have q6 : decide ((0 : Int) < (i : Int)) = false := decide_eq_false (by omega)
                  by_cases hn : n = 0
                  · subst hn
                    have hE3 : Hid (res = (decide (y.kind = 3) && (decide (y.n = -2) && decide (y.text = ⟨#[]⟩)))) := hidden (by rw [hE2.out, decide_eq_true hi0, hdd, hend.out]; simp)
                    clear hE2 HDD hdd hend HK
                    go_upto_region 14 with fail
                    have hb67 := hbf.trans (HB.out.mono hbf.size)
                    have hw7 := hb1.trans (hb67.mono hb1.size)
                    have l8 : w7.cell? ⟨q, 8, none⟩ = some (.slice (some ⟨bt, ot, none⟩) t.length ct) := (HLk.out.below hw7 HLk.out.lt).cell 8
                    have u0 := cellF z5 HB.out
                    have u1 := cellF z0 hw7; have u2 := cellF z1 hw7; have u3 := cellF z2 hw7; have u4 := cellF z3 hw7; have u5 := cellF z4 hw7
                    clear z0 z1 z2 z3 z4 z5 y1 HAt HND HLk HB HBf hb67
                    go_region_held3 (fun w' => w'.cell? ⟨q, 8, none⟩ = some (.slice (some ⟨bt, ot, none⟩) t.length ct) ∧ w'.cell? ⟨b9, o9, none⟩ = some (.int .i64 (k : Int)) ∧ w'.cell? ⟨bt, ot + k * 5, none⟩ = some (.int .i64 y.kind) ∧ w'.cell? ⟨bt, ot + k * 5 + 1, none⟩ = some (.int .i64 y.n) ∧ w'.cell? ⟨bt, ot + k * 5 + 2, none⟩ = some (.int .i64 y.size) ∧ w'.cell? ⟨bt, ot + k * 5 + 3, none⟩ = some (.slice Ay ny cy) ∧ w'.cell? ⟨bt, ot + k * 5 + 4, none⟩ = some (.string y.text) ∧ Below w7.heap.size w7 w')
                      (first | exact ⟨l8, u0, u1, u2, u3, u4, u5, Below.drew (Below.refl _ _)⟩ | (go_split_ands; exact ⟨cellF (by assumption) ((Below.refl _ _).alloc (Nat.le_refl _) _), cellF (by assumption) ((Below.refl _ _).alloc (Nat.le_refl _) _), cellF (by assumption) ((Below.refl _ _).alloc (Nat.le_refl _) _), cellF (by assumption) ((Below.refl _ _).alloc (Nat.le_refl _) _), cellF (by assumption) ((Below.refl _ _).alloc (Nat.le_refl _) _), cellF (by assumption) ((Below.refl _ _).alloc (Nat.le_refl _) _), cellF (by assumption) ((Below.refl _ _).alloc (Nat.le_refl _) _), Below.alloc (by assumption) (Below.size (by assumption)) _⟩) | exact ⟨cellF l8 (by first | exact ((Below.refl _ _).alloc (Nat.le_refl _) _).drew | exact (Below.refl _ _).alloc (Nat.le_refl _) _), cellF u0 (by first | exact ((Below.refl _ _).alloc (Nat.le_refl _) _).drew | exact (Below.refl _ _).alloc (Nat.le_refl _) _), cellF u1 (by first | exact ((Below.refl _ _).alloc (Nat.le_refl _) _).drew | exact (Below.refl _ _).alloc (Nat.le_refl _) _), cellF u2 (by first | exact ((Below.refl _ _).alloc (Nat.le_refl _) _).drew | exact (Below.refl _ _).alloc (Nat.le_refl _) _), cellF u3 (by first | exact ((Below.refl _ _).alloc (Nat.le_refl _) _).drew | exact (Below.refl _ _).alloc (Nat.le_refl _) _), cellF u4 (by first | exact ((Below.refl _ _).alloc (Nat.le_refl _) _).drew | exact (Below.refl _ _).alloc (Nat.le_refl _) _), cellF u5 (by first | exact ((Below.refl _ _).alloc (Nat.le_refl _) _).drew | exact (Below.refl _ _).alloc (Nat.le_refl _) _), (by first | exact ((Below.refl _ _).alloc (Nat.le_refl _) _).drew | exact (Below.refl _ _).alloc (Nat.le_refl _) _)⟩)
                      (fail)
                    all_goals
                      clear l8 u0 u1 u2 u3 u4 u5
                      by_cases h3 : y.kind = 3
                      · have q8 : (y.kind == 3) = true := by rw [h3]; rfl
                        by_cases hm2 : y.n = -2
                        · have q9 : (y.n == -2) = true := by rw [hm2]; rfl
                          by_cases htx : y.text = ⟨#[]⟩
                          · have qt : y.text.toList.isEmpty = true := by rw [htx]; exact text_none
                            have he : Hid (res = true) := hidden (by rw [hE3.out, decide_eq_true h3, decide_eq_true hm2, decide_eq_true htx]; simp)
                            clear hE3
                            go_wp2
                            go_ret
                            exact ⟨by rw [he.out]; rfl, hw7.trans (Below.mono (show Below w7.heap.size w7 _ from (by first | exact ((Below.refl _ _).alloc (Nat.le_refl _) _).drew | exact (Below.refl _ _).alloc (Nat.le_refl _) _)) hw7.size)⟩
                          · have qt : y.text.toList.isEmpty = false := text_ne htx
                            have he : Hid (res = false) := hidden (by rw [hE3.out, decide_eq_false htx]; simp)
                            clear hE3
                            go_wp2
                            go_ret
                            exact ⟨by rw [he.out]; rfl, hw7.trans (Below.mono (show Below w7.heap.size w7 _ from (by first | exact ((Below.refl _ _).alloc (Nat.le_refl _) _).drew | exact (Below.refl _ _).alloc (Nat.le_refl _) _)) hw7.size)⟩
                        · have q9 : (y.n == -2) = false := beq_eq_false_iff_ne.2 hm2
                          have he : Hid (res = false) := hidden (by rw [hE3.out, decide_eq_false hm2]; simp)
                          clear hE3
                          go_wp2
                          go_ret
                          exact ⟨by rw [he.out]; rfl, hw7.trans (Below.mono (show Below w7.heap.size w7 _ from (by first | exact ((Below.refl _ _).alloc (Nat.le_refl _) _).drew | exact (Below.refl _ _).alloc (Nat.le_refl _) _)) hw7.size)⟩
                      · have q8 : (y.kind == 3) = false := beq_eq_false_iff_ne.2 h3
                        have he : Hid (res = false) := hidden (by rw [hE3.out, decide_eq_false h3]; simp)
                        clear hE3
                        go_wp2
                        go_ret
                        exact ⟨by rw [he.out]; rfl, hw7.trans (Below.mono (show Below w7.heap.size w7 _ from (by first | exact ((Below.refl _ _).alloc (Nat.le_refl _) _).drew | exact (Below.refl _ _).alloc (Nat.le_refl _) _)) hw7.size)⟩
                  · have q7 : (n != 0) = true := by simpa using hn
                    have he : Hid (res = false) := hidden (by rw [hE2.out, decide_eq_false hn, Bool.false_and]; simp)
                    clear hE2 HDD hdd HK z0 z1 z2 z3 z4 z5 hend
                    have hbwf := hb1.trans (hbf.mono hb1.size)
                    have hbe := hbwf.trans (HB.out.mono hbwf.size)
                    clear HB HBf HLk HAt HND hbf
                    go_wp2
                    go_ret
                    exact ⟨by rw [he.out]; rfl, hbe⟩
                · have q6 : decide ((0 : Int) < (i : Int)) = true := decide_eq_true (by omega)
                  have he : Hid (res = false) := hidden (by rw [hE2.out, decide_eq_false hi0]; simp)
                  clear hE2 HDD hdd HK z0 z1 z2 z3 z4 z5 hend
                  have hbwf := hb1.trans (hbf.mono hb1.size)
                  have hbe := hbwf.trans (HB.out.mono hbwf.size)
                  clear HB HBf HLk HAt HND hbf
                  go_wp2
                  go_ret
                  exact ⟨by rw [he.out]; rfl, hbe⟩
              · have q5 : ((n9 : Int) != 1) = true := by
                  have := hn9.out
                  have := List.length_pos_iff.2 hr
                  rw [bne_iff_ne]; omega
                have hdd : dd = false := by
                  rw [HDD.out]
                  cases r with
                  | nil => exact absurd rfl hr
                  | cons _ _ => rfl
                have he : Hid (res = false) := hidden (by rw [hE2.out, hdd]; simp)
                clear hE2 HDD hdd HK z0 z1 z2 z3 z4 z5 hend hr
                have hbwf := hb1.trans (hbf.mono hb1.size)
                have hbe := hbwf.trans (HB.out.mono hbwf.size)
                clear HB HBf HLk HAt HND hbf
                go_wp2
                go_ret
                exact ⟨by rw [he.out]; rfl, hbe⟩
  · by_cases h0 : n < 0
    · have q0 : decide (n < 0) = true := decide_eq_true h0
      have he : Hid (res = false) := hidden (by rw [hE.out, if_neg (by decide), if_pos rfl]; rw [decide_eq_false (by omega)]; rfl)
      clear hE HKd HRw HAt HND HG2
      have e0 := Ext.cell y1; have e1 := Ext.cell l2
      go_wp2_with fail
      refine wp_region_ext (by kernel_rfl) (by kernel_rfl) ?_
      repeat (go_big_quiet_step (fail))
      refine wpQuiet_nil ?_
      intro w2 hb2
      clear e0 e1 l0 l1 l2 l3 l4 l5 l6 l7 l8 y0 y1 y2 y3 y4
      have hz1 := hb1.size
      replace HB1 := hidden (HB1.out.below hb2 HB1.out.lt)
      replace hb1 := hb1.trans (hb2.mono hz1)
      clear hb2 hz1
      go_wp2
      go_ret
      exact ⟨by rw [he.out]; rfl, hb1⟩
    · have q0 : decide (n < 0) = false := decide_eq_false h0
      obtain ⟨m, rfl⟩ : ∃ m : Nat, n = (m : Int) := ⟨n.toNat, by omega⟩
      by_cases hm : m < g.prods.length
      · have q1 : decide ((g.prods.length : Int) ≤ (m : Int)) = false := decide_eq_false (by omega)
        have hpx := List.getElem?_eq_getElem hm
        generalize g.prods[m] = p at *
        have hE2 : Hid (res = decide (rowD g t (kidsL t i) p.right = some [])) := hidden (by rw [hE.out, if_neg (by decide), if_pos rfl, Int.toNat_natCast, hpx, decide_eq_true (by omega)]; rfl)
        obtain ⟨bp, op, up, e7, _, hpat, hpin⟩ := Recs.at_ HG2.out.2.2 hpx
        subst e7
        clear hE
        have e0 := Ext.cell y1; have e1 := Ext.cell l2
        go_wp2_with fail
        refine wp_region_ext (by kernel_rfl) (by kernel_rfl) ?_
        repeat (go_big_quiet_step (fail))
        refine wpQuiet_nil ?_
        intro w2 hb2
        clear e0 e1 l0 l1 l2 l3 l4 l5 l6 l7 l8 y0 y1 y2 y3 y4
        have hz1 := hb1.size
        replace HB1 := hidden (HB1.out.below hb2 HB1.out.lt)
        replace hb1 := hb1.trans (hb2.mono hz1)
        clear hb2 hz1
        have p1 := hpat 1 _ rfl
        have hpin2 : Rd w (Old w) 4 up p.right.length (p.right.flatMap itCells) := hpin
        obtain ⟨Ar, cr, rfl, _, _⟩ := hpin2.val
        have p2 : w.cell? ⟨bp, op + m * 2 + 1, none⟩ = some (.slice Ar p.right.length cr) := p1
        obtain ⟨l0, l1, l2, l3, l4, l5, l6, l7, l8⟩ := nineR (HLk.out.below hb1 HLk.out.lt)
        have y1 := HB1.out.cell 1
        replace p2 := cellF p2 hb1
        have HKd3 := hidden (fun w' (hb : Below w2.heap.size w2 w') => HKd.out w' (hb1.trans (hb.mono hb1.size)))
        have HRw3 := hidden (fun vk w' (hb : Below w2.heap.size w2 w') (HK : Rd w' (Old w') 1 vk (kidsL t i).length (ints (kidsL t i))) => HRw.out vk _ p.right w' (hb1.trans (hb.mono hb1.size)) HK (Rd.old hpin2 (hb1.trans (hb.mono hb1.size))))
        have HPX := hidden hpx
        have hqm : (m : Int) < (g.prods.length : Int) := by omega
        clear p1 hpin hpat hpin2 HRw HKd HG2 hpx l0 l1 l3 l4 l5 l6 l7
        go_wp2_with fail
        go_region_held3 (fun w' => w'.cell? ⟨q, 8, none⟩ = some (.slice (some ⟨bt, ot, none⟩) t.length ct) ∧ w'.cell? ⟨q, 2, none⟩ = some (.slice (some ⟨bp, op, none⟩) g.prods.length k3) ∧ w'.cell? ⟨w.heap.size, 1, none⟩ = some (.int .i64 (m : Int)) ∧ w'.cell? ⟨bp, op + m * 2 + 1, none⟩ = some (.slice Ar p.right.length cr) ∧ Below w2.heap.size w2 w')
          (first | exact ⟨l8, l2, y1, p2, Below.drew (Below.refl _ _)⟩ | (go_split_ands; exact ⟨cell_more l8 (by (first | assumption | exact Below.drew (Below.refl _ _) | exact Below.refl _ _)) (by assumption), cell_more l2 (by (first | assumption | exact Below.drew (Below.refl _ _) | exact Below.refl _ _)) (by assumption), cell_more y1 (by (first | assumption | exact Below.drew (Below.refl _ _) | exact Below.refl _ _)) (by assumption), cell_more p2 (by (first | assumption | exact Below.drew (Below.refl _ _) | exact Below.refl _ _)) (by assumption), below_more (by (first | assumption | exact Below.drew (Below.refl _ _) | exact Below.refl _ _)) (by assumption)⟩))
          (first | (go_at_call 66; go_split_ands; refine (HKd3.out _ (by (first | assumption | exact Below.drew (Below.refl _ _) | exact Below.refl _ _))).mono ?_; rintro e w5 ⟨⟨u5, rfl, HM5⟩, hb5⟩; obtain ⟨A5, c5, rfl⟩ := HM5.out.value) | (go_at_call 65; go_split_ands; refine (HRw3.out _ w5 (below_more (by (first | assumption | exact Below.drew (Below.refl _ _) | exact Below.refl _ _)) hb5) (ints_rd HM5.out)).mono ?_; rintro e w6 ⟨⟨u6, fine, k6, rfl, hs6, hro, HR6⟩, hb6⟩; obtain ⟨A6, c6, rfl, _, _⟩ := HR6.out.val))
        have hb5' : Below w2.heap.size w2 w5 := ⟨hb5.os, hb5.tape, hb5.output, hb5.size, hb5.block⟩
        have hb56 : Below w2.heap.size w2 w6 := below_more hb5' hb6
        have hbf := below_more hb1 (hb56.mono (Nat.le_refl _))
        clear l8 l2 y1 p2 HKd3 HRw3 hb5 hb6 hb5' hb56 HM5 HR6 HLk
        cases fine
        · have he : Hid (res = false) := hidden (by rw [hE2.out, hro.out]; simp)
          clear hE2 hro
          go_wp2
          go_ret
          exact ⟨by rw [he.out]; rfl, hbf⟩
        · by_cases h6 : k6 = []
          · have he : Hid (res = true) := hidden (by rw [hE2.out, hro.out, h6]; simp)
            subst h6
            clear hE2 hro
            go_wp2
            go_ret
            exact ⟨by rw [he.out]; rfl, hbf⟩
          · have he : Hid (res = false) := hidden (by rw [hE2.out, hro.out]; simp [h6])
            have q6 : ((k6.length : Int) == 0) = false := beq_eq_false_iff_ne.2 (by have := List.length_pos_iff.2 h6; omega)
            clear hE2 hro h6
            go_wp2
            go_ret
            exact ⟨by rw [he.out]; rfl, hbf⟩
      · have q1 : decide ((g.prods.length : Int) ≤ (m : Int)) = true := decide_eq_true (by omega)
        have he : Hid (res = false) := hidden (by rw [hE.out, if_neg (by decide), if_pos rfl]; rw [Int.toNat_natCast, List.getElem?_eq_none (by omega)]; simp)
        clear hE HKd HRw HAt HND HG2
        have e0 := Ext.cell y1; have e1 := Ext.cell l2
        go_wp2_with fail
        refine wp_region_ext (by kernel_rfl) (by kernel_rfl) ?_
        repeat (go_big_quiet_step (fail))
        refine wpQuiet_nil ?_
        intro w2 hb2
        clear e0 e1 l0 l1 l2 l3 l4 l5 l6 l7 l8 y0 y1 y2 y3 y4
        have hz1 := hb1.size
        replace HB1 := hidden (HB1.out.below hb2 HB1.out.lt)
        replace hb1 := hb1.trans (hb2.mono hz1)
        clear hb2 hz1
        go_wp2
        go_ret
        exact ⟨by rw [he.out]; rfl, hb1⟩
  · by_cases h2 : n = -2
    · subst h2
      have he : Hid (res = true) := hidden (by rw [hE.out, if_neg (by decide), if_neg (by decide), if_pos rfl]; simp)
      clear hE HKd HRw HAt HND HG2
      go_wp2
      go_ret
      exact ⟨by rw [he.out]; rfl, hb1⟩
    · have q2 : (n == -2) = false := beq_eq_false_iff_ne.2 h2
      by_cases h0 : 0 ≤ n
      · have q0 : decide (0 ≤ n) = true := decide_eq_true h0
        by_cases h1 : n < g.toks.length
        · have q1 : decide (n < (g.toks.length : Int)) = true := decide_eq_true h1
          have he : Hid (res = true) := hidden (by rw [hE.out, if_neg (by decide), if_neg (by decide), if_pos rfl]; rw [decide_eq_false h2, Bool.false_or]; rw [q0, q1]; rfl)
          clear hE HKd HRw HAt HND HG2
          go_wp2
          go_ret
          exact ⟨by rw [he.out]; rfl, hb1⟩
        · have q1 : decide (n < (g.toks.length : Int)) = false := decide_eq_false h1
          have he : Hid (res = false) := hidden (by rw [hE.out, if_neg (by decide), if_neg (by decide), if_pos rfl]; rw [decide_eq_false h2, Bool.false_or]; rw [q0, q1]; rfl)
          clear hE HKd HRw HAt HND HG2
          go_wp2
          go_ret
          exact ⟨by rw [he.out]; rfl, hb1⟩
      · have q0 : decide (0 ≤ n) = false := decide_eq_false h0
        have he : Hid (res = false) := hidden (by rw [hE.out, if_neg (by decide), if_neg (by decide), if_pos rfl]; rw [decide_eq_false h2, Bool.false_or]; rw [q0]; rfl)
        clear hE HKd HRw HAt HND HG2
        go_wp2
        go_ret
        exact ⟨by rw [he.out]; rfl, hb1⟩
  · have he : Hid (res = true) := hidden (by rw [hE.out, if_neg (by decide), if_neg (by decide), if_neg (by decide), if_pos rfl])
    clear hE HKd HRw HAt HND HG2
    go_wp2
    go_ret
    exact ⟨by rw [he.out]; rfl, hb1⟩
  · by_cases h0 : 0 ≤ n
    · have q0 : decide (0 ≤ n) = true := decide_eq_true h0
      by_cases h1 : n < g.toks.length
      · have q1 : decide (n < (g.toks.length : Int)) = true := decide_eq_true h1
        have he : Hid (res = true) := hidden (by rw [hE.out, if_neg (by decide), if_neg (by decide), if_neg (by decide), if_neg (by decide), if_pos rfl]; rw [q0, q1]; rfl)
        clear hE HKd HRw HAt HND HG2
        go_wp2
        go_ret
        exact ⟨by rw [he.out]; rfl, hb1⟩
      · have q1 : decide (n < (g.toks.length : Int)) = false := decide_eq_false h1
        have he : Hid (res = false) := hidden (by rw [hE.out, if_neg (by decide), if_neg (by decide), if_neg (by decide), if_neg (by decide), if_pos rfl]; rw [q0, q1]; rfl)
        clear hE HKd HRw HAt HND HG2
        go_wp2
        go_ret
        exact ⟨by rw [he.out]; rfl, hb1⟩
    · have q0 : decide (0 ≤ n) = false := decide_eq_false h0
      have he : Hid (res = false) := hidden (by rw [hE.out, if_neg (by decide), if_neg (by decide), if_neg (by decide), if_neg (by decide), if_pos rfl]; rw [q0]; rfl)
      clear hE HKd HRw HAt HND HG2
      go_wp2
      go_ret
      exact ⟨by rw [he.out]; rfl, hb1⟩
  · by_cases h0 : 0 ≤ n
    · have q0 : decide (0 ≤ n) = true := decide_eq_true h0
      by_cases h1 : n < g.rules.length
      · have q1 : decide (n < (g.rules.length : Int)) = true := decide_eq_true h1
        have he : Hid (res = true) := hidden (by rw [hE.out, if_neg (by decide), if_neg (by decide), if_neg (by decide), if_neg (by decide), if_neg (by decide)]; rw [q0, q1]; rfl)
        clear hE HKd HRw HAt HND HG2
        go_wp2
        go_ret
        exact ⟨by rw [he.out]; rfl, hb1⟩
      · have q1 : decide (n < (g.rules.length : Int)) = false := decide_eq_false h1
        have he : Hid (res = false) := hidden (by rw [hE.out, if_neg (by decide), if_neg (by decide), if_neg (by decide), if_neg (by decide), if_neg (by decide)]; rw [q0, q1]; rfl)
        clear hE HKd HRw HAt HND HG2
        go_wp2
        go_ret
        exact ⟨by rw [he.out]; rfl, hb1⟩
    · have q0 : decide (0 ≤ n) = false := decide_eq_false h0
      have he : Hid (res = false) := hidden (by rw [hE.out, if_neg (by decide), if_neg (by decide), if_neg (by decide), if_neg (by decide), if_neg (by decide)]; rw [q0]; rfl)
      clear hE HKd HRw HAt HND HG2
      go_wp2
      go_ret
      exact ⟨by rw [he.out]; rfl, hb1⟩
end Go.Proofs.Ytmmhkjdnejeooaa.T
