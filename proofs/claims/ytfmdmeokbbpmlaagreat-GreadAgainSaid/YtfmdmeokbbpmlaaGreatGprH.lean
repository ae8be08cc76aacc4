/-
  The document's ShowProd.
-/
import Derived.Test.YtfmdmeokbbpmlaaGreatGprG
namespace Go.Proofs.YtfmdmeokbbpmlaaGreat
open Go.RowKit Go.Shelf

theorem line_start (nm : ByteArray) : (⟨#[114, 117, 108, 101, 32]⟩ : ByteArray) ++ nm = lineB ruleW [nm] := by
  rw [show [nm] = [] ++ [nm] from rfl, lineB_snoc, lineB_nil, ← ba_assoc]
  rfl
theorem line_more (x y : ByteArray) (r : List ByteArray) : lineB x r ++ (⟨#[32]⟩ : ByteArray) ++ y = lineB x (r ++ [y]) := by
  rw [lineB_snoc, ba_assoc]
set_option maxRecDepth 20000 in
set_option maxHeartbeats 16000000 in
theorem ref_ShowProd19 (a b c lv : Value) (g : Gram) (p : Prod) (w : World) (HG : GramIs w (Old w) a b c g) (s1 : g.toks.length ≤ 100000) (s2 : g.rules.length ≤ 100000) (s3 : g.prods.length ≤ 100000) (hz : Named g)
    (HL : Rd w (Old w) 4 lv p.right.length (p.right.flatMap itCells)) (hl : p.right.length ≤ 10000) :
    Calls Tryz.prog 33 #[.agg (gramCells a b c g), .agg #[.int .i64 p.left, lv]] w fun r w' => r = .returned (.string (showProd g p)) ∧ Below w.heap.size w w' := by
  have HR := hidden (fun (w' : World) (hb : Below w.heap.size w w') => ref_Check a b c g w' (HG.old hb) s1 s2 s3 hz)
  have hq1 : Hid (∀ w, (Op.equalIn 10000 35 (.agg #[.int .i64 (checkOf g).kind, .int .i64 (checkOf g).at_, .int .i64 (checkOf g).more]) (.agg #[.int .i64 0, .int .i64 0, .int .i64 0])).run Tryz.prog w = .ok (rightB g) w) := hidden (fun w => by
    have := def_eq_run w (checkOf g) D0
    rw [right_eq] at this
    exact this)
  have HNm := hidden (fun (h : rightB g = true) => right_names h)
  have HIt := hidden (fun (x : Item) (w' : World) (hb : Below w.heap.size w w') => ref_ShowItem19 a b c g x w' (HG.old hb) s1 s2 s3 hz)
  have HRu := hidden (fun (w' : World) (hb : Below w.heap.size w w') => Rd.old HG.2.1 hb)
  have HLs := hidden (fun (w' : World) (hb : Below w.heap.size w w') => Rd.old HL hb)
  obtain ⟨A1, k1, rfl, h11, h12⟩ := HG.1.value
  obtain ⟨A2, k2, rfl, h21, h22⟩ := HG.2.1.val
  obtain ⟨A3, k3, rfl, h31, h32⟩ := HG.2.2.value
  obtain ⟨A4, k4, rfl, h41, h42⟩ := HL.val
  unfold maxLen at h12 h22 h32 h42
  have hb1 := ((Below.refl w.heap.size w).alloc (Nat.le_refl _) (.cells (gramCells (.slice A1 g.toks.length k1) (.slice A2 g.rules.length k2) (.slice A3 g.prods.length k3) g) 27))
  have hb := hb1.alloc hb1.size (.cells #[.int .i64 p.left, .slice A4 p.right.length k4] 50)
  have HJ := (Holds.new w 27 (gramCells (.slice A1 g.toks.length k1) (.slice A2 g.rules.length k2) (.slice A3 g.prods.length k3) g)).alloc (.cells #[.int .i64 p.left, .slice A4 p.right.length k4] 50)
  have HB := Holds.new (w.alloc (.cells (gramCells (.slice A1 g.toks.length k1) (.slice A2 g.rules.length k2) (.slice A3 g.prods.length k3) g) 27)) 50 #[.int .i64 p.left, .slice A4 p.right.length k4]
  rw [World.size_alloc] at HB
  have HJx := hidden HJ
  have HBx := hidden HB
  obtain ⟨res, HE⟩ : ∃ res, Hid (showProd g p = res) := ⟨_, hidden rfl⟩
  rw [HE.out]
  unfold gramCells defC itV at *
  clear HG hz HJ HB hb1 HL
  go_enter Tryz.func33, Tryz.ntmps33
  go_upto_region 1 with fail
  generalize ((w.alloc (.cells #[.slice A1 g.toks.length k1, .slice A2 g.rules.length k2, .slice A3 g.prods.length k3, .int .i64 g.start, .int .i64 g.states, .int .i64 g.text, .int .i64 g.nodes, .int .i64 g.pairs] 27)).alloc (.cells #[.int .i64 p.left, .slice A4 p.right.length k4] 50)) = w1 at *
  obtain ⟨g0, g1, g2, g3, g4, g5, g6, g7⟩ := gcells HJx.out
  have HX := hidden (HR.out w1 hb)
  go_wp2_with fail
  refine HX.out.mono ?_
  rintro r w2 ⟨rfl, hb2⟩
  replace HJx := hidden (HJx.out.below hb2 HJx.out.lt)
  replace HBx := hidden (HBx.out.below hb2 HBx.out.lt)
  have hb3 := hb.trans (hb2.mono hb.size)
  clear g0 g1 g2 g3 g4 g5 g6 g7 HX HR hb hb2
  obtain ⟨g0, g1, g2, g3, g4, g5, g6, g7⟩ := gcells HJx.out
  have i0 := HBx.out.c20
  have i1 := HBx.out.c21
  have hq := hq1.out
  cases hr : rightB g with
  | false =>
    rw [hr] at hq
    have e0 : res = ByteArray.empty := by rw [← HE.out]; unfold showProd; rw [hr]; rfl
    subst e0
    clear HE HNm hr HRu HIt HLs hq1
    go_wp2
    go_ret
    exact ⟨rfl, hb3⟩
  | true =>
    rw [hr] at hq
    have HZ := hidden (HNm.out hr)
    have HE1 : Hid (prodT g p = res) := hidden (by rw [← HE.out]; unfold showProd; rw [hr]; rfl)
    have HSi : Hid (∀ x, showItem g x = itemT g x) := hidden (fun x => by unfold showItem; rw [hr]; rfl)
    clear HE HNm hr hq1
    by_cases h1 : 0 ≤ p.left ∧ p.left < (g.rules.length : Int)
    · obtain ⟨h1, h2⟩ := h1
      obtain ⟨j, hj⟩ : ∃ j : Nat, p.left = (j : Int) := ⟨p.left.toNat, by omega⟩
      have hjl : j < g.rules.length := by omega
      obtain ⟨b5, off5, e5, hT5, hc5⟩ := strs_at (HRu.out _ hb3) (List.getElem?_eq_getElem hjl)
      have hE2 : Hid ((if p.right.all (itemOk g) = true then lineB ruleW (g.rules[j] :: p.right.map (itemT g)) else ByteArray.empty) = res) := hidden (by
        rw [← HE1.out]
        unfold prodT prodOk
        rw [decide_eq_true h1, decide_eq_true h2, hj, Int.toNat_natCast, List.getElem?_eq_getElem hjl]
        rfl)
      have hns : (g.rules[j]).size ≤ 1000 := HZ.out _ (List.mem_append_right _ (List.getElem_mem hjl))
      generalize g.rules[j] = nm at *
      subst e5
      rw [hj] at i0 HBx h1 h2
      have q1 : ¬ (j : Int) < 0 := by omega
      have q2 : ¬ (g.rules.length : Int) ≤ (j : Int) := by omega
      have q3 : (j : Int) < (g.rules.length : Int) := h2
      clear HE1 hj HRu
      have HAcc0 : Hid ((⟨#[114, 117, 108, 101, 32]⟩ : ByteArray) ++ nm = lineB ruleW (nm :: (p.right.take 0).map (itemT g))) := hidden (line_start nm)
      have HAll0 : Hid (∀ x ∈ p.right.take 0, itemOk g x = true) := hidden (fun x h => by simp at h)
      have hbw := hidden (Below.refl w2.heap.size w2)
      have hb3z := hb3.size
      go_wp2_with fail
      clear hc5 g0 g1 g2 g3 g4 g5 g6 g7 i0 i1 hq
      go_loopg [5, 6] p.right.length (fun gh ss kk wr => ∃ (k : Nat) (acc : ByteArray), k ≤ p.right.length ∧ gh = p.right.length - k ∧ kk = .int .i64 k ∧ ss = .string acc ∧ Hid (acc = lineB ruleW (nm :: (p.right.take k).map (itemT g))) ∧ Hid (∀ x ∈ p.right.take k, itemOk g x = true) ∧ Hid (Below w2.heap.size w2 wr))
      case atStart => exact ⟨0, _, Nat.zero_le _, rfl, rfl, rfl, HAcc0, HAll0, hbw⟩
      case round =>
        clear HAcc0 HAll0 hbw
        obtain ⟨k, acc, hk, rfl, rfl, rfl, HAcc, HAll, HB⟩ := hrel
        have hbr : Hid (Below w.heap.size w wr) := hidden (hb3.trans (HB.out.mono hb3.size))
        have hasz : acc.size ≤ 4 + 1011 * (k + 1) := by
          rw [HAcc.out]
          have := lineB_size ruleW (nm :: (p.right.take k).map (itemT g)) 1010 (fun y hy => by
            rcases List.mem_cons.1 hy with rfl | hy
            · omega
            · obtain ⟨x, _, rfl⟩ := List.mem_map.1 hy
              exact itemT_size HZ.out x)
          rw [List.length_cons, List.length_map, List.length_take, Nat.min_eq_left hk] at this
          exact this
        have HJr := hidden (HJx.out.below HB.out HJx.out.lt)
        have HBr := hidden (HBx.out.below HB.out HBx.out.lt)
        obtain ⟨g0, g1, g2, g3, g4, g5, g6, g7⟩ := gcells HJr.out
        have i0 := HBr.out.c20
        have i1 := HBr.out.c21
        by_cases hlt : k < p.right.length
        · have q5 : (k : Int) < (p.right.length : Int) := by omega
          have q6 : (0 : Int) ≤ (k : Int) := by omega
          have hx := List.getElem?_eq_getElem hlt
          obtain ⟨b4, off4, rfl, hT4, hat⟩ := (HLs.out _ hbr.out).flat_at (fun _ => rfl) (by decide) hx
          have htk : p.right.take (k + 1) = p.right.take k ++ [p.right[k]] := by rw [List.take_add_one, hx]; rfl
          have hmem : Hid (p.right[k] ∈ p.right) := hidden (List.getElem_mem hlt)
          generalize p.right[k] = x at *
          have HTk := hidden htk
          have x0 := hat 0 _ rfl
          have x1 := hat 1 _ rfl
          have x2 := hat 2 _ rfl
          have x3 := hat 3 _ rfl
          rw [Nat.add_zero] at x0
          have HX := hidden (fun (w' : World) (hb : Below w.heap.size w w') => HIt.out x w' hb)
          rw [HSi.out x] at HX
          clear htk hat hT4 HJr HBr hx
          go_upto_region 7 with fail
          have HbA := hidden (fun y : Ext wr => hbr.out.trans (y.below.mono hbr.out.size))
          have d0 := fun y : Ext wr => Ext.cell g0 y
          have d1 := fun y : Ext wr => Ext.cell g1 y
          have d2 := fun y : Ext wr => Ext.cell g2 y
          have d3 := fun y : Ext wr => Ext.cell g3 y
          have d4 := fun y : Ext wr => Ext.cell g4 y
          have d5 := fun y : Ext wr => Ext.cell g5 y
          have d6 := fun y : Ext wr => Ext.cell g6 y
          have d7 := fun y : Ext wr => Ext.cell g7 y
          have f1 := fun y : Ext wr => Ext.cell i1 y
          have y0 := fun y : Ext wr => Ext.cell x0 y
          have y1 := fun y : Ext wr => Ext.cell x1 y
          have y2 := fun y : Ext wr => Ext.cell x2 y
          have y3 := fun y : Ext wr => Ext.cell x3 y
          clear g0 g1 g2 g3 g4 g5 g6 g7 i0 i1 x0 x1 x2 x3
          refine wp_region_ext (by kernel_rfl) (by kernel_rfl) ?_
          repeat (go_big_quiet_step ((go_at_call 57; exact Ext.call (HX.out _ (HbA.out _)))))
          refine wpQuiet_nil ?_
          intro w5 hb5
          have HB3 := hidden (HB.out.trans (hb5.mono HB.out.size))
          have hb6 := hbr.out.trans (hb5.mono hbr.out.size)
          clear d0 d1 d2 d3 d4 d5 d6 d7 f1 y0 y1 y2 y3 HbA HX hb5 hbr HB
          cases hok : itemOk g x with
          | false =>
            have hal : p.right.all (itemOk g) = false := by
              rw [List.all_eq_false]
              exact ⟨x, hmem.out, by rw [hok]; exact Bool.false_ne_true⟩
            have e0 : res = ByteArray.empty := by rw [← hE2.out, hal]; rfl
            subst e0
            rw [itemT_none hok]
            clear hE2 hal hok HAll HTk hmem
            go_wp2
            go_ret
            exact ⟨rfl, hb6⟩
          | true =>
            have pe := itemT_some hok
            have htz := itemT_size HZ.out x
            have HAll2 : Hid (∀ y ∈ p.right.take (k + 1), itemOk g y = true) := hidden (by
              rw [HTk.out]
              intro y hy
              rcases List.mem_append.1 hy with h | h
              · exact HAll.out y h
              · rw [List.mem_singleton.1 h]; exact hok)
            have HAcc2 : Hid (acc ++ (⟨#[32]⟩ : ByteArray) ++ itemT g x = lineB ruleW (nm :: (p.right.take (k + 1)).map (itemT g))) := hidden (by
              rw [HTk.out, HAcc.out, line_more, List.map_append]
              rfl)
            generalize itemT g x = tx at *
            have hsp : (acc ++ (⟨#[32]⟩ : ByteArray)).size ≤ 4 + 1011 * (k + 1) + 1 := by rw [ByteArray.size_append]; have : (⟨#[32]⟩ : ByteArray).size = 1 := rfl; omega
            clear hok HAcc
            go_wp2
            go_roundg (p.right.length - (k + 1))
            case measure => omega
            case rel => exact ⟨k + 1, _, by omega, rfl, by go_num, rfl, HAcc2, HAll2, HB3⟩
        · obtain rfl : k = p.right.length := by omega
          have q5 : ¬ (p.right.length : Int) < (p.right.length : Int) := by omega
          have HAl : Hid (∀ x ∈ p.right, itemOk g x = true) := hidden (by have := HAll.out; rw [List.take_length] at this; exact this)
          have hal : p.right.all (itemOk g) = true := List.all_eq_true.2 HAl.out
          have e0 : acc = res := by rw [HAcc.out, List.take_length, ← hE2.out, hal]; rfl
          subst e0
          have hbz := hbr.out
          clear hE2 HAll HAl hal HAcc hasz HB hbr
          go_wp2
          go_ret
          exact ⟨rfl, hbz⟩
    · have e0 : res = ByteArray.empty := by
        rw [← HE1.out]
        unfold prodT prodOk
        rw [if_neg]
        intro h
        simp only [Bool.and_eq_true, decide_eq_true_eq] at h
        exact h1 ⟨h.1, h.2.1⟩
      subst e0
      clear HE1 HIt HRu HLs HZ HSi
      by_cases h2 : p.left < 0
      · clear h1
        go_wp2
        go_ret
        exact ⟨rfl, hb3⟩
      · have h3 : (g.rules.length : Int) ≤ p.left := by omega
        clear h1
        go_wp2
        go_ret
        exact ⟨rfl, hb3⟩
end Go.Proofs.YtfmdmeokbbpmlaaGreat
