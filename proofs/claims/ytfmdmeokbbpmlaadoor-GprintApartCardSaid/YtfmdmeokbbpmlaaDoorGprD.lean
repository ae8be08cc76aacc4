/-
  gprint: a production as a line.
-/
import Derived.Test.YtfmdmeokbbpmlaaDoorGprC
import Derived.Deep.LoopGhost
namespace Go.Proofs.YtfmdmeokbbpmlaaDoor
open Go.RowKit Go.Shelf

set_option maxRecDepth 20000 in
set_option maxHeartbeats 8000000 in
theorem gprint_prod (a b c lv : Value) (g : Gram) (p : Prod) (w : World) (HG : GramIs w (Old w) a b c g) (HW : WordsW w) (hz : ∀ s ∈ allNames g, s.size ≤ 1000)
    (HL : Rd w (Old w) 4 lv p.right.length (p.right.flatMap itCells)) (hl : p.right.length ≤ 10000) :
    Calls Tryd.prog 52 #[.agg (gramCells a b c g), .agg #[.int .i64 p.left, lv]] w fun r w' => r = .returned (.string (prodT g p)) ∧ Below w.heap.size w w' := by
  have hb : Below w.heap.size w ((w.alloc (.cells (gramCells a b c g) 41)).alloc (.cells #[.int .i64 p.left, lv] 50)) := ((Below.refl _ _).alloc (Nat.le_refl _) _).alloc (by simp) _
  have HI := hidden (fun (x : Item) (w' : World) (hb : Below w.heap.size w w') => gprint_item a b c g x w' (HG.old hb) (HW.old hb) hz)
  have HP := Holds.new (w.alloc (.cells (gramCells a b c g) 41)) 50 #[.int .i64 p.left, lv]
  have HJ := (Holds.new w 41 (gramCells a b c g)).alloc (.cells #[.int .i64 p.left, lv] 50)
  rw [World.size_alloc] at HP
  have HRs := hidden (fun (w' : World) (hb : Below w.heap.size w w') => Rd.old HG.2.1 hb)
  have HLs := hidden (fun (w' : World) (hb : Below w.heap.size w w') => Rd.old HL hb)
  obtain ⟨A2, k2, rfl, h21, h22⟩ := HG.2.1.val
  obtain ⟨A4, k4, rfl, h41, h42⟩ := HL.val
  unfold maxLen at h22 h42
  obtain ⟨res, HE⟩ : ∃ res, Hid (prodT g p = res) := ⟨_, hidden rfl⟩
  rw [HE.out]
  have HZ := hidden hz
  have HJx := hidden HJ
  have HPx := hidden HP
  clear HG HW HL HJ HP hz
  unfold gramCells at *
  go_enter Tryd.func52, Tryd.ntmps52
  go_upto_region 1 with fail
  generalize ((w.alloc (.cells #[a, .slice A2 g.rules.length k2, c, .int .i64 g.start, .int .i64 g.states, .int .i64 g.text, .int .i64 g.nodes, .int .i64 g.pairs] 41)).alloc (.cells #[.int .i64 p.left, .slice A4 p.right.length k4] 50)) = w1 at *
  obtain ⟨g0, g1, g2, g3, g4, g5, g6, g7⟩ := gcells HJx.out
  have p0 := HPx.out.c20
  have p1 := HPx.out.c21
  by_cases h1 : 0 ≤ p.left ∧ p.left < (g.rules.length : Int)
  · obtain ⟨h1, h2⟩ := h1
    obtain ⟨j, hj⟩ : ∃ j : Nat, p.left = (j : Int) := ⟨p.left.toNat, by omega⟩
    have hjl : j < g.rules.length := by omega
    obtain ⟨bs_, off, rfl, hT, hc0⟩ := strs_at (HRs.out _ hb) (List.getElem?_eq_getElem hjl)
    have hE2 : Hid ((if p.right.all (itemOk g) = true then lineB ruleW (g.rules[j] :: p.right.map (itemT g)) else ByteArray.empty) = res) := hidden (by
      rw [← HE.out]
      unfold prodT prodOk
      rw [decide_eq_true h1, decide_eq_true h2, hj, Int.toNat_natCast, List.getElem?_eq_getElem hjl]
      rfl)
    have hns : Hid ((g.rules[j]).size ≤ 1000) := hidden (HZ.out _ (List.mem_append_right _ (List.getElem_mem hjl)))
    generalize g.rules[j] = nm at *
    rw [hj] at p0 HPx h1 h2
    have q1 : ¬ (j : Int) < 0 := by omega
    have q2 : ¬ (g.rules.length : Int) ≤ (j : Int) := by omega
    have q3 : (j : Int) < (g.rules.length : Int) := h2
    clear HE hj
    have HM0 : Hid (StrsM (w1.alloc (.cells #[.string ⟨#[114, 117, 108, 101]⟩, .string nm] 9)) w1.heap.size (.slice (some ⟨w1.heap.size, 0, none⟩) 2 2) [ruleW, nm]) := hidden (.inl (World.ownsRow_lit w1 #[.string ⟨#[114, 117, 108, 101]⟩, .string nm] 2 (Nat.le_refl _) (by decide) rfl))
    have hb2 : Hid (Below w1.heap.size w1 (w1.alloc (.cells #[.string ⟨#[114, 117, 108, 101]⟩, .string nm] 9))) := hidden ((Below.refl _ _).alloc (Nat.le_refl _) _)
    have HPy := hidden (HPx.out.alloc (.cells #[.string ⟨#[114, 117, 108, 101]⟩, .string nm] 9))
    go_upto_region 4 with fail
    clear g0 g1 g2 g3 g4 g5 g6 g7 p0 p1 hc0 HPx
    have p0 := HPy.out.c20
    have p1 := HPy.out.c21
    generalize (w1.alloc (.cells #[.string ⟨#[114, 117, 108, 101]⟩, .string nm] 9)) = w2 at *
    have hb1z := hb.size
    have HAll0 : Hid (∀ x ∈ p.right.take 0, itemOk g x = true) := hidden (fun x h => by simp at h)
    have HM1 : Hid (StrsM w2 w1.heap.size (.slice (some ⟨w1.heap.size, 0, none⟩) 2 2) (ruleW :: nm :: (p.right.take 0).map (itemT g))) := HM0
    go_wp2
    clear p0 p1 HPy HM0
    go_loopg [5, 30] p.right.length (fun gh ll kk wr => ∃ k : Nat, k ≤ p.right.length ∧ gh = p.right.length - k ∧ kk = .int .i64 k ∧ Hid (StrsM wr w1.heap.size ll (ruleW :: nm :: (p.right.take k).map (itemT g))) ∧ Hid (∀ x ∈ p.right.take k, itemOk g x = true) ∧ Hid (Below w1.heap.size w1 wr))
    case atStart => exact ⟨0, Nat.zero_le _, rfl, rfl, HM1, HAll0, hb2⟩
    case round =>
      clear HM1 HAll0 hb2
      obtain ⟨k, hk, rfl, rfl, HM, HAll, HB⟩ := hrel
      have hbr : Hid (Below w.heap.size w wr) := hidden (hb.trans (HB.out.mono hb.size))
      by_cases hlt : k < p.right.length
      · have q5 : (k : Int) < (p.right.length : Int) := by omega
        have hx := List.getElem?_eq_getElem hlt
        obtain ⟨b4, off4, rfl, hT4, hat⟩ := (HLs.out _ hbr.out).flat_at (fun _ => rfl) (by decide) hx
        have htk : p.right.take (k + 1) = p.right.take k ++ [p.right[k]] := by rw [List.take_add_one, hx]; rfl
        have hmem : Hid (p.right[k] ∈ p.right) := hidden (List.getElem_mem hlt)
        generalize p.right[k] = x at *
        have HTk := hidden htk
        have x0 := hat 0 _ rfl
        have x1 := hat 1 _ rfl
        have x2 := hat 2 _ rfl
        have x3 := hat 3 _ rfl
        rw [Nat.add_zero] at x0
        have HGr := hidden (HJx.out.below HB.out HJx.out.lt)
        have hbr2 : Hid (Below w.heap.size w (wr.alloc (.cells #[.bool x.rule, .int .i64 x.n, .int .i64 x.gap, .int .i64 x.in_] 47))) := hidden (hbr.out.alloc hbr.out.size _)
        have HX := hidden (HI.out x _ hbr2.out)
        have HGr2 := hidden (HGr.out.alloc (.cells #[.bool x.rule, .int .i64 x.n, .int .i64 x.gap, .int .i64 x.in_] 47))
        have HIt := hidden (Holds.new wr 47 #[.bool x.rule, .int .i64 x.n, .int .i64 x.gap, .int .i64 x.in_])
        have HM2 := hidden (HM.out.alloc (.cells #[.bool x.rule, .int .i64 x.n, .int .i64 x.gap, .int .i64 x.in_] 47))
        have HB2 : Hid (Below w1.heap.size w1 (wr.alloc (.cells #[.bool x.rule, .int .i64 x.n, .int .i64 x.gap, .int .i64 x.in_] 47))) := hidden (HB.out.alloc HB.out.size _)
        unfold itV at HX
        clear htk hat hT4 HM HB HGr hbr
        go_upto_region 7 with fail
        clear x0 x1 x2 x3
        generalize (wr.alloc (.cells #[.bool x.rule, .int .i64 x.n, .int .i64 x.gap, .int .i64 x.in_] 47)) = w3 at *
        obtain ⟨g0, g1, g2, g3, g4, g5, g6, g7⟩ := gcells HGr2.out
        obtain ⟨i0, i1, i2, i3⟩ := four HIt.out
        go_wp2_with fail
        refine HX.out.mono ?_
        rintro r w4 ⟨rfl, hb5⟩
        replace HM2 := hidden (HM2.out.below hb5)
        have HB3 := hidden (HB2.out.trans (hb5.mono HB2.out.size))
        have hb6 := hbr2.out.trans (hb5.mono hbr2.out.size)
        clear g0 g1 g2 g3 g4 g5 g6 g7 i0 i1 i2 i3 HX hb5 hbr2 HGr2 HIt HB2
        cases hok : itemOk g x with
        | false =>
          have hal : p.right.all (itemOk g) = false := by
            rw [List.all_eq_false]
            exact ⟨x, hmem.out, by rw [hok]; exact Bool.false_ne_true⟩
          have e0 : res = ByteArray.empty := by rw [← hE2.out, hal]; rfl
          subst e0
          rw [itemT_none hok]
          clear hE2 hal hok HAll HTk hmem HM2
          go_wp2
          go_ret
          exact ⟨rfl, hb6⟩
        | true =>
          have pe := itemT_some hok
          have HAll2 : Hid (∀ y ∈ p.right.take (k + 1), itemOk g y = true) := hidden (by
            rw [HTk.out]
            intro y hy
            rcases List.mem_append.1 hy with h | h
            · exact HAll.out y h
            · rw [List.mem_singleton.1 h]; exact hok)
          obtain ⟨tx, htx⟩ : ∃ tx, Hid (itemT g x = tx) := ⟨_, hidden rfl⟩
          rw [htx.out] at pe ⊢
          have hcnt : (ruleW :: nm :: (p.right.take k).map (itemT g)).length = k + 2 := by simp; omega
          have HX1 := hidden (Rd.single w4 9 (.string tx) _ rfl)
          have HM3 := hidden (HM2.out.alloc (.cells #[.string tx] 9))
          have hbz : w1.heap.size ≤ (w4.alloc (.cells #[.string tx] 9)).heap.size := by rw [World.size_alloc]; have := HB3.out.size; omega
          unfold StrsM at HM3
          rw [hcnt] at HM3
          clear HM2 hok
          go_upto_region 11 with (at_builtin; refine wpList_append_all rfl _ _ 38 9 rfl (by kernel_rfl) str_info rfl (by decide) w1.heap.size _ (k + 2) _ HM3 _ 1 _ HX1 (one_str tx) rfl rfl (by omega) (by decide) hbz ?_; intro v9 w9 hA; obtain ⟨A9, c9, rfl⟩ := hA.out.mine.value)
          have HM4 : Hid (StrsM w9 w1.heap.size (.slice A9 (k + 2 + 1) c9) (ruleW :: nm :: (p.right.take (k + 1)).map (itemT g))) := hidden (by
            have h := hA.out
            have e : ruleW :: nm :: (p.right.take (k + 1)).map (itemT g) = (ruleW :: nm :: (p.right.take k).map (itemT g)) ++ [tx] := by rw [HTk.out, List.map_append, ← htx.out]; rfl
            unfold StrsM
            rw [e, List.length_append, hcnt, List.flatMap_append]
            exact h.mine)
          have HB4 := hidden ((HB3.out.alloc HB3.out.size _).trans hA.out.below)
          clear hA HM3 HX1 HB3
          go_wp2
          go_roundg (p.right.length - (k + 1))
          case measure => omega
          case rel => exact ⟨k + 1, by omega, rfl, by go_num, HM4, HAll2, HB4⟩
      · obtain rfl : k = p.right.length := by omega
        have q5 : ¬ (p.right.length : Int) < (p.right.length : Int) := by omega
        have HAl : Hid (∀ x ∈ p.right, itemOk g x = true) := hidden (by have := HAll.out; rw [List.take_length] at this; exact this)
        have hal : p.right.all (itemOk g) = true := List.all_eq_true.2 HAl.out
        have e0 : res = lineB ruleW (nm :: p.right.map (itemT g)) := by rw [← hE2.out, hal]; rfl
        subst e0
        rw [List.take_length] at HM
        have hsz := lineB_size ruleW (nm :: p.right.map (itemT g)) 1010 (fun y hy => by
          rcases List.mem_cons.1 hy with rfl | hy
          · have := hns.out; omega
          · obtain ⟨x, _, rfl⟩ := List.mem_map.1 hy
            exact itemT_size HZ.out x)
        have hlen : (nm :: p.right.map (itemT g)).length = p.right.length + 1 := by simp
        rw [hlen] at hsz
        have hrw : ruleW.size = 4 := rfl
        have HJn := hidden (join_line _ ruleW (nm :: p.right.map (itemT g)) wr HM.out.rd (by rw [hlen]; omega) (by omega))
        have hbz := hbr.out
        clear hE2 HAll HAl hal HM hsz hlen hrw HB hbr
        go_wp2_with fail
        refine HJn.out.mono ?_
        rintro r w5 ⟨rfl, hb6⟩
        go_wp2
        go_ret
        exact ⟨rfl, hbz.trans (hb6.mono hbz.size)⟩
  · have e0 : res = ByteArray.empty := by
      rw [← HE.out]
      unfold prodT prodOk
      rw [if_neg]
      intro h
      simp only [Bool.and_eq_true, decide_eq_true_eq] at h
      exact h1 ⟨h.1, h.2.1⟩
    subst e0
    clear HE HI HRs HLs HZ
    by_cases h2 : p.left < 0
    · clear h1
      go_wp2
      go_ret
      exact ⟨rfl, hb⟩
    · have h3 : (g.rules.length : Int) ≤ p.left := by omega
      clear h1
      go_wp2
      go_ret
      exact ⟨rfl, hb⟩
end Go.Proofs.YtfmdmeokbbpmlaaDoor
