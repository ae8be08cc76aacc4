/-
  The document's ShowToken; gprint's ShowItem, ShowProd.
-/
import Derived.Test.YtfmdmeokbbpmlaaDoorGprE
namespace Go.Proofs.YtfmdmeokbbpmlaaDoor
open Go.RowKit Go.Shelf

theorem ba_assoc (a b c : ByteArray) : a ++ b ++ c = a ++ (b ++ c) := by
  obtain ⟨⟨x⟩⟩ := a
  obtain ⟨⟨y⟩⟩ := b
  obtain ⟨⟨z⟩⟩ := c
  rw [bytes_app, bytes_app, bytes_app, bytes_app, List.append_assoc]
set_option maxRecDepth 20000 in
set_option maxHeartbeats 8000000 in
theorem ref_ShowToken19 (t : Token) (lv : Value) (w : World) (HL : Rd w (Old w) 5 lv t.rex.length (t.rex.flatMap rxCells)) (hw : ∀ x ∈ t.rex, Wordy x) (hz : t.name.size ≤ maxLen) :
    Calls Tryd.prog 20 #[.agg #[.string t.name, lv, .int .i64 t.cls]] w fun r w' => r = .returned (.string (tokT t)) ∧ Below w.heap.size w w' := by
  obtain ⟨s, l, c⟩ := t
  dsimp only at HL hw hz ⊢
  have hb : Below w.heap.size w (w.alloc (.cells #[.string s, lv, .int .i64 c] 44)) := (Below.refl _ _).alloc (Nat.le_refl _) _
  have HN := hidden (fun w' => ref_name s w' hz)
  have HC := hidden (fun (w' : World) (hb : Below w.heap.size w w') => ref07_check lv l w' (HL.old hb))
  have HS := hidden (fun (w' : World) (hb : Below w.heap.size w w') => ref_Show_r lv l w' (HL.old hb) hw)
  have HBx := hidden (Holds.new w 44 #[.string s, lv, .int .i64 c])
  obtain ⟨A, k, rfl, h1, h2⟩ := HL.val
  obtain ⟨res, HE⟩ : ∃ res, Hid (tokT ⟨s, l, c⟩ = res) := ⟨_, hidden rfl⟩
  rw [HE.out]
  clear HL hw hz
  go_enter Tryd.func20, Tryd.ntmps20
  go_upto_region 1 with fail
  generalize (w.alloc (.cells #[.string s, .slice A l.length k, .int .i64 c] 44)) = w1 at *
  obtain ⟨i0, i1, i2⟩ := three HBx.out
  have HX := hidden (HN.out w1)
  go_wp2_with fail
  refine HX.out.mono ?_
  rintro r w2 ⟨rfl, rfl⟩
  clear HX HN
  cases hn : nameB s with
  | false =>
    have e0 : res = ByteArray.empty := by rw [← HE.out]; exact tokT_no (fun h => by rw [hn] at h; cases h.1)
    subst e0
    clear HE hn HC HS
    go_wp2
    go_ret
    exact ⟨rfl, hb⟩
  | true =>
    have HX := hidden (HC.out w1 hb)
    go_wp2_with fail
    refine HX.out.mono ?_
    rintro r w3 ⟨rfl, rfl⟩
    clear HX HC
    by_cases he : rxErr l = 0
    · have p1 : (rxErr l != 0) = false := by simpa using he
      have hsz := nameB_size hn
      have hss := showR_size l
      have hc1 : ((⟨#[32]⟩ : ByteArray) ++ s).size ≤ 33 := by rw [ByteArray.size_append]; have : (⟨#[32]⟩ : ByteArray).size = 1 := rfl; omega
      have hc2 : ((⟨#[32]⟩ : ByteArray) ++ s ++ (⟨#[32]⟩ : ByteArray)).size ≤ 34 := by rw [ByteArray.size_append]; have : (⟨#[32]⟩ : ByteArray).size = 1 := rfl; omega
      have hc3 : ((⟨#[32]⟩ : ByteArray) ++ s ++ (⟨#[32]⟩ : ByteArray) ++ showR l).size ≤ 2000034 := by rw [ByteArray.size_append]; omega
      have HE1 : Hid (∀ c', c = c' → 0 ≤ c' → c' ≤ 3 → clsW c' ++ ((⟨#[32]⟩ : ByteArray) ++ s ++ (⟨#[32]⟩ : ByteArray) ++ showR l) = res) := hidden (fun c' hc h3 h4 => by
        subst hc
        rw [← HE.out, tokT_yes (t := ⟨s, l, c⟩) hn he h3 h4]
        dsimp only
        unfold spB
        simp only [ba_assoc])
      have HE2 : Hid (¬ (0 ≤ c ∧ c ≤ 3) → res = ByteArray.empty) := hidden (fun hc => by rw [← HE.out]; exact tokT_no (fun h => hc ⟨h.2.2.1, h.2.2.2⟩))
      generalize showR l = sl at *
      clear HE he hn
      go_upto_region 3 with fail
      have HbA := hidden (fun x : Ext w1 => hb.trans (x.below.mono hb.size))
      have d0 := fun x : Ext w1 => Ext.cell i0 x
      have d1 := fun x : Ext w1 => Ext.cell i1 x
      clear i0 i1 i2
      refine wp_region_ext (by kernel_rfl) (by kernel_rfl) ?_
      repeat (go_big_quiet_step ((go_at_call 11; exact Ext.call (HS.out _ (HbA.out _)))))
      refine wpQuiet_nil ?_
      intro w5 hb5
      have hb6 := hb.trans (hb5.mono hb.size)
      replace HBx := hidden (HBx.out.below hb5 HBx.out.lt)
      clear d0 d1 HbA HS hb5
      obtain ⟨i0, i1, i2⟩ := three HBx.out
      generalize (⟨#[32]⟩ : ByteArray) ++ s ++ (⟨#[32]⟩ : ByteArray) ++ sl = bh at *
      by_cases k0 : c = 0
      · have e := HE1.out 0 k0 (by decide) (by decide)
        have E := hidden e
        subst k0
        clear HE1 HE2 e
        go_wp2
        go_ret
        exact ⟨by rw [← E.out]; rfl, hb6⟩
      · by_cases k1 : c = 1
        · have e := HE1.out 1 k1 (by decide) (by decide)
          have E := hidden e
          subst k1
          clear HE1 HE2 e k0
          go_wp2
          go_ret
          exact ⟨by rw [← E.out]; rfl, hb6⟩
        · by_cases k2 : c = 2
          · have e := HE1.out 2 k2 (by decide) (by decide)
            have E := hidden e
            subst k2
            clear HE1 HE2 e k0 k1
            go_wp2
            go_ret
            exact ⟨by rw [← E.out]; rfl, hb6⟩
          · by_cases k3 : c = 3
            · have e := HE1.out 3 k3 (by decide) (by decide)
              have E := hidden e
              subst k3
              clear HE1 HE2 e k0 k1 k2
              go_wp2
              go_ret
              exact ⟨by rw [← E.out]; rfl, hb6⟩
            · have e := HE2.out (by omega)
              subst e
              have p0 : (c == 0) = false := beq_eq_false_iff_ne.2 k0
              have p1 : (c == 1) = false := beq_eq_false_iff_ne.2 k1
              have p2 : (c == 2) = false := beq_eq_false_iff_ne.2 k2
              have p3 : (c == 3) = false := beq_eq_false_iff_ne.2 k3
              clear HE1 HE2 k0 k1 k2 k3
              go_wp2
              go_ret
              exact ⟨rfl, hb6⟩
    · have p1 : (rxErr l != 0) = true := by simpa using he
      have e0 : res = ByteArray.empty := by rw [← HE.out]; exact tokT_no (fun h => he h.2.1)
      subst e0
      clear HE HS he
      go_wp2
      go_ret
      exact ⟨rfl, hb⟩
/-- Of any grammar: the empty text, if it isn't right. -/
noncomputable def showItem (g : Gram) (x : Item) : ByteArray := if rightB g = true then itemT g x else ByteArray.empty
noncomputable def showProd (g : Gram) (p : Prod) : ByteArray := if rightB g = true then prodT g p else ByteArray.empty
theorem right_names {g : Gram} (h : rightB g = true) : ∀ s ∈ allNames g, s.size ≤ 1000 := by
  have hr : RightG g := (right_iff g).1 (of_decide_eq_true h)
  intro s hs
  rcases List.mem_append.1 hs with hs | hs
  · obtain ⟨t, ht, rfl⟩ := List.mem_map.1 hs
    obtain ⟨i, hi⟩ := List.getElem?_of_mem ht
    have := nameB_size (hr.tokName hi).1
    omega
  · obtain ⟨i, hi⟩ := List.getElem?_of_mem hs
    have := nameB_size (hr.ruleName hi).1
    omega
set_option maxRecDepth 20000 in
set_option maxHeartbeats 4000000 in
theorem gprint_ShowItem (a b c : Value) (g : Gram) (x : Item) (w : World) (HG : GramIs w (Old w) a b c g) (HW : WordsW w) (s1 : g.toks.length ≤ 100000) (s2 : g.rules.length ≤ 100000) (s3 : g.prods.length ≤ 100000) (hz : Named g) :
    Calls Tryd.prog 21 #[.agg (gramCells a b c g), .agg (itV x)] w fun r w' => r = .returned (.string (showItem g x)) ∧ Below w.heap.size w w' := by
  have HR := hidden (fun (w' : World) (hb : Below w.heap.size w w') => gram_Right a b c g w' (HG.old hb) s1 s2 s3 hz)
  have HI := hidden (fun (h : rightB g = true) (w' : World) (hb : Below w.heap.size w w') => gprint_item a b c g x w' (HG.old hb) (HW.old hb) (right_names h))
  have hb1 := ((Below.refl w.heap.size w).alloc (Nat.le_refl _) (.cells (gramCells a b c g) 41))
  have hb := hb1.alloc hb1.size (.cells (itV x) 47)
  have HJ := (Holds.new w 41 (gramCells a b c g)).alloc (.cells (itV x) 47)
  have HB := Holds.new (w.alloc (.cells (gramCells a b c g) 41)) 47 (itV x)
  rw [World.size_alloc] at HB
  have HJx := hidden HJ
  have HBx := hidden HB
  obtain ⟨res, HE⟩ : ∃ res, Hid (showItem g x = res) := ⟨_, hidden rfl⟩
  rw [HE.out]
  unfold gramCells itV at *
  clear HG HW hz HJ HB hb1
  go_enter Tryd.func21, Tryd.ntmps21
  go_upto_region 1 with fail
  generalize ((w.alloc (.cells #[a, b, c, .int .i64 g.start, .int .i64 g.states, .int .i64 g.text, .int .i64 g.nodes, .int .i64 g.pairs] 41)).alloc (.cells #[.bool x.rule, .int .i64 x.n, .int .i64 x.gap, .int .i64 x.in_] 47)) = w1 at *
  obtain ⟨g0, g1, g2, g3, g4, g5, g6, g7⟩ := gcells HJx.out
  have HX := hidden (HR.out w1 hb)
  go_wp2_with fail
  refine HX.out.mono ?_
  rintro r w2 ⟨rfl, hb2⟩
  replace HJx := hidden (HJx.out.below hb2 HJx.out.lt)
  replace HBx := hidden (HBx.out.below hb2 HBx.out.lt)
  have hb3 := hb.trans (hb2.mono hb.size)
  clear g0 g1 g2 g3 g4 g5 g6 g7 HX HR hb hb2
  obtain ⟨g0, g1, g2, g3, g4, g5, g6, g7⟩ := gcells HJx.out
  obtain ⟨i0, i1, i2, i3⟩ := four HBx.out
  cases hr : rightB g with
  | false =>
    have e0 : res = ByteArray.empty := by rw [← HE.out]; unfold showItem; rw [hr]; rfl
    subst e0
    clear HE HI hr
    go_wp2
    go_ret
    exact ⟨rfl, hb3⟩
  | true =>
    have HX := hidden (HI.out hr w2 hb3)
    have e0 : Hid (itemT g x = res) := hidden (by rw [← HE.out]; unfold showItem; rw [hr]; rfl)
    rw [e0.out] at HX
    clear HE HI hr
    go_wp2_with fail
    refine HX.out.mono ?_
    rintro r w4 ⟨rfl, hb4⟩
    go_wp2
    go_ret
    exact ⟨rfl, hb3.trans (hb4.mono hb3.size)⟩
set_option maxRecDepth 20000 in
set_option maxHeartbeats 4000000 in
theorem gprint_ShowProd (a b c : Value) (g : Gram) (x : Prod) (lv : Value) (w : World) (HG : GramIs w (Old w) a b c g) (HW : WordsW w) (s1 : g.toks.length ≤ 100000) (s2 : g.rules.length ≤ 100000) (s3 : g.prods.length ≤ 100000) (hz : Named g) (HL : Rd w (Old w) 4 lv x.right.length (x.right.flatMap itCells)) (hl : x.right.length ≤ 10000) :
    Calls Tryd.prog 23 #[.agg (gramCells a b c g), .agg #[.int .i64 x.left, lv]] w fun r w' => r = .returned (.string (showProd g x)) ∧ Below w.heap.size w w' := by
  have HR := hidden (fun (w' : World) (hb : Below w.heap.size w w') => gram_Right a b c g w' (HG.old hb) s1 s2 s3 hz)
  have HI := hidden (fun (h : rightB g = true) (w' : World) (hb : Below w.heap.size w w') => gprint_prod a b c lv g x w' (HG.old hb) (HW.old hb) (right_names h) (HL.old hb) hl)
  have hb1 := ((Below.refl w.heap.size w).alloc (Nat.le_refl _) (.cells (gramCells a b c g) 41))
  have hb := hb1.alloc hb1.size (.cells #[.int .i64 x.left, lv] 50)
  have HJ := (Holds.new w 41 (gramCells a b c g)).alloc (.cells #[.int .i64 x.left, lv] 50)
  have HB := Holds.new (w.alloc (.cells (gramCells a b c g) 41)) 50 #[.int .i64 x.left, lv]
  rw [World.size_alloc] at HB
  have HJx := hidden HJ
  have HBx := hidden HB
  obtain ⟨res, HE⟩ : ∃ res, Hid (showProd g x = res) := ⟨_, hidden rfl⟩
  rw [HE.out]
  unfold gramCells at *
  clear HG HW hz HJ HB hb1
  go_enter Tryd.func23, Tryd.ntmps23
  go_upto_region 1 with fail
  generalize ((w.alloc (.cells #[a, b, c, .int .i64 g.start, .int .i64 g.states, .int .i64 g.text, .int .i64 g.nodes, .int .i64 g.pairs] 41)).alloc (.cells #[.int .i64 x.left, lv] 50)) = w1 at *
  obtain ⟨g0, g1, g2, g3, g4, g5, g6, g7⟩ := gcells HJx.out
  have HX := hidden (HR.out w1 hb)
  go_wp2_with fail
  refine HX.out.mono ?_
  rintro r w2 ⟨rfl, hb2⟩
  replace HJx := hidden (HJx.out.below hb2 HJx.out.lt)
  replace HBx := hidden (HBx.out.below hb2 HBx.out.lt)
  have hb3 := hb.trans (hb2.mono hb.size)
  clear g0 g1 g2 g3 g4 g5 g6 g7 HX HR hb hb2
  obtain ⟨g0, g1, g2, g3, g4, g5, g6, g7⟩ := gcells HJx.out
  have i0 := HBx.out.c20
  have i1 := HBx.out.c21
  cases hr : rightB g with
  | false =>
    have e0 : res = ByteArray.empty := by rw [← HE.out]; unfold showProd; rw [hr]; rfl
    subst e0
    clear HE HI hr
    go_wp2
    go_ret
    exact ⟨rfl, hb3⟩
  | true =>
    have HX := hidden (HI.out hr w2 hb3)
    have e0 : Hid (prodT g x = res) := hidden (by rw [← HE.out]; unfold showProd; rw [hr]; rfl)
    rw [e0.out] at HX
    clear HE HI hr
    go_wp2_with fail
    refine HX.out.mono ?_
    rintro r w4 ⟨rfl, hb4⟩
    go_wp2
    go_ret
    exact ⟨rfl, hb3.trans (hb4.mono hb3.size)⟩
end Go.Proofs.YtfmdmeokbbpmlaaDoor
