/-
  The document's ShowToken; gprint's ShowItem, ShowProd.
-/
import Derived.Test.YtfmdmeokbbpmlaaGreatGprE
namespace Go.Proofs.YtfmdmeokbbpmlaaGreat
open Go.RowKit Go.Shelf

theorem ba_assoc (a b c : ByteArray) : a ++ b ++ c = a ++ (b ++ c) := by
  obtain ⟨⟨x⟩⟩ := a
  obtain ⟨⟨y⟩⟩ := b
  obtain ⟨⟨z⟩⟩ := c
  rw [bytes_app, bytes_app, bytes_app, bytes_app, List.append_assoc]
set_option maxRecDepth 20000 in
set_option maxHeartbeats 8000000 in
theorem ref_ShowToken19 (t : Token) (lv : Value) (w : World) (HL : Rd w (Old w) 5 lv t.rex.length (t.rex.flatMap rxCells)) (hw : ∀ x ∈ t.rex, Wordy x) (hz : t.name.size ≤ maxLen) :
    Calls Tryz.prog 13 #[.agg #[.string t.name, lv, .int .i64 t.cls]] w fun r w' => r = .returned (.string (tokT t)) ∧ Below w.heap.size w w' := by
  obtain ⟨s, l, c⟩ := t
  dsimp only at HL hw hz ⊢
  have hb : Below w.heap.size w (w.alloc (.cells #[.string s, lv, .int .i64 c] 42)) := (Below.refl _ _).alloc (Nat.le_refl _) _
  have HN := hidden (fun w' => ref_name s w' hz)
  have HC := hidden (fun (w' : World) (hb : Below w.heap.size w w') => ref07_check lv l w' (HL.old hb))
  have HS := hidden (fun (w' : World) (hb : Below w.heap.size w w') => ref_Show_r lv l w' (HL.old hb) hw)
  have HBx := hidden (Holds.new w 42 #[.string s, lv, .int .i64 c])
  obtain ⟨A, k, rfl, h1, h2⟩ := HL.val
  obtain ⟨res, HE⟩ : ∃ res, Hid (tokT ⟨s, l, c⟩ = res) := ⟨_, hidden rfl⟩
  rw [HE.out]
  clear HL hw hz
  go_enter Tryz.func13, Tryz.ntmps13
  go_upto_region 1 with fail
  generalize (w.alloc (.cells #[.string s, .slice A l.length k, .int .i64 c] 42)) = w1 at *
  obtain ⟨i0, i1, i2⟩ := three HBx.out
  have HX := hidden (HN.out w1)
  go_wp2_with fail
  refine HX.out.mono ?_
  rintro r w2 ⟨rfl, rfl⟩
  clear HX HN
  cases hn : nameB s with
  | false =>
    have e0 : res = ByteArray.empty := by rw [← HE.out]; exact tokT_no (fun h => by rw [hn] at h; cases h.1)
    subst e0
    clear HE hn HC HS
    go_wp2
    go_ret
    exact ⟨rfl, hb⟩
  | true =>
    have HX := hidden (HC.out w1 hb)
    go_wp2_with fail
    refine HX.out.mono ?_
    rintro r w3 ⟨rfl, rfl⟩
    clear HX HC
    by_cases he : rxErr l = 0
    · have p1 : (rxErr l != 0) = false := by simpa using he
      have hsz := nameB_size hn
      have hss := showR_size l
      have hc1 : ((⟨#[32]⟩ : ByteArray) ++ s).size ≤ 33 := by rw [ByteArray.size_append]; have : (⟨#[32]⟩ : ByteArray).size = 1 := rfl; omega
      have hc2 : ((⟨#[32]⟩ : ByteArray) ++ s ++ (⟨#[32]⟩ : ByteArray)).size ≤ 34 := by rw [ByteArray.size_append]; have : (⟨#[32]⟩ : ByteArray).size = 1 := rfl; omega
      have hc3 : ((⟨#[32]⟩ : ByteArray) ++ s ++ (⟨#[32]⟩ : ByteArray) ++ showR l).size ≤ 2000034 := by rw [ByteArray.size_append]; omega
      have HE1 : Hid (∀ c', c = c' → 0 ≤ c' → c' ≤ 3 → clsW c' ++ ((⟨#[32]⟩ : ByteArray) ++ s ++ (⟨#[32]⟩ : ByteArray) ++ showR l) = res) := hidden (fun c' hc h3 h4 => by
        subst hc
        rw [← HE.out, tokT_yes (t := ⟨s, l, c⟩) hn he h3 h4]
        dsimp only
        unfold spB
        simp only [ba_assoc])
      have HE2 : Hid (¬ (0 ≤ c ∧ c ≤ 3) → res = ByteArray.empty) := hidden (fun hc => by rw [← HE.out]; exact tokT_no (fun h => hc ⟨h.2.2.1, h.2.2.2⟩))
      generalize showR l = sl at *
      clear HE he hn
      go_upto_region 3 with fail
      have HbA := hidden (fun x : Ext w1 => hb.trans (x.below.mono hb.size))
      have d0 := fun x : Ext w1 => Ext.cell i0 x
      have d1 := fun x : Ext w1 => Ext.cell i1 x
      clear i0 i1 i2
      refine wp_region_ext (by kernel_rfl) (by kernel_rfl) ?_
      repeat (go_big_quiet_step ((go_at_call 36; exact Ext.call (HS.out _ (HbA.out _)))))
      refine wpQuiet_nil ?_
      intro w5 hb5
      have hb6 := hb.trans (hb5.mono hb.size)
      replace HBx := hidden (HBx.out.below hb5 HBx.out.lt)
      clear d0 d1 HbA HS hb5
      obtain ⟨i0, i1, i2⟩ := three HBx.out
      generalize (⟨#[32]⟩ : ByteArray) ++ s ++ (⟨#[32]⟩ : ByteArray) ++ sl = bh at *
      by_cases k0 : c = 0
      · have e := HE1.out 0 k0 (by decide) (by decide)
        have E := hidden e
        subst k0
        clear HE1 HE2 e
        go_wp2
        go_ret
        exact ⟨by rw [← E.out]; rfl, hb6⟩
      · by_cases k1 : c = 1
        · have e := HE1.out 1 k1 (by decide) (by decide)
          have E := hidden e
          subst k1
          clear HE1 HE2 e k0
          go_wp2
          go_ret
          exact ⟨by rw [← E.out]; rfl, hb6⟩
        · by_cases k2 : c = 2
          · have e := HE1.out 2 k2 (by decide) (by decide)
            have E := hidden e
            subst k2
            clear HE1 HE2 e k0 k1
            go_wp2
            go_ret
            exact ⟨by rw [← E.out]; rfl, hb6⟩
          · by_cases k3 : c = 3
            · have e := HE1.out 3 k3 (by decide) (by decide)
              have E := hidden e
              subst k3
              clear HE1 HE2 e k0 k1 k2
              go_wp2
              go_ret
              exact ⟨by rw [← E.out]; rfl, hb6⟩
            · have e := HE2.out (by omega)
              subst e
              have p0 : (c == 0) = false := beq_eq_false_iff_ne.2 k0
              have p1 : (c == 1) = false := beq_eq_false_iff_ne.2 k1
              have p2 : (c == 2) = false := beq_eq_false_iff_ne.2 k2
              have p3 : (c == 3) = false := beq_eq_false_iff_ne.2 k3
              clear HE1 HE2 k0 k1 k2 k3
              go_wp2
              go_ret
              exact ⟨rfl, hb6⟩
    · have p1 : (rxErr l != 0) = true := by simpa using he
      have e0 : res = ByteArray.empty := by rw [← HE.out]; exact tokT_no (fun h => he h.2.1)
      subst e0
      clear HE HS he
      go_wp2
      go_ret
      exact ⟨rfl, hb⟩
/-- Of any grammar: the empty text, if it isn't right. -/
noncomputable def showItem (g : Gram) (x : Item) : ByteArray := if rightB g = true then itemT g x else ByteArray.empty
noncomputable def showProd (g : Gram) (p : Prod) : ByteArray := if rightB g = true then prodT g p else ByteArray.empty
theorem right_names {g : Gram} (h : rightB g = true) : ∀ s ∈ allNames g, s.size ≤ 1000 := by
  have hr : RightG g := (right_iff g).1 (of_decide_eq_true h)
  intro s hs
  rcases List.mem_append.1 hs with hs | hs
  · obtain ⟨t, ht, rfl⟩ := List.mem_map.1 hs
    obtain ⟨i, hi⟩ := List.getElem?_of_mem ht
    have := nameB_size (hr.tokName hi).1
    omega
  · obtain ⟨i, hi⟩ := List.getElem?_of_mem hs
    have := nameB_size (hr.ruleName hi).1
    omega
end Go.Proofs.YtfmdmeokbbpmlaaGreat
