/-
  gprint: a token as a line.
-/
import Derived.Test.YtfmdmeokbbpmlaaDoorGprD
namespace Go.Proofs.YtfmdmeokbbpmlaaDoor
open Go.RowKit Go.Shelf

theorem three {w : World} {p : Nat} {t : TypeId} {a b c : Value} (H : Holds w p t #[a, b, c]) : w.cell? ⟨p, 0, none⟩ = some a ∧ w.cell? ⟨p, 1, none⟩ = some b ∧ w.cell? ⟨p, 2, none⟩ = some c := ⟨H.cell 0, H.cell 1, H.cell 2⟩
theorem clsW_size (c : Int) : (clsW c).size ≤ 5 := by unfold clsW; split <;> (try split) <;> (try split) <;> decide
theorem nameB_size {s : ByteArray} (h : nameB s = true) : s.size ≤ 32 := by
  by_cases hn : IsName s
  · exact hn.2.1
  · unfold nameB at h; rw [holdsB_false hn] at h; cases h
theorem tokT_yes {t : Token} (h1 : nameB t.name = true) (h2 : rxErr t.rex = 0) (h3 : 0 ≤ t.cls) (h4 : t.cls ≤ 3) : tokT t = clsW t.cls ++ spB ++ t.name ++ spB ++ showR t.rex := by
  unfold tokT tokOk
  rw [h1, decide_eq_true h2, decide_eq_true h3, decide_eq_true h4]
  rfl
theorem tokT_no {t : Token} (h : ¬ (nameB t.name = true ∧ rxErr t.rex = 0 ∧ 0 ≤ t.cls ∧ t.cls ≤ 3)) : tokT t = ByteArray.empty := by
  unfold tokT tokOk
  rw [if_neg]
  intro k
  simp only [Bool.and_eq_true, decide_eq_true_eq] at k
  exact h k
set_option maxRecDepth 20000 in
set_option maxHeartbeats 8000000 in
theorem gprint_ShowToken (t : Token) (lv : Value) (w : World) (HL : Rd w (Old w) 5 lv t.rex.length (t.rex.flatMap rxCells)) (hw : ∀ x ∈ t.rex, Wordy x) (HT : TabW w) (HW : WordsW w) (hz : t.name.size ≤ maxLen) :
    Calls Tryd.prog 19 #[.agg #[.string t.name, lv, .int .i64 t.cls]] w fun r w' => r = .returned (.string (tokT t)) ∧ Below w.heap.size w w' := by
  obtain ⟨s, l, c⟩ := t
  dsimp only at HL hw hz ⊢
  have hb : Below w.heap.size w (w.alloc (.cells #[.string s, lv, .int .i64 c] 44)) := (Below.refl _ _).alloc (Nat.le_refl _) _
  have HN := hidden (fun w' => word_name s w' hz)
  have HC := hidden (fun (w' : World) (hb : Below w.heap.size w w') => rx_check lv l w' (HL.old hb))
  have HS := hidden (fun (w' : World) (hb : Below w.heap.size w w') => rx_Show_r lv l w' (HL.old hb) hw (HT.old hb))
  have HWs := hidden (fun (w' : World) (hb : Below w.heap.size w w') => HW.old hb)
  have HBx := hidden (Holds.new w 44 #[.string s, lv, .int .i64 c])
  obtain ⟨A, k, rfl, h1, h2⟩ := HL.val
  obtain ⟨res, HE⟩ : ∃ res, Hid (tokT ⟨s, l, c⟩ = res) := ⟨_, hidden rfl⟩
  rw [HE.out]
  clear HL HT HW hw hz
  go_enter Tryd.func19, Tryd.ntmps19
  go_upto_region 1 with fail
  generalize (w.alloc (.cells #[.string s, .slice A l.length k, .int .i64 c] 44)) = w1 at *
  obtain ⟨i0, i1, i2⟩ := three HBx.out
  have HX := hidden (HN.out w1)
  go_wp2_with fail
  refine HX.out.mono ?_
  rintro r w2 ⟨rfl, hb2⟩
  replace HBx := hidden (HBx.out.below hb2 HBx.out.lt)
  have hb2 := hb.trans (hb2.mono hb.size)
  clear i0 i1 i2 HX HN hb
  obtain ⟨i0, i1, i2⟩ := three HBx.out
  cases hn : nameB s with
  | false =>
    have e0 : res = ByteArray.empty := by rw [← HE.out]; exact tokT_no (fun h => by rw [hn] at h; cases h.1)
    subst e0
    clear HE hn HC HS
    go_wp2
    go_ret
    exact ⟨rfl, hb2⟩
  | true =>
    have HX := hidden (HC.out w2 hb2)
    go_wp2_with fail
    refine HX.out.mono ?_
    rintro r w3 ⟨rfl, hb3⟩
    replace HBx := hidden (HBx.out.below hb3 HBx.out.lt)
    have hb3 := hb2.trans (hb3.mono hb2.size)
    clear i0 i1 i2 HX HC hb2
    obtain ⟨i0, i1, i2⟩ := three HBx.out
    by_cases he : rxErr l = 0
    · have p1 : (rxErr l != 0) = false := by simpa using he
      by_cases hc : 0 ≤ c ∧ c ≤ 3
      · obtain ⟨hc1, hc2⟩ := hc
        have HE0 : Hid (clsW c ++ spB ++ s ++ spB ++ showR l = res) := hidden (by rw [← HE.out]; exact (tokT_yes (t := ⟨s, l, c⟩) hn he hc1 hc2).symm)
        obtain ⟨j, rfl⟩ : ∃ j : Nat, c = (j : Int) := ⟨c.toNat, by omega⟩
        have hj : j < 4 := by omega
        have q1 : ¬ (j : Int) < 0 := by omega
        have q2 : ¬ (3 : Int) < (j : Int) := by omega
        have q3 : (0 : Int) ≤ (j : Int) := by omega
        have q4 : (j : Int) < 4 := by omega
        have hsz := nameB_size hn
        have hcs := clsW_size (j : Int)
        have hss := showR_size l
        have c0 := (HWs.out w3 hb3).cls j hj
        have hcs1 : (clsW (j : Int) ++ spB).size ≤ 6 := by rw [ByteArray.size_append]; have : spB.size = 1 := rfl; omega
        have hcs2 : (clsW (j : Int) ++ spB ++ s).size ≤ 38 := by rw [ByteArray.size_append]; omega
        have hcs3 : (clsW (j : Int) ++ spB ++ s ++ spB).size ≤ 39 := by rw [ByteArray.size_append]; have : spB.size = 1 := rfl; omega
        unfold spB at HE0 hcs1 hcs2 hcs3
        generalize clsW (j : Int) = cw at *
        generalize showR l = sl at *
        clear HE he hn hc1 hc2
        go_upto_region 3 with fail
        have HbA := hidden (fun x : Ext w3 => hb3.trans (x.below.mono hb3.size))
        have d0 := fun x : Ext w3 => Ext.cell i0 x
        have d1 := fun x : Ext w3 => Ext.cell i1 x
        have d2 := fun x : Ext w3 => Ext.cell i2 x
        have d3 := fun x : Ext w3 => Ext.cell c0 x
        clear i0 i1 i2 c0
        refine wp_region_ext (by kernel_rfl) (by kernel_rfl) ?_
        repeat (go_big_quiet_step ((go_at_call 10; exact Ext.call (HS.out _ (HbA.out _)))))
        refine wpQuiet_nil ?_
        intro w5 hb5
        go_wp2
        go_ret
        exact ⟨by rw [← HE0.out]; first | done | rfl, hb3.trans (hb5.mono hb3.size)⟩
      · have e0 : res = ByteArray.empty := by rw [← HE.out]; exact tokT_no (fun h => hc ⟨h.2.2.1, h.2.2.2⟩)
        subst e0
        clear HE HS
        by_cases h1 : c < 0
        · clear hc
          go_wp2
          go_ret
          exact ⟨rfl, hb3⟩
        · have h2 : 3 < c := by omega
          clear hc
          go_wp2
          go_ret
          exact ⟨rfl, hb3⟩
    · have p1 : (rxErr l != 0) = true := by simpa using he
      have e0 : res = ByteArray.empty := by rw [← HE.out]; exact tokT_no (fun h => he h.2.1)
      subst e0
      clear HE HS he
      go_wp2
      go_ret
      exact ⟨rfl, hb3⟩
end Go.Proofs.YtfmdmeokbbpmlaaDoor
