/-
  law32.knows; law TrailTexts.
-/
import Derived.Test.YtdbbjlphlbndkaaDoorTrailR
import Derived.Test.YtdbbjlphlbndkaaDoorTrailU
namespace Go.Proofs.YtdbbjlphlbndkaaDoor
open Go.RowKit Go.Shelf

theorem read_a : readPath [47, 47] = ([], 3) := by decide
theorem read_b : readPath [47, 49, 47, 48] = ([1, 0], 0) := by decide
theorem show_a : showPath [1, 0] = [47, 49, 47, 48] := by
  unfold showPath
  rw [if_neg (by rw [holdsB_false]; decide; rintro ⟨x, hx, h0⟩; simp at hx; omega), if_neg (by simp)]
  have h1 : showI 1 = [49] := (showI_nat 1).trans (digs_lt (by omega))
  have h2 : showI 0 = [48] := (showI_nat 0).trans (digs_lt (by omega))
  unfold slashed
  simp only [List.flatMap_cons, List.flatMap_nil, h1, h2]
  rfl
theorem show_b : showPath [] = [47] := by
  unfold showPath
  rw [if_neg (by rw [holdsB_false]; decide; rintro ⟨x, hx, h0⟩; simp at hx), if_pos rfl]

set_option maxRecDepth 20000 in
set_option maxHeartbeats 8000000 in
theorem knows32 (m : Int) (w : World) (hm : w.cell? ⟨0, 0, none⟩ = some (.int .i64 m)) :
    Calls Tryd.prog 7 #[] w fun r w' => r = .returned (.bool true) ∧ Below w.heap.size w w' := by
  have HR := hidden (fun (s : ByteArray) (hs : s.size ≤ 1000000) (w' : World) (hb : Below w.heap.size w w') => trail_Read s m w' hs (Ext.cell hm ⟨w', hb⟩))
  have H1 := hidden (fun (w' : World) (hb : Below w.heap.size w w') => HR.out ⟨#[47, 47]⟩ (by decide) w' hb)
  have H2 := hidden (fun (w' : World) (hb : Below w.heap.size w w') => HR.out ⟨#[47, 49, 47, 48]⟩ (by decide) w' hb)
  have e1 : readPath (⟨#[47, 47]⟩ : ByteArray).data.toList = ([], 3) := read_a
  have e2 : readPath (⟨#[47, 49, 47, 48]⟩ : ByteArray).data.toList = ([1, 0], 0) := read_b
  rw [e1] at H1
  rw [e2] at H2
  clear HR hm e1 e2
  have hb0 := Below.refl w.heap.size w
  go_enter Tryd.func7, Tryd.ntmps7
  go_wp2_with fail
  refine (H1.out _ hb0).mono ?_
  rintro e w1 ⟨⟨u1, rfl, hu1⟩, hb1⟩
  go_wp2_with fail
  refine (H2.out _ hb1).mono ?_
  rintro e w2 ⟨⟨u2, rfl, hu2⟩, hb2⟩
  replace hb2 := hb1.trans (hb2.mono hb1.size)
  have HI := hidden (RowM.rd (RowM.made (enc := intV) (w := w2) (base := w2.heap.size) (e := 3) (o := w2.heap.size) [1, 0] #[.int .i64 1, .int .i64 0] rfl (by decide) rfl (Nat.le_refl _)))
  have hb3 := hb2.alloc hb2.size (.cells #[.int .i64 1, .int .i64 0] 3)
  have HS1 := hidden (trail_Show _ [1, 0] _ HI.out (by decide) (by decide))
  rw [show_a] at HS1
  have HP := hidden (hu2.out)
  go_wp2_with fail
  refine HS1.out.mono ?_
  rintro e w3 ⟨rfl, hb4⟩
  replace hb3 := hb3.trans (hb4.mono hb3.size)
  have hb34 := ((Below.refl w2.heap.size w2).alloc (Nat.le_refl _) (.cells #[.int .i64 1, .int .i64 0] 3)).trans (hb4.mono (by simp))
  have HP3 := hidden (Rd.old HP.out hb34)
  have HS2 := hidden (trail_Show (.slice none 0 0) [] w3 (Rd.nil _ _ _) (by decide) (by decide))
  rw [show_b] at HS2
  clear hb4 hb34 HS1 HI HP hb2
  go_wp2_with fail
  refine HS2.out.mono ?_
  rintro e w4 ⟨rfl, hb4⟩
  replace hb3 := hb3.trans (hb4.mono hb3.size)
  replace HP3 := hidden (Rd.old HP3.out hb4)
  clear hb4 HS2
  have HI := hidden (RowM.rd (RowM.made (enc := intV) (w := w4) (base := w4.heap.size) (e := 3) (o := w4.heap.size) [1, 0] #[.int .i64 1, .int .i64 0] rfl (by decide) rfl (Nat.le_refl _)))
  have hb5 := hb3.alloc hb3.size (.cells #[.int .i64 1, .int .i64 0] 3)
  have HP5 := hidden (Rd.old HP3.out ((Below.refl w4.heap.size w4).alloc (Nat.le_refl _) (.cells #[.int .i64 1, .int .i64 0] 3)))
  have HSm := hidden (same_ints _ _ _ _ _ HP5.out HI.out)
  rw [eqB_self] at HSm
  go_wp2_with fail
  refine HSm.out.mono ?_
  rintro e w5 ⟨rfl, hb6⟩
  go_wp2
  go_ret
  exact ⟨rfl, hb5.trans (hb6.mono hb5.size)⟩

set_option maxRecDepth 20000 in
set_option maxHeartbeats 8000000 in
theorem law_texts (a b : Value) (l m : List Int) (s : ByteArray) (mx : Int) (w : World) (hA : Ints w (Old w) a l) (hB : Ints w (Old w) b m) (hx : ∀ x ∈ l, x ≤ 9223372036854775807) (hs : s.size ≤ maxLen) (hm : w.cell? ⟨0, 0, none⟩ = some (.int .i64 mx)) :
    Calls Tryd.prog 3 #[a, b, .string s] w fun r w' => r = .returned (.bool true) ∧ Below w.heap.size w w' := by
  obtain ⟨A, c, rfl, hc1, hc2⟩ := hA.val
  obtain ⟨A2, c2, rfl, hd1, hd2⟩ := hB.val
  unfold maxLen at hc2 hd2 hs
  have HK := hidden (fun (w' : World) (hb : Below w.heap.size w w') => knows32 mx w' (Ext.cell hm ⟨w', hb⟩))
  have hb0 := Below.refl w.heap.size w
  by_cases h1 : l.length ≤ 200
  · by_cases h2 : m.length ≤ 200
    · by_cases h3 : s.size ≤ 300
      · have q1 : decide (200 < (l.length : Int)) = false := decide_eq_false (by omega)
        have q2 : decide (200 < (m.length : Int)) = false := decide_eq_false (by omega)
        have q3 : decide (300 < (s.size : Int)) = false := decide_eq_false (by omega)
        have H1 := hidden (fun (w' : World) (hb : Below w.heap.size w w') => trail_Read s mx w' (by omega) (Ext.cell hm ⟨w', hb⟩))
        have H2 := hidden (fun (w' : World) => ref_Read32 s w' (by omega))
        have H3 := hidden (fun (w' : World) (hb : Below w.heap.size w w') => trail_Show _ l w' (Rd.old hA hb) (by omega) hx)
        have H4 := hidden (fun (w' : World) (hb : Below w.heap.size w w') => ref_Show32 _ l w' (Rd.old hA hb) (by omega) hx)
        have H5 := hidden (fun (w' : World) (hb : Below w.heap.size w w') => trail_Under _ _ l m w' (Rd.old hA hb) (Rd.old hB hb))
        have H6 := hidden (fun (w' : World) (hb : Below w.heap.size w w') => ref_Under _ _ l m w' (Rd.old hA hb) (Rd.old hB hb))
        generalize readPath s.data.toList = rp at *
        generalize (⟨(showPath l).toArray⟩ : ByteArray) = sp at *
        generalize underB l m = ub at *
        obtain ⟨R, er⟩ := rp
        dsimp only at *
        have hse : (sp.toList == sp.toList) = true := beq_self_eq_true _
        have hue : (ub == ub) = true := beq_self_eq_true _
        have hee : (er == er) = true := beq_self_eq_true _
        clear hA hB hx hm
        go_enter Tryd.func3, Tryd.ntmps3
        go_wp2_with fail
        refine (H1.out _ hb0).mono ?_
        rintro e w1 ⟨⟨u1, rfl, hu1⟩, hb1⟩
        go_wp2_with fail
        refine (H2.out _).mono ?_
        rintro e w2 ⟨⟨u2, rfl, hu2⟩, hb2⟩
        have hb := hb1.trans (hb2.mono hb1.size)
        replace hu1 := hidden (Rd.old hu1.out hb2)
        clear hb1 hb2 H1 H2
        go_wp2_with fail
        refine (H3.out _ hb).mono ?_
        rintro e w3 ⟨rfl, hb3⟩
        replace hb := hb.trans (hb3.mono hb.size)
        replace hu1 := hidden (Rd.old hu1.out hb3)
        replace hu2 := hidden (Rd.old hu2.out hb3)
        clear hb3 H3
        go_wp2_with fail
        refine (H4.out _ hb).mono ?_
        rintro e w4 ⟨rfl, hb3⟩
        replace hb := hb.trans (hb3.mono hb.size)
        have HSm := hidden (same_ints _ _ _ _ _ (Rd.old hu1.out hb3) (Rd.old hu2.out hb3))
        rw [eqB_self] at HSm
        clear hb3 H4 hu1 hu2
        go_wp2_with fail
        refine HSm.out.mono ?_
        rintro e w5 ⟨rfl, hb3⟩
        replace hb := hb.trans (hb3.mono hb.size)
        clear hb3 HSm
        go_wp2_with fail
        refine (H5.out _ hb).mono ?_
        rintro e w6 ⟨rfl, hb3⟩
        replace hb := hb.trans (hb3.mono hb.size)
        clear hb3 H5
        go_wp2_with fail
        refine (H6.out _ hb).mono ?_
        rintro e w7 ⟨rfl, hb3⟩
        replace hb := hb.trans (hb3.mono hb.size)
        clear hb3 H6
        go_wp2_with fail
        refine (HK.out _ hb).mono ?_
        rintro e w8 ⟨rfl, hb3⟩
        go_wp2
        go_ret
        exact ⟨rfl, hb.trans (hb3.mono hb.size)⟩
      · have q1 : decide (200 < (l.length : Int)) = false := decide_eq_false (by omega)
        have q2 : decide (200 < (m.length : Int)) = false := decide_eq_false (by omega)
        have q3 : decide (300 < (s.size : Int)) = true := decide_eq_true (by omega)
        clear hA hB hx hm
        go_enter Tryd.func3, Tryd.ntmps3
        go_wp2_with fail
        refine (HK.out _ hb0).mono ?_
        rintro e w8 ⟨rfl, hb3⟩
        go_wp2
        go_ret
        exact ⟨rfl, hb3⟩
    · have q1 : decide (200 < (l.length : Int)) = false := decide_eq_false (by omega)
      have q2 : decide (200 < (m.length : Int)) = true := decide_eq_true (by omega)
      clear hA hB hx hm
      go_enter Tryd.func3, Tryd.ntmps3
      go_wp2_with fail
      refine (HK.out _ hb0).mono ?_
      rintro e w8 ⟨rfl, hb3⟩
      go_wp2
      go_ret
      exact ⟨rfl, hb3⟩
  · have q1 : decide (200 < (l.length : Int)) = true := decide_eq_true (by omega)
    clear hA hB hx hm
    go_enter Tryd.func3, Tryd.ntmps3
    go_wp2_with fail
    refine (HK.out _ hb0).mono ?_
    rintro e w8 ⟨rfl, hb3⟩
    go_wp2
    go_ret
    exact ⟨rfl, hb3⟩
end Go.Proofs.YtdbbjlphlbndkaaDoor
