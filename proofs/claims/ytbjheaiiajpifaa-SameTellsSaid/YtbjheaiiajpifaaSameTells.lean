/-
  law40.SameTells.
-/
import Derived.Test.YtbjheaiiajpifaaSameL
namespace Go.Proofs.Ytbjheaiiajpifaa.T
open Go.RowKit Go.Shelf

set_option maxRecDepth 20000 in
set_option maxHeartbeats 8000000 in
theorem law_sameTells (a' b' c' va vb : Value) (g : Gram) (a b : List Node) (w : World) (HG : GramIs w (Old w) a' b' c' g) (hz : ∀ s ∈ allNames g, s.size ≤ maxLen) (hC : (∀ x ∈ g.toks, x.rex.length * 40 ≤ 140737488355328) ∧ (∀ x ∈ g.prods, x.right.length * 32 ≤ 140737488355328)) (Fa : Fit a) (Fb : Fit b) (hA : Nds w (Old w) va a) (hB : Nds w (Old w) vb b) :
    Calls Try.prog 3 #[.agg (gramCells a' b' c' g), va, vb] w fun r w' => r = .returned (.bool true) ∧ Below w.heap.size w w' := by
  have HFw := hidden (fun (w' : World) (hb : Below w.heap.size w w') => law_Few a' b' c' g w' (HG.later hb) hz)
  have HFn := hidden (fun (w' : World) (hb : Below w.heap.size w w') => few40 va vb a b w' (hA.old hb) (hB.old hb))
  have HCp : Hid (Go.Proofs.Ytbjheaiiajpifaa.fewB g = true → Copied g) := hidden (fun h => ⟨by have := (few_small h).1; omega, by have := (few_small h).2.1; omega, by have := (few_small h).2.2; omega, hC.1, hC.2⟩)
  have HOa : Hid (fewB a = true → NdsOk a) := hidden (fun h => ⟨by unfold fewB at h; simp at h; omega, Fa⟩)
  have HOb : Hid (fewB b = true → NdsOk b) := hidden (fun h => ⟨by unfold fewB at h; simp at h; omega, Fb⟩)
  have HGl := hidden (fun (w' : World) (hb : Below w.heap.size w w') => HG.later hb)
  have HAl := hidden (fun (w' : World) (hb : Below w.heap.size w w') => hA.old hb)
  have HBl := hidden (fun (w' : World) (hb : Below w.heap.size w w') => hB.old hb)
  obtain ⟨A1, k1, rfl, v1, m1⟩ := HG.1.value
  obtain ⟨A2, k2, rfl, v2, m2⟩ := HG.2.1.val
  obtain ⟨A3, k3, rfl, v3, m3⟩ := HG.2.2.value
  obtain ⟨A4, k4, rfl, v4, m4⟩ := hA.value
  obtain ⟨A5, k5, rfl, v5, m5⟩ := hB.value
  unfold maxLen at m4 m5
  have hb0 : Below w.heap.size w (w.alloc (.cells #[.slice A1 g.toks.length k1, .slice A2 g.rules.length k2, .slice A3 g.prods.length k3, .int .i64 g.start, .int .i64 g.states, .int .i64 g.text, .int .i64 g.nodes, .int .i64 g.pairs] 26)) := (by repeat (first | (with_reducible exact Below.refl _ _) | (with_reducible assumption) | (with_reducible refine Below.drew ?_) | (with_reducible refine below_drewN ?_ _) | ((with_reducible refine below_alloc ?_ ?_); (focus (first | omega | (simp; done) | (simp; omega)))) | ((with_reducible refine below_set ?_ ?_); (focus (first | omega | (simp; done) | (simp; omega))))))
  have HB0 := hidden (Holds.new w 26 #[.slice A1 g.toks.length k1, .slice A2 g.rules.length k2, .slice A3 g.prods.length k3, .int .i64 g.start, .int .i64 g.states, .int .i64 g.text, .int .i64 g.nodes, .int .i64 g.pairs])
  clear HG hA hB hz hC Fa Fb
  unfold gramCells at HFw ⊢
  cases fg : Go.Proofs.Ytbjheaiiajpifaa.fewB g with
  | false =>
    rw [fg] at HFw
    go_enter Try.func3, Try.ntmps3
    obtain ⟨s0, s1, s2, s3, s4, s5, s6, s7⟩ := eight HB0.out
    go_wp2_with fail
    refine (HFw.out _ hb0).mono ?_
    rintro r w2 ⟨rfl, hb2⟩
    replace HB0 := hidden (HB0.out.below hb2 HB0.out.lt)
    replace hb0 := below_more hb0 hb2
    clear hb2 HFw s0 s1 s2 s3 s4 s5 s6 s7
    go_wp2_with fail
    refine (knows40 _).mono ?_
    rintro r w9 ⟨rfl, hb9⟩
    replace hb0 := below_more hb0 hb9
    clear hb9
    go_wp2
    go_ret
    exact ⟨rfl, hb0⟩
  | true =>
    rw [fg] at HFw
    have kg := HCp.out fg
    by_cases fab : (fewB a && fewB b) = true
    · have fa : fewB a = true := (Bool.and_eq_true _ _ ▸ fab).1
      have fb : fewB b = true := (Bool.and_eq_true _ _ ▸ fab).2
      have ka := HOa.out fa
      have kb := HOb.out fb
      rw [fab] at HFn
      by_cases h_a : a.length ≤ 60
      · skip
        by_cases h_b : b.length ≤ 60
        · skip
          go_enter Try.func3, Try.ntmps3
          obtain ⟨s0, s1, s2, s3, s4, s5, s6, s7⟩ := eight HB0.out
          go_wp2_with fail
          refine (HFw.out _ hb0).mono ?_
          rintro r w2 ⟨rfl, hb2⟩
          replace HB0 := hidden (HB0.out.below hb2 HB0.out.lt)
          replace hb0 := below_more hb0 hb2
          clear hb2 HFw s0 s1 s2 s3 s4 s5 s6 s7
          go_wp2_with fail
          refine (HFn.out _ hb0).mono ?_
          rintro r w3 ⟨rfl, hb3⟩
          replace HB0 := hidden (HB0.out.below hb3 HB0.out.lt)
          replace hb0 := below_more hb0 hb3
          clear hb3 HFn
          obtain ⟨s0, s1, s2, s3, s4, s5, s6, s7⟩ := eight HB0.out
          go_wp2_with fail
          have HN1 := hidden (lang_New _ _ _ g _ (HGl.out _ hb0) kg)
          unfold gramCells at HN1
          refine HN1.out.mono ?_
          rintro r w4 ⟨⟨lv, rfl, HL⟩, hb4⟩
          replace HB0 := hidden (HB0.out.below hb4 HB0.out.lt)
          replace hb0 := below_more hb0 hb4
          clear hb4 HN1 s0 s1 s2 s3 s4 s5 s6 s7
          obtain ⟨q, rfl⟩ : ∃ q, lv = .pointer q := by rcases HL.out with ⟨rfl, _⟩ | ⟨q, rfl, _⟩ <;> exact ⟨_, rfl⟩
          have HD := hidden (same_Diff (.pointer q) _ _ g a b _ HL.out kg (HAl.out _ hb0) (HBl.out _ hb0) ka kb)
          go_wp2_with fail
          refine HD.out.mono ?_
          rintro r w5 ⟨⟨p5, rfl, M5⟩, hb5⟩
          replace HL := hidden (HL.out.below hb5)
          replace HB0 := hidden (HB0.out.below hb5 HB0.out.lt)
          replace hb0 := below_more hb0 hb5
          clear hb5 HD
          have R5 := hidden (M5.out.rd (T := Old w5) (fun _ _ _ h => h))
          obtain ⟨A6, k6, e6⟩ := M5.out.value
          subst e6
          clear M5
          have HD := hidden (ref_Diff40 _ _ _ _ _ g a b _ (HGl.out _ hb0) (HAl.out _ hb0) (HBl.out _ hb0) ka kb)
          unfold gramCells at HD
          obtain ⟨s0, s1, s2, s3, s4, s5, s6, s7⟩ := eight HB0.out
          go_wp2_with fail
          refine HD.out.mono ?_
          rintro r w6 ⟨⟨p6, rfl, M6⟩, hb6⟩
          replace HL := hidden (HL.out.below hb6)
          replace R5 := hidden (Rd.old R5.out hb6)
          replace HB0 := hidden (HB0.out.below hb6 HB0.out.lt)
          replace hb0 := below_more hb0 hb6
          clear hb6 HD s0 s1 s2 s3 s4 s5 s6 s7
          have R6 := hidden (M6.out.rd (T := Old w6) (fun _ _ _ h => h))
          obtain ⟨A7, k7, e7⟩ := M6.out.value
          subst e7
          clear M6
          have HD := hidden (same_Diff (.pointer none) _ _ zeroG a b _ (.inl ⟨rfl, rfl⟩) zero_copied (HAl.out _ hb0) (HBl.out _ hb0) ka kb)
          go_wp2_with fail
          refine HD.out.mono ?_
          rintro r w7 ⟨⟨p7, rfl, M7⟩, hb7⟩
          replace HL := hidden (HL.out.below hb7)
          replace R5 := hidden (Rd.old R5.out hb7)
          replace R6 := hidden (Rd.old R6.out hb7)
          replace HB0 := hidden (HB0.out.below hb7 HB0.out.lt)
          replace hb0 := below_more hb0 hb7
          clear hb7 HD
          have R7 := hidden (M7.out.rd (T := Old w7) (fun _ _ _ h => h))
          obtain ⟨A8, k8, e8⟩ := M7.out.value
          subst e8
          clear M7
          have HD := hidden (ref_Diff40 _ _ _ _ _ zeroG a b _ (gram_nil _ _) (HAl.out _ hb0) (HBl.out _ hb0) ka kb)
          unfold gramCells at HD
          go_wp2_with fail
          refine HD.out.mono ?_
          rintro r w8 ⟨⟨p8, rfl, M8⟩, hb8⟩
          replace HL := hidden (HL.out.below hb8)
          replace R5 := hidden (Rd.old R5.out hb8)
          replace R6 := hidden (Rd.old R6.out hb8)
          replace R7 := hidden (Rd.old R7.out hb8)
          replace HB0 := hidden (HB0.out.below hb8 HB0.out.lt)
          replace hb0 := below_more hb0 hb8
          clear hb8 HD
          have R8 := hidden (M8.out.rd (T := Old w8) (fun _ _ _ h => h))
          obtain ⟨A9, k9, e9⟩ := M8.out.value
          subst e9
          clear M8
          have pl := dPath_len g.toks a b
          have pz := dPath_len zeroG.toks a b
          have C1 := hidden (fun (y : Ext w8) => same_Of (.pointer q) _ _ g a b y.w (HL.out.below y.below) kg (HAl.out _ (below_more hb0 y.below)) (HBl.out _ (below_more hb0 y.below)) ka kb)
          have C2 := hidden (fun (y : Ext w8) => same_Count (.pointer q) _ _ g a b y.w (HL.out.below y.below) kg (HAl.out _ (below_more hb0 y.below)) (HBl.out _ (below_more hb0 y.below)) ka kb)
          have C3 := hidden (fun (y : Ext w8) => ref_Count40 _ _ _ _ _ g a b y.w (HGl.out _ (below_more hb0 y.below)) (HAl.out _ (below_more hb0 y.below)) (HBl.out _ (below_more hb0 y.below)) ka kb)
          unfold gramCells at C3
          have C4 := hidden (fun (y : Ext w8) => ints_self _ _ (dPath g.toks a b) y.w (by have := ka.len; omega) (Rd.old R5.out y.below) (Rd.old R6.out y.below))
          have C5 := hidden (fun (y : Ext w8) => ints_self _ _ (dPath zeroG.toks a b) y.w (by have := ka.len; omega) (Rd.old R7.out y.below) (Rd.old R8.out y.below))
          clear pl pz ka kb kg R5 R6 R7 R8 HL HGl HAl HBl
          generalize dHow g.toks a b = x1 at *
          generalize dCount g.toks a b = x2 at *
          generalize dHow zeroG.toks a b = x3 at *
          generalize (dPath g.toks a b).length = n1 at *
          generalize (dPath zeroG.toks a b).length = n2 at *
          have q1 : (x1 == x1) = true := by simp
          have q2 : (x2 == x2) = true := by simp
          have q3 : (x3 == x3) = true := by simp
          obtain ⟨s0, s1, s2, s3, s4, s5, s6, s7⟩ := eight HB0.out
          have z0 := Ext.cell s0; have z1 := Ext.cell s1; have z2 := Ext.cell s2; have z3 := Ext.cell s3; have z4 := Ext.cell s4; have z5 := Ext.cell s5; have z6 := Ext.cell s6; have z7 := Ext.cell s7
          clear s0 s1 s2 s3 s4 s5 s6 s7
          go_wp2_with fail
          refine wp_region_ext (by kernel_rfl) (by kernel_rfl) ?_
          repeat (go_big_quiet_step (first | (go_at_call 16; exact Ext.call (C1.out _)) | (go_at_call 18; exact Ext.call (C2.out _)) | (go_at_call 19; exact Ext.call (C3.out _)) | (go_at_call 17; with_reducible exact Ext.call (C4.out _)) | (go_at_call 17; with_reducible exact Ext.call (C5.out _)) | (go_at_call 12; exact Ext.call (knows40 _))))
          refine wpQuiet_nil ?_
          intro wf hbf
          replace hb0 := below_more hb0 hbf
          clear hbf z0 z1 z2 z3 z4 z5 z6 z7
          go_wp2
          go_ret
          exact ⟨rfl, hb0⟩
        · go_enter Try.func3, Try.ntmps3
          obtain ⟨s0, s1, s2, s3, s4, s5, s6, s7⟩ := eight HB0.out
          go_wp2_with fail
          refine (HFw.out _ hb0).mono ?_
          rintro r w2 ⟨rfl, hb2⟩
          replace HB0 := hidden (HB0.out.below hb2 HB0.out.lt)
          replace hb0 := below_more hb0 hb2
          clear hb2 HFw s0 s1 s2 s3 s4 s5 s6 s7
          go_wp2_with fail
          refine (HFn.out _ hb0).mono ?_
          rintro r w3 ⟨rfl, hb3⟩
          replace HB0 := hidden (HB0.out.below hb3 HB0.out.lt)
          replace hb0 := below_more hb0 hb3
          clear hb3 HFn
          go_wp2_with fail
          refine (knows40 _).mono ?_
          rintro r w9 ⟨rfl, hb9⟩
          replace hb0 := below_more hb0 hb9
          clear hb9
          go_wp2
          go_ret
          exact ⟨rfl, hb0⟩
      · go_enter Try.func3, Try.ntmps3
        obtain ⟨s0, s1, s2, s3, s4, s5, s6, s7⟩ := eight HB0.out
        go_wp2_with fail
        refine (HFw.out _ hb0).mono ?_
        rintro r w2 ⟨rfl, hb2⟩
        replace HB0 := hidden (HB0.out.below hb2 HB0.out.lt)
        replace hb0 := below_more hb0 hb2
        clear hb2 HFw s0 s1 s2 s3 s4 s5 s6 s7
        go_wp2_with fail
        refine (HFn.out _ hb0).mono ?_
        rintro r w3 ⟨rfl, hb3⟩
        replace HB0 := hidden (HB0.out.below hb3 HB0.out.lt)
        replace hb0 := below_more hb0 hb3
        clear hb3 HFn
        go_wp2_with fail
        refine (knows40 _).mono ?_
        rintro r w9 ⟨rfl, hb9⟩
        replace hb0 := below_more hb0 hb9
        clear hb9
        go_wp2
        go_ret
        exact ⟨rfl, hb0⟩
    · have fab' : (fewB a && fewB b) = false := by simpa using fab
      rw [fab'] at HFn
      go_enter Try.func3, Try.ntmps3
      obtain ⟨s0, s1, s2, s3, s4, s5, s6, s7⟩ := eight HB0.out
      go_wp2_with fail
      refine (HFw.out _ hb0).mono ?_
      rintro r w2 ⟨rfl, hb2⟩
      replace HB0 := hidden (HB0.out.below hb2 HB0.out.lt)
      replace hb0 := below_more hb0 hb2
      clear hb2 HFw s0 s1 s2 s3 s4 s5 s6 s7
      go_wp2_with fail
      refine (HFn.out _ hb0).mono ?_
      rintro r w3 ⟨rfl, hb3⟩
      replace HB0 := hidden (HB0.out.below hb3 HB0.out.lt)
      replace hb0 := below_more hb0 hb3
      clear hb3 HFn
      go_wp2_with fail
      refine (knows40 _).mono ?_
      rintro r w9 ⟨rfl, hb9⟩
      replace hb0 := below_more hb0 hb9
      clear hb9
      go_wp2
      go_ret
      exact ⟨rfl, hb0⟩
end Go.Proofs.Ytbjheaiiajpifaa.T
