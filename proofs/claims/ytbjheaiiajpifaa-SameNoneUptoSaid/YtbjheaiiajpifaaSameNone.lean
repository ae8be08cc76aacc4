/-
  law40.SameNone.
-/
import Derived.Test.YtbjheaiiajpifaaSamePl
import Derived.Test.YtbjheaiiajpifaaT7
namespace Go.Proofs.Ytbjheaiiajpifaa.T
open Go.RowKit Go.Shelf

set_option maxRecDepth 20000 in
set_option maxHeartbeats 8000000 in
theorem law_sameNone (a' b' c' va vb : Value) (g : Gram) (a b : List Node) (w : World) (HG : GramIs w (Old w) a' b' c' g) (hz : ∀ s ∈ allNames g, s.size ≤ maxLen) (hC : (∀ x ∈ g.toks, x.rex.length * 40 ≤ 140737488355328) ∧ (∀ x ∈ g.prods, x.right.length * 32 ≤ 140737488355328)) (Fa : Fit a) (Fb : Fit b) (hA : Nds w (Old w) va a) (hB : Nds w (Old w) vb b) (hta : bulkT a ≤ 1000000000) (htb : bulkT b ≤ 1000000000) :
    Calls Try.prog 5 #[.agg (gramCells a' b' c' g), va, vb] w fun r w' => r = .returned (.bool true) ∧ Below w.heap.size w w' := by
  have HFw := hidden (fun (w' : World) (hb : Below w.heap.size w w') => law_Few a' b' c' g w' (HG.later hb) hz)
  have HFn := hidden (fun (w' : World) (hb : Below w.heap.size w w') => few40 va vb a b w' (hA.old hb) (hB.old hb))
  have HCp : Hid (Go.Proofs.Ytbjheaiiajpifaa.fewB g = true → Copied g) := hidden (fun h => ⟨by have := (few_small h).1; omega, by have := (few_small h).2.1; omega, by have := (few_small h).2.2; omega, hC.1, hC.2⟩)
  have HOa : Hid (fewB a = true → NdsOk a) := hidden (fun h => ⟨by unfold fewB at h; simp at h; omega, Fa⟩)
  have HOb : Hid (fewB b = true → NdsOk b) := hidden (fun h => ⟨by unfold fewB at h; simp at h; omega, Fb⟩)
  have HGl := hidden (fun (w' : World) (hb : Below w.heap.size w w') => HG.later hb)
  have HAl := hidden (fun (w' : World) (hb : Below w.heap.size w w') => hA.old hb)
  have HBl := hidden (fun (w' : World) (hb : Below w.heap.size w w') => hB.old hb)
  obtain ⟨A1, k1, rfl, v1, m1⟩ := HG.1.value
  obtain ⟨A2, k2, rfl, v2, m2⟩ := HG.2.1.val
  obtain ⟨A3, k3, rfl, v3, m3⟩ := HG.2.2.value
  obtain ⟨A4, k4, rfl, v4, m4⟩ := hA.value
  obtain ⟨A5, k5, rfl, v5, m5⟩ := hB.value
  unfold maxLen at m4 m5
  have hb0 : Below w.heap.size w (w.alloc (.cells #[.slice A1 g.toks.length k1, .slice A2 g.rules.length k2, .slice A3 g.prods.length k3, .int .i64 g.start, .int .i64 g.states, .int .i64 g.text, .int .i64 g.nodes, .int .i64 g.pairs] 26)) := (by repeat (first | (with_reducible exact Below.refl _ _) | (with_reducible assumption) | (with_reducible refine Below.drew ?_) | (with_reducible refine below_drewN ?_ _) | ((with_reducible refine below_alloc ?_ ?_); (focus (first | omega | (simp; done) | (simp; omega)))) | ((with_reducible refine below_set ?_ ?_); (focus (first | omega | (simp; done) | (simp; omega))))))
  have HB0 := hidden (Holds.new w 26 #[.slice A1 g.toks.length k1, .slice A2 g.rules.length k2, .slice A3 g.prods.length k3, .int .i64 g.start, .int .i64 g.states, .int .i64 g.text, .int .i64 g.nodes, .int .i64 g.pairs])
  clear HG hA hB hz hC Fa Fb
  unfold gramCells at HFw ⊢
  cases fg : Go.Proofs.Ytbjheaiiajpifaa.fewB g with
  | false =>
    rw [fg] at HFw
    go_enter Try.func5, Try.ntmps5
    obtain ⟨s0, s1, s2, s3, s4, s5, s6, s7⟩ := eight HB0.out
    go_wp2_with fail
    refine (HFw.out _ hb0).mono ?_
    rintro r w2 ⟨rfl, hb2⟩
    replace HB0 := hidden (HB0.out.below hb2 HB0.out.lt)
    replace hb0 := below_more hb0 hb2
    clear hb2 HFw s0 s1 s2 s3 s4 s5 s6 s7
    go_wp2_with fail
    refine (knows40 _).mono ?_
    rintro r w9 ⟨rfl, hb9⟩
    replace hb0 := below_more hb0 hb9
    clear hb9
    go_wp2
    go_ret
    exact ⟨rfl, hb0⟩
  | true =>
    rw [fg] at HFw
    have kg := HCp.out fg
    by_cases fab : (fewB a && fewB b) = true
    · have fa : fewB a = true := (Bool.and_eq_true _ _ ▸ fab).1
      have fb : fewB b = true := (Bool.and_eq_true _ _ ▸ fab).2
      have ka := HOa.out fa
      have kb := HOb.out fb
      rw [fab] at HFn
      have HO := hidden (fun (w' : World) (q : Option Addr) (hl : LangV w' (.pointer q) g) (hb : Below w.heap.size w w') => same_Of (.pointer q) _ _ g a b w' hl kg (HAl.out _ hb) (HBl.out _ hb) ka kb)
      have HS2 := hidden (fun (w' : World) (q : Option Addr) (hl : LangV w' (.pointer q) g) (hb : Below w.heap.size w w') => same_Of (.pointer q) _ _ g a a w' hl kg (HAl.out _ hb) (HAl.out _ hb) ka ka)
      have HC := hidden (fun (w' : World) (q : Option Addr) (hl : LangV w' (.pointer q) g) (hb : Below w.heap.size w w') => same_Count (.pointer q) _ _ g a b w' hl kg (HAl.out _ hb) (HBl.out _ hb) ka kb)
      have HRa := hidden (fun (w' : World) (hb : Below w.heap.size w w') => ref_right _ a w' (by have := ka.len; omega) (HAl.out _ hb))
      have HRb := hidden (fun (w' : World) (hb : Below w.heap.size w w') => ref_right _ b w' (by have := kb.len; omega) (HBl.out _ hb))
      have HSm := hidden (fun (w' : World) (hb : Below w.heap.size w w') => ref_same _ _ a b w' (HAl.out _ hb) (HBl.out _ hb))
      have HTa := hidden (fun (w' : World) (hb : Below w.heap.size w w') => ref_text _ a w' hta (HAl.out _ hb))
      have HTb := hidden (fun (w' : World) (hb : Below w.heap.size w w') => ref_text _ b w' htb (HBl.out _ hb))
      by_cases hbo : bothB a b = true
      · have hab := hbo
        unfold bothB at hab
        rw [Bool.and_eq_true] at hab
        obtain ⟨tra, trb⟩ := hab
        have hself : dHow g.toks a a = 0 := by unfold dHow bothB; rw [tra, Bool.and_self, if_pos rfl, self_first]
        have hz := first_zero (ts := g.toks) (treeB_iff.1 tra) (treeB_iff.1 trb)
        have hcs := count_spec (ts := g.toks) hbo
        have hdh : dHow g.toks a b = (firstD40 g.toks a b).1 := by unfold dHow; rw [if_pos hbo]
        rw [← hdh] at hz
        rw [tra] at HRa
        rw [trb] at HRb
        rw [hself] at HS2
        by_cases heq : a = b
        · have e1 : dHow g.toks a b = 0 := hz.2 heq
          have e2 : dCount g.toks a b = 0 := hcs.1.1 e1
          rw [e1] at HO
          rw [e2] at HC
          rw [eqB_true heq] at HSm
          have htx : textOf b = textOf a := by rw [heq]
          rw [htx] at HTb
          generalize catB (textOf a) = tx at *
          have qs : (tx.toList == tx.toList) = true := by simp
          clear hz hcs hdh hself e1 e2 htx HAl HBl tra trb hbo heq ka kb
          go_enter Try.func5, Try.ntmps5
          obtain ⟨s0, s1, s2, s3, s4, s5, s6, s7⟩ := eight HB0.out
          go_wp2_with fail
          refine (HFw.out _ hb0).mono ?_
          rintro r w2 ⟨rfl, hb2⟩
          replace HB0 := hidden (HB0.out.below hb2 HB0.out.lt)
          replace hb0 := below_more hb0 hb2
          clear hb2 HFw s0 s1 s2 s3 s4 s5 s6 s7
          go_wp2_with fail
          refine (HFn.out _ hb0).mono ?_
          rintro r w3 ⟨rfl, hb3⟩
          replace HB0 := hidden (HB0.out.below hb3 HB0.out.lt)
          replace hb0 := below_more hb0 hb3
          clear hb3 HFn
          obtain ⟨s0, s1, s2, s3, s4, s5, s6, s7⟩ := eight HB0.out
          go_wp2_with fail
          have HN1 := hidden (lang_New _ _ _ g _ (HGl.out _ hb0) kg)
          unfold gramCells at HN1
          refine HN1.out.mono ?_
          rintro r w4 ⟨⟨lv, rfl, HL⟩, hb4⟩
          replace HB0 := hidden (HB0.out.below hb4 HB0.out.lt)
          replace hb0 := below_more hb0 hb4
          clear hb4 HN1 s0 s1 s2 s3 s4 s5 s6 s7
          obtain ⟨q, rfl⟩ : ∃ q, lv = .pointer q := by rcases HL.out with ⟨rfl, _⟩ | ⟨q, rfl, _⟩ <;> exact ⟨_, rfl⟩
          clear HB0
          go_wp2_with fail
          refine (HO.out _ q HL.out hb0).mono ?_
          rintro r w5 ⟨rfl, hb5⟩
          replace HL := hidden (HL.out.below hb5)
          replace hb0 := below_more hb0 hb5
          clear hb5
          go_wp2_with fail
          refine (HRa.out _ hb0).mono ?_
          rintro r w6 ⟨rfl, hb6⟩
          replace HL := hidden (HL.out.below hb6)
          replace hb0 := below_more hb0 hb6
          clear hb6
          go_wp2_with fail
          refine (HRb.out _ hb0).mono ?_
          rintro r w7 ⟨rfl, hb7⟩
          replace HL := hidden (HL.out.below hb7)
          replace hb0 := below_more hb0 hb7
          clear hb7
          go_wp2_with fail
          refine (HSm.out _ hb0).mono ?_
          rintro r w8 ⟨rfl, hb8⟩
          replace HL := hidden (HL.out.below hb8)
          replace hb0 := below_more hb0 hb8
          clear hb8
          go_wp2_with fail
          refine (HC.out _ q HL.out hb0).mono ?_
          rintro r w10 ⟨rfl, hb10⟩
          replace HL := hidden (HL.out.below hb10)
          replace hb0 := below_more hb0 hb10
          clear hb10
          go_wp2_with fail
          refine (HC.out _ q HL.out hb0).mono ?_
          rintro r w11 ⟨rfl, hb11⟩
          replace HL := hidden (HL.out.below hb11)
          replace hb0 := below_more hb0 hb11
          clear hb11
          go_wp2_with fail
          refine (HTa.out _ hb0).mono ?_
          rintro r w12 ⟨rfl, hb12⟩
          replace HL := hidden (HL.out.below hb12)
          replace hb0 := below_more hb0 hb12
          clear hb12
          go_wp2_with fail
          refine (HTb.out _ hb0).mono ?_
          rintro r w13 ⟨rfl, hb13⟩
          replace HL := hidden (HL.out.below hb13)
          replace hb0 := below_more hb0 hb13
          clear hb13
          go_wp2_with fail
          refine (HS2.out _ q HL.out hb0).mono ?_
          rintro r w14 ⟨rfl, hb14⟩
          replace HL := hidden (HL.out.below hb14)
          replace hb0 := below_more hb0 hb14
          clear hb14
          go_wp2_with fail
          refine (knows40 _).mono ?_
          rintro r w9 ⟨rfl, hb9⟩
          replace hb0 := below_more hb0 hb9
          clear hb9
          go_wp2
          go_ret
          exact ⟨rfl, hb0⟩
        · have e1 : ¬ (dHow g.toks a b = 0) := fun h => heq (hz.1 h)
          have e2 : ¬ (dCount g.toks a b = 0) := fun h => e1 (hcs.1.2 h)
          have e4 := hcs.2
          rw [eqB_false heq] at HSm
          generalize dHow g.toks a b = x1 at *
          generalize dCount g.toks a b = x2 at *
          have q1 : (x1 == 0) = false := by simp [e1]
          have q2 : (x2 == 0) = false := by simp [e2]
          have q3 : (x1 != 0) = true := by simp [e1]
          clear hz hcs hdh hself HAl HBl tra trb hbo heq ka kb HTa HTb
          by_cases h4 : x1 = 4
          · have h5 : x2 < 0 := e4.1 h4
            have q4 : (x1 == 4) = true := by simp [h4]
            have q5 : decide (x2 < 0) = true := by simp [h5]
            clear e1 e2 e4 h4
            go_enter Try.func5, Try.ntmps5
            obtain ⟨s0, s1, s2, s3, s4, s5, s6, s7⟩ := eight HB0.out
            go_wp2_with fail
            refine (HFw.out _ hb0).mono ?_
            rintro r w2 ⟨rfl, hb2⟩
            replace HB0 := hidden (HB0.out.below hb2 HB0.out.lt)
            replace hb0 := below_more hb0 hb2
            clear hb2 HFw s0 s1 s2 s3 s4 s5 s6 s7
            go_wp2_with fail
            refine (HFn.out _ hb0).mono ?_
            rintro r w3 ⟨rfl, hb3⟩
            replace HB0 := hidden (HB0.out.below hb3 HB0.out.lt)
            replace hb0 := below_more hb0 hb3
            clear hb3 HFn
            obtain ⟨s0, s1, s2, s3, s4, s5, s6, s7⟩ := eight HB0.out
            go_wp2_with fail
            have HN1 := hidden (lang_New _ _ _ g _ (HGl.out _ hb0) kg)
            unfold gramCells at HN1
            refine HN1.out.mono ?_
            rintro r w4 ⟨⟨lv, rfl, HL⟩, hb4⟩
            replace HB0 := hidden (HB0.out.below hb4 HB0.out.lt)
            replace hb0 := below_more hb0 hb4
            clear hb4 HN1 s0 s1 s2 s3 s4 s5 s6 s7
            obtain ⟨q, rfl⟩ : ∃ q, lv = .pointer q := by rcases HL.out with ⟨rfl, _⟩ | ⟨q, rfl, _⟩ <;> exact ⟨_, rfl⟩
            clear HB0
            go_wp2_with fail
            refine (HO.out _ q HL.out hb0).mono ?_
            rintro r w5 ⟨rfl, hb5⟩
            replace HL := hidden (HL.out.below hb5)
            replace hb0 := below_more hb0 hb5
            clear hb5
            go_wp2_with fail
            refine (HRa.out _ hb0).mono ?_
            rintro r w6 ⟨rfl, hb6⟩
            replace HL := hidden (HL.out.below hb6)
            replace hb0 := below_more hb0 hb6
            clear hb6
            go_wp2_with fail
            refine (HRb.out _ hb0).mono ?_
            rintro r w7 ⟨rfl, hb7⟩
            replace HL := hidden (HL.out.below hb7)
            replace hb0 := below_more hb0 hb7
            clear hb7
            go_wp2_with fail
            refine (HSm.out _ hb0).mono ?_
            rintro r w8 ⟨rfl, hb8⟩
            replace HL := hidden (HL.out.below hb8)
            replace hb0 := below_more hb0 hb8
            clear hb8
            go_wp2_with fail
            refine (HC.out _ q HL.out hb0).mono ?_
            rintro r w10 ⟨rfl, hb10⟩
            replace HL := hidden (HL.out.below hb10)
            replace hb0 := below_more hb0 hb10
            clear hb10
            go_wp2_with fail
            refine (HC.out _ q HL.out hb0).mono ?_
            rintro r w11 ⟨rfl, hb11⟩
            replace HL := hidden (HL.out.below hb11)
            replace hb0 := below_more hb0 hb11
            clear hb11
            go_wp2_with fail
            refine (HS2.out _ q HL.out hb0).mono ?_
            rintro r w14 ⟨rfl, hb14⟩
            replace HL := hidden (HL.out.below hb14)
            replace hb0 := below_more hb0 hb14
            clear hb14
            go_wp2_with fail
            refine (knows40 _).mono ?_
            rintro r w9 ⟨rfl, hb9⟩
            replace hb0 := below_more hb0 hb9
            clear hb9
            go_wp2
            go_ret
            exact ⟨rfl, hb0⟩
          · have h5 : ¬ (x2 < 0) := fun h => h4 (e4.2 h)
            have q4 : (x1 == 4) = false := by simp [h4]
            have q5 : decide (x2 < 0) = false := by simp [h5]
            clear e1 e2 e4 h4
            go_enter Try.func5, Try.ntmps5
            obtain ⟨s0, s1, s2, s3, s4, s5, s6, s7⟩ := eight HB0.out
            go_wp2_with fail
            refine (HFw.out _ hb0).mono ?_
            rintro r w2 ⟨rfl, hb2⟩
            replace HB0 := hidden (HB0.out.below hb2 HB0.out.lt)
            replace hb0 := below_more hb0 hb2
            clear hb2 HFw s0 s1 s2 s3 s4 s5 s6 s7
            go_wp2_with fail
            refine (HFn.out _ hb0).mono ?_
            rintro r w3 ⟨rfl, hb3⟩
            replace HB0 := hidden (HB0.out.below hb3 HB0.out.lt)
            replace hb0 := below_more hb0 hb3
            clear hb3 HFn
            obtain ⟨s0, s1, s2, s3, s4, s5, s6, s7⟩ := eight HB0.out
            go_wp2_with fail
            have HN1 := hidden (lang_New _ _ _ g _ (HGl.out _ hb0) kg)
            unfold gramCells at HN1
            refine HN1.out.mono ?_
            rintro r w4 ⟨⟨lv, rfl, HL⟩, hb4⟩
            replace HB0 := hidden (HB0.out.below hb4 HB0.out.lt)
            replace hb0 := below_more hb0 hb4
            clear hb4 HN1 s0 s1 s2 s3 s4 s5 s6 s7
            obtain ⟨q, rfl⟩ : ∃ q, lv = .pointer q := by rcases HL.out with ⟨rfl, _⟩ | ⟨q, rfl, _⟩ <;> exact ⟨_, rfl⟩
            clear HB0
            go_wp2_with fail
            refine (HO.out _ q HL.out hb0).mono ?_
            rintro r w5 ⟨rfl, hb5⟩
            replace HL := hidden (HL.out.below hb5)
            replace hb0 := below_more hb0 hb5
            clear hb5
            go_wp2_with fail
            refine (HRa.out _ hb0).mono ?_
            rintro r w6 ⟨rfl, hb6⟩
            replace HL := hidden (HL.out.below hb6)
            replace hb0 := below_more hb0 hb6
            clear hb6
            go_wp2_with fail
            refine (HRb.out _ hb0).mono ?_
            rintro r w7 ⟨rfl, hb7⟩
            replace HL := hidden (HL.out.below hb7)
            replace hb0 := below_more hb0 hb7
            clear hb7
            go_wp2_with fail
            refine (HSm.out _ hb0).mono ?_
            rintro r w8 ⟨rfl, hb8⟩
            replace HL := hidden (HL.out.below hb8)
            replace hb0 := below_more hb0 hb8
            clear hb8
            go_wp2_with fail
            refine (HC.out _ q HL.out hb0).mono ?_
            rintro r w10 ⟨rfl, hb10⟩
            replace HL := hidden (HL.out.below hb10)
            replace hb0 := below_more hb0 hb10
            clear hb10
            go_wp2_with fail
            refine (HC.out _ q HL.out hb0).mono ?_
            rintro r w11 ⟨rfl, hb11⟩
            replace HL := hidden (HL.out.below hb11)
            replace hb0 := below_more hb0 hb11
            clear hb11
            go_wp2_with fail
            refine (HS2.out _ q HL.out hb0).mono ?_
            rintro r w14 ⟨rfl, hb14⟩
            replace HL := hidden (HL.out.below hb14)
            replace hb0 := below_more hb0 hb14
            clear hb14
            go_wp2_with fail
            refine (knows40 _).mono ?_
            rintro r w9 ⟨rfl, hb9⟩
            replace hb0 := below_more hb0 hb9
            clear hb9
            go_wp2
            go_ret
            exact ⟨rfl, hb0⟩
      · have hbf : bothB a b = false := by simpa using hbo
        have e1 : dHow g.toks a b = 4 := by unfold dHow; rw [if_neg hbo]
        have e2 : dCount g.toks a b = 0 := by unfold dCount; rw [if_neg hbo]
        rw [e1] at HO
        rw [e2] at HC
        unfold bothB at hbf
        clear HAl HBl hbo ka kb HTa HTb e1 e2 HS2 HSm
        cases tra : treeB a with
        | false =>
          rw [tra] at HRa
          clear HRb hbf
          go_enter Try.func5, Try.ntmps5
          obtain ⟨s0, s1, s2, s3, s4, s5, s6, s7⟩ := eight HB0.out
          go_wp2_with fail
          refine (HFw.out _ hb0).mono ?_
          rintro r w2 ⟨rfl, hb2⟩
          replace HB0 := hidden (HB0.out.below hb2 HB0.out.lt)
          replace hb0 := below_more hb0 hb2
          clear hb2 HFw s0 s1 s2 s3 s4 s5 s6 s7
          go_wp2_with fail
          refine (HFn.out _ hb0).mono ?_
          rintro r w3 ⟨rfl, hb3⟩
          replace HB0 := hidden (HB0.out.below hb3 HB0.out.lt)
          replace hb0 := below_more hb0 hb3
          clear hb3 HFn
          obtain ⟨s0, s1, s2, s3, s4, s5, s6, s7⟩ := eight HB0.out
          go_wp2_with fail
          have HN1 := hidden (lang_New _ _ _ g _ (HGl.out _ hb0) kg)
          unfold gramCells at HN1
          refine HN1.out.mono ?_
          rintro r w4 ⟨⟨lv, rfl, HL⟩, hb4⟩
          replace HB0 := hidden (HB0.out.below hb4 HB0.out.lt)
          replace hb0 := below_more hb0 hb4
          clear hb4 HN1 s0 s1 s2 s3 s4 s5 s6 s7
          obtain ⟨q, rfl⟩ : ∃ q, lv = .pointer q := by rcases HL.out with ⟨rfl, _⟩ | ⟨q, rfl, _⟩ <;> exact ⟨_, rfl⟩
          clear HB0
          go_wp2_with fail
          refine (HO.out _ q HL.out hb0).mono ?_
          rintro r w5 ⟨rfl, hb5⟩
          replace HL := hidden (HL.out.below hb5)
          replace hb0 := below_more hb0 hb5
          clear hb5
          go_wp2_with fail
          refine (HRa.out _ hb0).mono ?_
          rintro r w6 ⟨rfl, hb6⟩
          replace HL := hidden (HL.out.below hb6)
          replace hb0 := below_more hb0 hb6
          clear hb6
          go_wp2_with fail
          refine (HC.out _ q HL.out hb0).mono ?_
          rintro r w10 ⟨rfl, hb10⟩
          replace HL := hidden (HL.out.below hb10)
          replace hb0 := below_more hb0 hb10
          clear hb10
          go_wp2_with fail
          refine (knows40 _).mono ?_
          rintro r w9 ⟨rfl, hb9⟩
          replace hb0 := below_more hb0 hb9
          clear hb9
          go_wp2
          go_ret
          exact ⟨rfl, hb0⟩
        | true =>
          rw [tra] at HRa hbf
          rw [Bool.true_and] at hbf
          rw [hbf] at HRb
          clear hbf
          go_enter Try.func5, Try.ntmps5
          obtain ⟨s0, s1, s2, s3, s4, s5, s6, s7⟩ := eight HB0.out
          go_wp2_with fail
          refine (HFw.out _ hb0).mono ?_
          rintro r w2 ⟨rfl, hb2⟩
          replace HB0 := hidden (HB0.out.below hb2 HB0.out.lt)
          replace hb0 := below_more hb0 hb2
          clear hb2 HFw s0 s1 s2 s3 s4 s5 s6 s7
          go_wp2_with fail
          refine (HFn.out _ hb0).mono ?_
          rintro r w3 ⟨rfl, hb3⟩
          replace HB0 := hidden (HB0.out.below hb3 HB0.out.lt)
          replace hb0 := below_more hb0 hb3
          clear hb3 HFn
          obtain ⟨s0, s1, s2, s3, s4, s5, s6, s7⟩ := eight HB0.out
          go_wp2_with fail
          have HN1 := hidden (lang_New _ _ _ g _ (HGl.out _ hb0) kg)
          unfold gramCells at HN1
          refine HN1.out.mono ?_
          rintro r w4 ⟨⟨lv, rfl, HL⟩, hb4⟩
          replace HB0 := hidden (HB0.out.below hb4 HB0.out.lt)
          replace hb0 := below_more hb0 hb4
          clear hb4 HN1 s0 s1 s2 s3 s4 s5 s6 s7
          obtain ⟨q, rfl⟩ : ∃ q, lv = .pointer q := by rcases HL.out with ⟨rfl, _⟩ | ⟨q, rfl, _⟩ <;> exact ⟨_, rfl⟩
          clear HB0
          go_wp2_with fail
          refine (HO.out _ q HL.out hb0).mono ?_
          rintro r w5 ⟨rfl, hb5⟩
          replace HL := hidden (HL.out.below hb5)
          replace hb0 := below_more hb0 hb5
          clear hb5
          go_wp2_with fail
          refine (HRa.out _ hb0).mono ?_
          rintro r w6 ⟨rfl, hb6⟩
          replace HL := hidden (HL.out.below hb6)
          replace hb0 := below_more hb0 hb6
          clear hb6
          go_wp2_with fail
          refine (HRb.out _ hb0).mono ?_
          rintro r w7 ⟨rfl, hb7⟩
          replace HL := hidden (HL.out.below hb7)
          replace hb0 := below_more hb0 hb7
          clear hb7
          go_wp2_with fail
          refine (HC.out _ q HL.out hb0).mono ?_
          rintro r w10 ⟨rfl, hb10⟩
          replace HL := hidden (HL.out.below hb10)
          replace hb0 := below_more hb0 hb10
          clear hb10
          go_wp2_with fail
          refine (knows40 _).mono ?_
          rintro r w9 ⟨rfl, hb9⟩
          replace hb0 := below_more hb0 hb9
          clear hb9
          go_wp2
          go_ret
          exact ⟨rfl, hb0⟩
    · have fab' : (fewB a && fewB b) = false := by simpa using fab
      rw [fab'] at HFn
      go_enter Try.func5, Try.ntmps5
      obtain ⟨s0, s1, s2, s3, s4, s5, s6, s7⟩ := eight HB0.out
      go_wp2_with fail
      refine (HFw.out _ hb0).mono ?_
      rintro r w2 ⟨rfl, hb2⟩
      replace HB0 := hidden (HB0.out.below hb2 HB0.out.lt)
      replace hb0 := below_more hb0 hb2
      clear hb2 HFw s0 s1 s2 s3 s4 s5 s6 s7
      go_wp2_with fail
      refine (HFn.out _ hb0).mono ?_
      rintro r w3 ⟨rfl, hb3⟩
      replace HB0 := hidden (HB0.out.below hb3 HB0.out.lt)
      replace hb0 := below_more hb0 hb3
      clear hb3 HFn
      go_wp2_with fail
      refine (knows40 _).mono ?_
      rintro r w9 ⟨rfl, hb9⟩
      replace hb0 := below_more hb0 hb9
      clear hb9
      go_wp2
      go_ret
      exact ⟨rfl, hb0⟩
end Go.Proofs.Ytbjheaiiajpifaa.T
