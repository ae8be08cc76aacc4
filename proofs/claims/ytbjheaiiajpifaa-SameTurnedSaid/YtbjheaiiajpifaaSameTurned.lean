/-
  law40.SameTurned.
-/
import Derived.Test.YtbjheaiiajpifaaSamePl
namespace Go.Proofs.Ytbjheaiiajpifaa.T
open Go.RowKit Go.Shelf

set_option maxRecDepth 20000 in
set_option maxHeartbeats 8000000 in
theorem law_sameTurned (a' b' c' va vb : Value) (g : Gram) (a b : List Node) (w : World) (HG : GramIs w (Old w) a' b' c' g) (hz : ∀ s ∈ allNames g, s.size ≤ maxLen) (hC : (∀ x ∈ g.toks, x.rex.length * 40 ≤ 140737488355328) ∧ (∀ x ∈ g.prods, x.right.length * 32 ≤ 140737488355328)) (Fa : Fit a) (Fb : Fit b) (hA : Nds w (Old w) va a) (hB : Nds w (Old w) vb b) :
    Calls Try.prog 4 #[.agg (gramCells a' b' c' g), va, vb] w fun r w' => r = .returned (.bool true) ∧ Below w.heap.size w w' := by
  have HFw := hidden (fun (w' : World) (hb : Below w.heap.size w w') => law_Few a' b' c' g w' (HG.later hb) hz)
  have HFn := hidden (fun (w' : World) (hb : Below w.heap.size w w') => few40 va vb a b w' (hA.old hb) (hB.old hb))
  have HCp : Hid (Go.Proofs.Ytbjheaiiajpifaa.fewB g = true → Copied g) := hidden (fun h => ⟨by have := (few_small h).1; omega, by have := (few_small h).2.1; omega, by have := (few_small h).2.2; omega, hC.1, hC.2⟩)
  have HOa : Hid (fewB a = true → NdsOk a) := hidden (fun h => ⟨by unfold fewB at h; simp at h; omega, Fa⟩)
  have HOb : Hid (fewB b = true → NdsOk b) := hidden (fun h => ⟨by unfold fewB at h; simp at h; omega, Fb⟩)
  have HGl := hidden (fun (w' : World) (hb : Below w.heap.size w w') => HG.later hb)
  have HAl := hidden (fun (w' : World) (hb : Below w.heap.size w w') => hA.old hb)
  have HBl := hidden (fun (w' : World) (hb : Below w.heap.size w w') => hB.old hb)
  obtain ⟨A1, k1, rfl, v1, m1⟩ := HG.1.value
  obtain ⟨A2, k2, rfl, v2, m2⟩ := HG.2.1.val
  obtain ⟨A3, k3, rfl, v3, m3⟩ := HG.2.2.value
  obtain ⟨A4, k4, rfl, v4, m4⟩ := hA.value
  obtain ⟨A5, k5, rfl, v5, m5⟩ := hB.value
  unfold maxLen at m4 m5
  have hb0 : Below w.heap.size w (w.alloc (.cells #[.slice A1 g.toks.length k1, .slice A2 g.rules.length k2, .slice A3 g.prods.length k3, .int .i64 g.start, .int .i64 g.states, .int .i64 g.text, .int .i64 g.nodes, .int .i64 g.pairs] 26)) := (by repeat (first | (with_reducible exact Below.refl _ _) | (with_reducible assumption) | (with_reducible refine Below.drew ?_) | (with_reducible refine below_drewN ?_ _) | ((with_reducible refine below_alloc ?_ ?_); (focus (first | omega | (simp; done) | (simp; omega)))) | ((with_reducible refine below_set ?_ ?_); (focus (first | omega | (simp; done) | (simp; omega))))))
  have HB0 := hidden (Holds.new w 26 #[.slice A1 g.toks.length k1, .slice A2 g.rules.length k2, .slice A3 g.prods.length k3, .int .i64 g.start, .int .i64 g.states, .int .i64 g.text, .int .i64 g.nodes, .int .i64 g.pairs])
  clear HG hA hB hz hC Fa Fb
  unfold gramCells at HFw ⊢
  cases fg : Go.Proofs.Ytbjheaiiajpifaa.fewB g with
  | false =>
    rw [fg] at HFw
    go_enter Try.func4, Try.ntmps4
    obtain ⟨s0, s1, s2, s3, s4, s5, s6, s7⟩ := eight HB0.out
    go_wp2_with fail
    refine (HFw.out _ hb0).mono ?_
    rintro r w2 ⟨rfl, hb2⟩
    replace HB0 := hidden (HB0.out.below hb2 HB0.out.lt)
    replace hb0 := below_more hb0 hb2
    clear hb2 HFw s0 s1 s2 s3 s4 s5 s6 s7
    go_wp2_with fail
    refine (knows40 _).mono ?_
    rintro r w9 ⟨rfl, hb9⟩
    replace hb0 := below_more hb0 hb9
    clear hb9
    go_wp2
    go_ret
    exact ⟨rfl, hb0⟩
  | true =>
    rw [fg] at HFw
    have kg := HCp.out fg
    by_cases fab : (fewB a && fewB b) = true
    · have fa : fewB a = true := (Bool.and_eq_true _ _ ▸ fab).1
      have fb : fewB b = true := (Bool.and_eq_true _ _ ▸ fab).2
      have ka := HOa.out fa
      have kb := HOb.out fb
      rw [fab] at HFn
      go_enter Try.func4, Try.ntmps4
      obtain ⟨s0, s1, s2, s3, s4, s5, s6, s7⟩ := eight HB0.out
      go_wp2_with fail
      refine (HFw.out _ hb0).mono ?_
      rintro r w2 ⟨rfl, hb2⟩
      replace HB0 := hidden (HB0.out.below hb2 HB0.out.lt)
      replace hb0 := below_more hb0 hb2
      clear hb2 HFw s0 s1 s2 s3 s4 s5 s6 s7
      go_wp2_with fail
      refine (HFn.out _ hb0).mono ?_
      rintro r w3 ⟨rfl, hb3⟩
      replace HB0 := hidden (HB0.out.below hb3 HB0.out.lt)
      replace hb0 := below_more hb0 hb3
      clear hb3 HFn
      obtain ⟨s0, s1, s2, s3, s4, s5, s6, s7⟩ := eight HB0.out
      go_wp2_with fail
      have HN1 := hidden (lang_New _ _ _ g _ (HGl.out _ hb0) kg)
      unfold gramCells at HN1
      refine HN1.out.mono ?_
      rintro r w4 ⟨⟨lv, rfl, HL⟩, hb4⟩
      replace HB0 := hidden (HB0.out.below hb4 HB0.out.lt)
      replace hb0 := below_more hb0 hb4
      clear hb4 HN1 s0 s1 s2 s3 s4 s5 s6 s7
      obtain ⟨q, rfl⟩ : ∃ q, lv = .pointer q := by rcases HL.out with ⟨rfl, _⟩ | ⟨q, rfl, _⟩ <;> exact ⟨_, rfl⟩
      clear HB0
      have HD := hidden (same_Diff (.pointer q) _ _ g a b _ HL.out kg (HAl.out _ hb0) (HBl.out _ hb0) ka kb)
      go_wp2_with fail
      refine HD.out.mono ?_
      rintro r w5 ⟨⟨p5, rfl, M5⟩, hb5⟩
      replace HL := hidden (HL.out.below hb5)
      replace hb0 := below_more hb0 hb5
      clear hb5
      clear HD
      have R5 := hidden (M5.out.rd (T := Old w5) (fun _ _ _ h => h))
      obtain ⟨A6, k6, e6⟩ := M5.out.value
      subst e6
      clear M5
      have HD := hidden (same_Diff (.pointer q) _ _ g b a _ HL.out kg (HBl.out _ hb0) (HAl.out _ hb0) kb ka)
      rw [dHow_comm g.toks b a, dPath_comm g.toks b a] at HD
      go_wp2_with fail
      refine HD.out.mono ?_
      rintro r w6 ⟨⟨p6, rfl, M6⟩, hb6⟩
      replace HL := hidden (HL.out.below hb6)
      replace R5 := hidden (Rd.old R5.out hb6)
      replace hb0 := below_more hb0 hb6
      clear hb6
      clear HD
      have R6 := hidden (M6.out.rd (T := Old w6) (fun _ _ _ h => h))
      obtain ⟨A7, k7, e7⟩ := M6.out.value
      subst e7
      clear M6
      have pl := dPath_len g.toks a b
      have HI := hidden (ints_self _ _ (dPath g.toks a b) w6 (by have := ka.len; omega) R5.out R6.out)
      have C1 := hidden (fun (w' : World) (hl : LangV w' (.pointer q) g) (hb : Below w.heap.size w w') => same_Count (.pointer q) _ _ g a b w' hl kg (HAl.out _ hb) (HBl.out _ hb) ka kb)
      have C2 := hidden (fun (w' : World) (hl : LangV w' (.pointer q) g) (hb : Below w.heap.size w w') => same_Count (.pointer q) _ _ g b a w' hl kg (HBl.out _ hb) (HAl.out _ hb) kb ka)
      have C3 := hidden (fun (w' : World) (hl : LangV w' (.pointer q) g) (hb : Below w.heap.size w w') => same_Of (.pointer q) _ _ g b a w' hl kg (HBl.out _ hb) (HAl.out _ hb) kb ka)
      rw [dCount_comm g.toks b a] at C2
      rw [dHow_comm g.toks b a] at C3
      clear pl ka kb kg R5 R6 HGl HAl HBl
      generalize dHow g.toks a b = x1 at *
      generalize dCount g.toks a b = x2 at *
      generalize (dPath g.toks a b).length = n1 at *
      have q1 : (x1 == x1) = true := by simp
      have q2 : (x2 == x2) = true := by simp
      go_wp2_with fail
      refine HI.out.mono ?_
      rintro r w7 ⟨rfl, hb7⟩
      replace HL := hidden (HL.out.below hb7)
      replace hb0 := below_more hb0 hb7
      clear hb7
      clear HI
      go_wp2_with fail
      refine (C1.out _ HL.out hb0).mono ?_
      rintro r w8 ⟨rfl, hb8⟩
      replace HL := hidden (HL.out.below hb8)
      replace hb0 := below_more hb0 hb8
      clear hb8
      go_wp2_with fail
      refine (C2.out _ HL.out hb0).mono ?_
      rintro r w10 ⟨rfl, hb10⟩
      replace HL := hidden (HL.out.below hb10)
      replace hb0 := below_more hb0 hb10
      clear hb10
      go_wp2_with fail
      refine (C3.out _ HL.out hb0).mono ?_
      rintro r w11 ⟨rfl, hb11⟩
      replace HL := hidden (HL.out.below hb11)
      replace hb0 := below_more hb0 hb11
      clear hb11
      clear C1 C2 C3
      go_wp2_with fail
      refine (knows40 _).mono ?_
      rintro r w9 ⟨rfl, hb9⟩
      replace hb0 := below_more hb0 hb9
      clear hb9
      go_wp2
      go_ret
      exact ⟨rfl, hb0⟩
    · have fab' : (fewB a && fewB b) = false := by simpa using fab
      rw [fab'] at HFn
      go_enter Try.func4, Try.ntmps4
      obtain ⟨s0, s1, s2, s3, s4, s5, s6, s7⟩ := eight HB0.out
      go_wp2_with fail
      refine (HFw.out _ hb0).mono ?_
      rintro r w2 ⟨rfl, hb2⟩
      replace HB0 := hidden (HB0.out.below hb2 HB0.out.lt)
      replace hb0 := below_more hb0 hb2
      clear hb2 HFw s0 s1 s2 s3 s4 s5 s6 s7
      go_wp2_with fail
      refine (HFn.out _ hb0).mono ?_
      rintro r w3 ⟨rfl, hb3⟩
      replace HB0 := hidden (HB0.out.below hb3 HB0.out.lt)
      replace hb0 := below_more hb0 hb3
      clear hb3 HFn
      go_wp2_with fail
      refine (knows40 _).mono ?_
      rintro r w9 ⟨rfl, hb9⟩
      replace hb0 := below_more hb0 hb9
      clear hb9
      go_wp2
      go_ret
      exact ⟨rfl, hb0⟩
end Go.Proofs.Ytbjheaiiajpifaa.T
