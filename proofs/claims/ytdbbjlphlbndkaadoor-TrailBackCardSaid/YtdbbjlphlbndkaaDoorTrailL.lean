/-
  Law TrailFinds.
-/
import Derived.Test.YtdbbjlphlbndkaaDoorTrailF
import Derived.Test.YtdbbjlphlbndkaaDoorTrailK
namespace Go.Proofs.YtdbbjlphlbndkaaDoor.T
open Go.RowKit Go.Shelf

theorem pathOf_len {t : List Node} (i : Int) : (pathOf t i).length ≤ t.length := by
  unfold pathOf
  split
  · rename_i h
    obtain ⟨h0, h1, _⟩ := placeB_iff.1 h
    have := path_len (t := t) i.toNat
    omega
  · exact Nat.zero_le _

set_option maxRecDepth 20000 in
set_option maxHeartbeats 8000000 in
theorem law_finds (v pv : Value) (t : List Node) (l : List Int) (i mx : Int) (w : World) (hN : Nds w (Old w) v t) (hP : Ints w (Old w) pv l) (hm : w.cell? ⟨0, 0, none⟩ = some (.int .i64 mx)) :
    Calls Tryd.prog 4 #[v, pv, .int .i64 i] w fun r w' => r = .returned (.bool true) ∧ Below w.heap.size w w' := by
  have HF := hidden (few_any v t w hN)
  have HKn := hidden (fun (w' : World) (hb : Below w.heap.size w w') => knows32 mx w' (Ext.cell hm ⟨w', hb⟩))
  have HN := hidden (fun (w' : World) (hw : Below w.heap.size w w') => hN.old hw)
  have HP := hidden (fun (w' : World) (hb : Below w.heap.size w w') => Rd.old hP hb)
  obtain ⟨A, c, rfl, hc1, hc2⟩ := hN.value
  obtain ⟨A2, c2, rfl, hd1, hd2⟩ := hP.val
  unfold maxLen at hc2 hd2
  clear hN hP hm
  cases hf : fewB t with
  | false =>
    rw [hf] at HF
    clear hf
    go_enter Tryd.func4, Tryd.ntmps4
    go_wp2_with fail
    refine HF.out.mono ?_
    rintro r w2 ⟨rfl, hb⟩
    go_wp2_with fail
    refine (HKn.out w2 hb).mono ?_
    rintro r w3 ⟨rfl, hb3⟩
    go_wp2
    go_ret
    exact ⟨rfl, hb.trans (hb3.mono hb.size)⟩
  | true =>
    rw [hf] at HF
    have hlen : t.length ≤ 120 := by unfold fewB at hf; simp at hf; exact hf.1
    by_cases h2 : l.length ≤ 200
    · have q2 : decide (200 < (l.length : Int)) = false := decide_eq_false (by omega)
      have h4 : t.length ≤ 140737488355 := by omega
      have HA := hidden (fun (w' : World) (hw : Below w.heap.size w w') => trail_Find _ _ t l w' h4 (HN.out w' hw) (HP.out w' hw))
      have HB := hidden (fun (w' : World) (hw : Below w.heap.size w w') => ref_Find32g _ _ t l w' h4 (HN.out w' hw) (HP.out w' hw))
      have HC := hidden (fun (w' : World) (hw : Below w.heap.size w w') => trail_Of _ t i w' h4 (HN.out w' hw))
      have HD := hidden (fun (w' : World) (hw : Below w.heap.size w w') => ref_Of32 _ t i w' h4 (HN.out w' hw))
      have hpl := pathOf_len (t := t) i
      generalize findT t l = fr at *
      generalize pathOf t i = pl at *
      generalize placeB t i = pb at *
      obtain ⟨fa, fb⟩ := fr
      dsimp only at *
      have e1 : (fa == fa) = true := beq_self_eq_true _
      have e2 : (fb == fb) = true := beq_self_eq_true _
      have e3 : (pb == pb) = true := beq_self_eq_true _
      clear hf HN HP
      go_enter Tryd.func4, Tryd.ntmps4
      go_wp2_with fail
      refine HF.out.mono ?_
      rintro r w2 ⟨rfl, hb⟩
      clear HF
      go_wp2_with fail
      refine (HA.out w2 hb).mono ?_
      rintro r w3 ⟨rfl, hb3⟩
      replace hb := hb.trans (hb3.mono hb.size)
      clear hb3 HA
      go_wp2_with fail
      refine (HB.out w3 hb).mono ?_
      rintro r w4 ⟨rfl, hb4⟩
      replace hb := hb.trans (hb4.mono hb.size)
      clear hb4 HB
      go_wp2_with fail
      refine (HC.out w4 hb).mono ?_
      rintro r w5 ⟨⟨u5, rfl, hu5⟩, hb5⟩
      replace hb := hb.trans (hb5.mono hb.size)
      clear hb5 HC
      go_wp2_with fail
      refine (HD.out w5 hb).mono ?_
      rintro r w6 ⟨⟨u6, rfl, hu6⟩, hb6⟩
      replace hb := hb.trans (hb6.mono hb.size)
      have HSm := hidden (same_ints u5 u6 pl pl w6 (by omega) (Rd.old (hu5.out.rd (fun _ _ _ h => h)) hb6) (hu6.out.rd (fun _ _ _ h => h)))
      rw [decide_eq_true (rfl : pl = pl)] at HSm
      clear hb6 HD hu5 hu6
      go_wp2_with fail
      refine HSm.out.mono ?_
      rintro r w7 ⟨rfl, hb7⟩
      replace hb := hb.trans (hb7.mono hb.size)
      clear hb7 HSm
      go_wp2_with fail
      refine (HKn.out w7 hb).mono ?_
      rintro r w8 ⟨rfl, hb8⟩
      go_wp2
      go_ret
      exact ⟨rfl, hb.trans (hb8.mono hb.size)⟩
    · have q2 : decide (200 < (l.length : Int)) = true := decide_eq_true (by omega)
      clear hf
      go_enter Tryd.func4, Tryd.ntmps4
      go_wp2_with fail
      refine HF.out.mono ?_
      rintro r w2 ⟨rfl, hb⟩
      go_wp2_with fail
      refine (HKn.out w2 hb).mono ?_
      rintro r w3 ⟨rfl, hb3⟩
      go_wp2
      go_ret
      exact ⟨rfl, hb.trans (hb3.mono hb.size)⟩
end Go.Proofs.YtdbbjlphlbndkaaDoor.T
