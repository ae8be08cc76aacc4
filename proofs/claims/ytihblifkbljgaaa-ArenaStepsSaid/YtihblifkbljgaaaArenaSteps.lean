/-
  law27.ArenaSteps.
-/
import Derived.Test.YtihblifkbljgaaaFewAny
namespace Go.Proofs.Ytihblifkbljgaaa
open Go.RowKit Go.Shelf

theorem step_back {L : List Nat} (hd : L.Nodup) {i by_ : Int} (h : 0 ≤ stepL L i by_) : stepL L (stepL L i by_) (-by_) = i ∧ -(L.length : Int) ≤ by_ ∧ by_ ≤ L.length := by
  rcases idxOf_cases L i with ⟨he, _⟩ | ⟨j, x, hj, hx, he, _⟩
  · exfalso
    unfold stepL at h
    rw [he, if_neg (by omega)] at h
    omega
  · by_cases hr : 0 ≤ (j : Int) + by_ ∧ (j : Int) + by_ < L.length
    · obtain ⟨m, hm⟩ := Int.eq_ofNat_of_zero_le hr.1
      have hml : m < L.length := by omega
      have hy := List.getElem?_eq_getElem hml
      have hjl := (List.getElem?_eq_some_iff.1 hj).1
      have e1 : stepL L i by_ = (L[m] : Int) := step_hit hd hj hx hy (by omega)
      rw [e1]
      refine ⟨?_, by omega, by omega⟩
      rw [step_hit hd hy rfl hj (by omega)]
      exact hx
    · exfalso
      unfold stepL at h
      rw [he, if_neg (by omega)] at h
      omega
theorem deep_up {t : List Node} {i : Int} (h : 0 ≤ upOf t i) : deepOf t i = deepOf t (upOf t i) + 1 ∧ upOf t i < t.length ∧ 0 ≤ deepOf t i ∧ deepOf t i ≤ t.length := by
  cases hp : placeB t i with
  | false => unfold upOf at h; rw [hp] at h; simp at h
  | true =>
    obtain ⟨p1, p2, p3⟩ := placeB_iff.1 hp
    obtain ⟨I, rfl⟩ := Int.eq_ofNat_of_zero_le p1
    have hu : upOf t (I : Int) = upN t I I := upOf_in p3 (by omega)
    rw [hu] at h ⊢
    rcases upN_cases t I I with h1 | ⟨k, h1⟩
    · omega
    · have hk := upN_lt I h1
      rw [h1]
      have q : placeB t (k : Int) = true := placeB_iff.2 ⟨by omega, by omega, p3⟩
      have hd := depth_le t I
      unfold deepOf
      rw [hp, q]
      simp only [if_true, Int.toNat_natCast]
      rw [depth_some h1] at hd ⊢
      exact ⟨by omega, by omega, by omega, by omega⟩

set_option maxRecDepth 20000 in
set_option maxHeartbeats 4000000 in
theorem law_steps (v : Value) (t : List Node) (i by_ : Int) (w : World) (hN : Nds w (Old w) v t) (hby : -9223372036854775808 ≤ by_ ∧ by_ ≤ 9223372036854775807) :
    Calls Try.prog 11 #[v, .int .i64 i, .int .i64 by_] w fun r w' => r = .returned (.bool true) ∧ Below w.heap.size w w' := by
  have HF := hidden (few_any v t w hN)
  have HN := hidden (fun (w' : World) (hw : Below w.heap.size w w') => hN.old hw)
  obtain ⟨A, c, rfl, hc1, hc2⟩ := hN.value
  unfold maxLen at hc2
  clear hN
  cases hf : fewB t with
  | false =>
    rw [hf] at HF
    clear HN hf
    go_enter Try.func11, Try.ntmps11
    go_wp2_with fail
    refine HF.out.mono ?_
    rintro r w2 ⟨rfl, hb⟩
    go_wp2_with fail
    refine (knows27 w2).mono ?_
    rintro r w3 ⟨rfl, hb3⟩
    go_wp2
    go_ret
    exact ⟨rfl, hb.trans (hb3.mono hb.size)⟩
  | true =>
    rw [hf] at HF
    have hlen : t.length ≤ 120 := by unfold fewB at hf; simp at hf; exact hf.1
    have h4 : t.length ≤ 140737488355 := by omega
    have HSB := hidden (fun h => @step_back _ (leavesOf_nodup t) i by_ h)
    have hll : (leavesOf t).length ≤ t.length := leavesTo_len t t.length
    have HDU := hidden (@deep_up t i)
    have HA := hidden (fun (w' : World) (hw : Below w.heap.size w w') => arena_step _ t i by_ w' h4 (HN.out w' hw) hby)
    have HB := hidden (fun (w' : World) (hw : Below w.heap.size w w') => ref_step _ t i by_ w' h4 (HN.out w' hw))
    have HC := hidden (fun (w' : World) (hw : Below w.heap.size w w') => arena_deep _ t i w' h4 (HN.out w' hw))
    have HD := hidden (fun (w' : World) (hw : Below w.heap.size w w') => ref_deep _ t i w' h4 (HN.out w' hw))
    have HE := hidden (fun (k : Int) (w' : World) (hw : Below w.heap.size w w') (hk : -9223372036854775808 ≤ -by_ ∧ -by_ ≤ 9223372036854775807) => arena_step _ t k (-by_) w' h4 (HN.out w' hw) hk)
    have HU := hidden (fun (w' : World) (hw : Below w.heap.size w w') => arena_up _ t i w' h4 (HN.out w' hw))
    have HG := hidden (fun (k : Int) (w' : World) (hw : Below w.heap.size w w') => arena_deep _ t k w' h4 (HN.out w' hw))
    obtain ⟨s, hs⟩ : ∃ s, stepL (leavesOf t) i by_ = s := ⟨_, rfl⟩
    obtain ⟨d, hd⟩ : ∃ d, deepOf t i = d := ⟨_, rfl⟩
    obtain ⟨u, hu⟩ : ∃ u, upOf t i = u := ⟨_, rfl⟩
    rw [hs] at HSB HA HB
    rw [hd] at HDU HC HD
    rw [hu] at HDU HU
    clear hs hd hu hf HN
    go_enter Try.func11, Try.ntmps11
    go_wp2_with fail
    refine HF.out.mono ?_
    rintro r w2 ⟨rfl, hb⟩
    clear HF
    go_wp2_with fail
    refine (HA.out w2 hb).mono ?_
    rintro r w3 ⟨rfl, hb3⟩
    replace hb := hb.trans (hb3.mono hb.size)
    clear hb3
    go_wp2_with fail
    refine (HC.out w3 hb).mono ?_
    rintro r w4 ⟨rfl, hb4⟩
    replace hb := hb.trans (hb4.mono hb.size)
    clear hb4
    go_wp2_with fail
    refine (HD.out w4 hb).mono ?_
    rintro r w5 ⟨rfl, hb5⟩
    replace hb := hb.trans (hb5.mono hb.size)
    clear hb5
    go_wp2_with fail
    refine (HB.out w5 hb).mono ?_
    rintro r w6 ⟨rfl, hb6⟩
    replace hb := hb.trans (hb6.mono hb.size)
    clear hb6
    clear HA HB HD
    by_cases hs : 0 ≤ s
    · obtain ⟨b1, b2, b3⟩ := HSB.out hs
      have HE2 := hidden (HE.out s w6 hb (by omega))
      rw [b1] at HE2
      have q1 : decide (0 ≤ s) = true := by simpa using hs
      clear HE HSB b1
      go_wp2_with fail
      refine HE2.out.mono ?_
      rintro r w7 ⟨rfl, hb7⟩
      replace hb := hb.trans (hb7.mono hb.size)
      clear hb7 HE2
      go_wp2_with fail
      refine (HU.out w7 hb).mono ?_
      rintro r w8 ⟨rfl, hb8⟩
      replace hb := hb.trans (hb8.mono hb.size)
      clear hb8
      by_cases hu : 0 ≤ u
      · obtain ⟨e1, e2, e3, e4⟩ := HDU.out hu
        have q2 : decide (u < 0) = false := by simp; omega
        go_wp2_with fail
        refine (HC.out w8 hb).mono ?_
        rintro r w9 ⟨rfl, hb9⟩
        replace hb := hb.trans (hb9.mono hb.size)
        clear hb9
        go_wp2_with fail
        refine (HG.out u w9 hb).mono ?_
        rintro r w10 ⟨rfl, hb10⟩
        replace hb := hb.trans (hb10.mono hb.size)
        clear hb10
        generalize deepOf t u = e at *
        subst e1
        go_wp2_with fail
        refine (knows27 w10).mono ?_
        rintro r w11 ⟨rfl, hb11⟩
        go_wp2
        go_ret
        exact ⟨rfl, hb.trans (hb11.mono hb.size)⟩
      · have q2 : decide (u < 0) = true := by simp; omega
        go_wp2_with fail
        refine (knows27 w8).mono ?_
        rintro r w11 ⟨rfl, hb11⟩
        go_wp2
        go_ret
        exact ⟨rfl, hb.trans (hb11.mono hb.size)⟩
    · have q1 : decide (0 ≤ s) = false := by simpa using hs
      clear HE HSB
      go_wp2_with fail
      refine (HU.out w6 hb).mono ?_
      rintro r w8 ⟨rfl, hb8⟩
      replace hb := hb.trans (hb8.mono hb.size)
      clear hb8
      by_cases hu : 0 ≤ u
      · obtain ⟨e1, e2, e3, e4⟩ := HDU.out hu
        have q2 : decide (u < 0) = false := by simp; omega
        go_wp2_with fail
        refine (HC.out w8 hb).mono ?_
        rintro r w9 ⟨rfl, hb9⟩
        replace hb := hb.trans (hb9.mono hb.size)
        clear hb9
        go_wp2_with fail
        refine (HG.out u w9 hb).mono ?_
        rintro r w10 ⟨rfl, hb10⟩
        replace hb := hb.trans (hb10.mono hb.size)
        clear hb10
        generalize deepOf t u = e at *
        subst e1
        go_wp2_with fail
        refine (knows27 w10).mono ?_
        rintro r w11 ⟨rfl, hb11⟩
        go_wp2
        go_ret
        exact ⟨rfl, hb.trans (hb11.mono hb.size)⟩
      · have q2 : decide (u < 0) = true := by simp; omega
        go_wp2_with fail
        refine (knows27 w8).mono ?_
        rintro r w11 ⟨rfl, hb11⟩
        go_wp2
        go_ret
        exact ⟨rfl, hb.trans (hb11.mono hb.size)⟩
end Go.Proofs.Ytihblifkbljgaaa
