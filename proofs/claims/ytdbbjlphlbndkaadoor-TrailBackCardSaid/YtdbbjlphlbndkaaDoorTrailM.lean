/-
  Law TrailOrders.
-/
import Derived.Test.YtdbbjlphlbndkaaDoorTrailL
import Derived.Test.YtdbbjlphlbndkaaDoorTrailO
namespace Go.Proofs.YtdbbjlphlbndkaaDoor.T
open Go.RowKit Go.Shelf

theorem ints_intL (l : List Nat) : ints l = (intL l).flatMap (one1 intV) := by
  induction l with
  | nil => rfl
  | cons x l ih =>
    show _ :: ints l = _
    rw [ih]
    rfl
theorem nats_ints {w : World} {base : Nat} {v : Value} {l : List Nat} (h : NatsM w base v l) : Ints w (Old w) v (intL l) := by
  have h2 : Rd w (Old w) 1 v l.length (ints l) := h.rd (fun _ _ _ h => h)
  rw [ints_intL] at h2
  unfold Ints Row
  rw [show (intL l).length = l.length by simp [intL]]
  exact h2
theorem cmp_bounds : ∀ l m : List Int, -1 ≤ cmpL l m ∧ cmpL l m ≤ 1 := by
  intro l
  induction l with
  | nil => intro m; cases m <;> simp [cmpL]
  | cons a l ih =>
    intro m
    cases m with
    | nil => simp [cmpL]
    | cons b m =>
      rw [cmp_cons]
      split
      · omega
      · split
        · omega
        · exact ih m

set_option maxRecDepth 20000 in
set_option maxHeartbeats 16000000 in
theorem law_orders (a b v : Value) (l m : List Int) (t : List Node) (i k mx : Int) (w : World) (hA : Ints w (Old w) a l) (hB : Ints w (Old w) b m) (hN : Nds w (Old w) v t) (hi : 0 ≤ i ∧ i ≤ 255) (hk : 0 ≤ k ∧ k ≤ 255) (hm : w.cell? ⟨0, 0, none⟩ = some (.int .i64 mx)) :
    Calls Tryd.prog 6 #[a, b, v, .int .u8 i, .int .u8 k] w fun r w' => r = .returned (.bool true) ∧ Below w.heap.size w w' := by
  have HF := hidden (few_any v t w hN)
  have HKn := hidden (fun (w' : World) (hb : Below w.heap.size w w') => knows32 mx w' (Ext.cell hm ⟨w', hb⟩))
  have HN := hidden (fun (w' : World) (hw : Below w.heap.size w w') => hN.old hw)
  have HA := hidden (fun (w' : World) (hb : Below w.heap.size w w') => Rd.old hA hb)
  have HB := hidden (fun (w' : World) (hb : Below w.heap.size w w') => Rd.old hB hb)
  obtain ⟨A0, c0, rfl, hc1, hc2⟩ := hN.value
  obtain ⟨A, c, rfl, hd1, hd2⟩ := hA.val
  obtain ⟨A2, c2, rfl, he1, he2⟩ := hB.val
  unfold maxLen at hc2 hd2 he2
  have hb0 := Below.refl w.heap.size w
  clear hN hA hB hm
  by_cases h1 : l.length ≤ 200
  · have q1 : decide (200 < (l.length : Int)) = false := decide_eq_false (by omega)
    by_cases h2 : m.length ≤ 200
    · have q2 : decide (200 < (m.length : Int)) = false := decide_eq_false (by omega)
      cases hf : fewB t with
      | false =>
        rw [hf] at HF
        clear hf
        go_enter Tryd.func6, Tryd.ntmps6
        go_wp2_with fail
        refine HF.out.mono ?_
        rintro r w2 ⟨rfl, hb⟩
        go_wp2_with fail
        refine (HKn.out w2 hb).mono ?_
        rintro r w3 ⟨rfl, hb3⟩
        go_wp2
        go_ret
        exact ⟨rfl, hb.trans (hb3.mono hb.size)⟩
      | true =>
        rw [hf] at HF
        have hlen : t.length ≤ 120 := by unfold fewB at hf; simp at hf; exact hf.1
        have h4 : t.length ≤ 140737488355 := by omega
        have H1 := hidden (fun (w' : World) (hw : Below w.heap.size w w') => trail_Common _ _ l m w' (HA.out w' hw) (HB.out w' hw) (by omega))
        have H2 := hidden (fun (w' : World) (hw : Below w.heap.size w w') => ref_Common _ _ l m w' (HA.out w' hw) (HB.out w' hw))
        have H3 := hidden (fun (w' : World) (hw : Below w.heap.size w w') => trail_Order _ _ l m w' (HA.out w' hw) (HB.out w' hw))
        have H4 := hidden (fun (w' : World) (hw : Below w.heap.size w w') => ref_Order _ _ l m w' (HA.out w' hw) (HB.out w' hw))
        have H5 := hidden (fun (w' : World) (hw : Below w.heap.size w w') => trail_Order _ _ m l w' (HB.out w' hw) (HA.out w' hw))
        have hz := cmp_turn l m
        have hzb := cmp_bounds l m
        have hzb2 := cmp_bounds m l
        have hU1 : underB l (comL l m) = true := holdsB_true (com_left l m)
        have hU2 : underB m (comL l m) = true := holdsB_true (com_right l m)
        have H6 := hidden (fun (w' : World) (u : Value) (hw : Below w.heap.size w w') (hu : Ints w' (Old w') u (comL l m)) => trail_Under _ u l (comL l m) w' (HA.out w' hw) hu)
        have H7 := hidden (fun (w' : World) (u : Value) (hw : Below w.heap.size w w') (hu : Ints w' (Old w') u (comL l m)) => trail_Under _ u m (comL l m) w' (HB.out w' hw) hu)
        rw [hU1] at H6
        rw [hU2] at H7
        have hcl := com_len l m
        generalize comL l m = C at *
        generalize cmpL l m = z at *
        generalize cmpL m l = z2 at *
        have hn1 : (z != z) = false := by simp
        have hn2 : (z != -z2) = false := by rw [hz]; simp
        have HZ := hidden hz
        have HTr := hidden (fun (w' : World) (hw : Below w.heap.size w w') => ref_right _ t w' (by omega) (HN.out w' hw))
        clear hU1 hU2 hf hz
        go_enter Tryd.func6, Tryd.ntmps6
        go_wp2_with fail
        refine HF.out.mono ?_
        rintro r w1 ⟨rfl, hb⟩
        clear HF
        go_wp2_with fail
        refine (H1.out _ hb).mono ?_
        rintro r w2 ⟨⟨u1, rfl, hu1⟩, hb3⟩
        replace hb := hb.trans (hb3.mono hb.size)
        have HU1 := hidden (RowM.rd hu1.out)
        clear hb3 H1 hu1
        go_wp2_with fail
        refine (H2.out _ hb).mono ?_
        rintro r w3 ⟨⟨u2, rfl, hu2⟩, hb3⟩
        replace hb := hb.trans (hb3.mono hb.size)
        replace HU1 := hidden (Rd.old HU1.out hb3)
        have HS := hidden (Go.Proofs.YtdbbjlphlbndkaaDoor.same_ints _ _ _ _ _ HU1.out hu2.out)
        rw [Go.Proofs.YtdbbjlphlbndkaaDoor.eqB_self] at HS
        clear hb3 H2 hu2
        go_wp2_with fail
        refine HS.out.mono ?_
        rintro r w4 ⟨rfl, hb3⟩
        replace hb := hb.trans (hb3.mono hb.size)
        replace HU1 := hidden (Rd.old HU1.out hb3)
        clear hb3 HS
        go_wp2_with fail
        refine (H3.out _ hb).mono ?_
        rintro r w5 ⟨rfl, hb3⟩
        replace hb := hb.trans (hb3.mono hb.size)
        replace HU1 := hidden (Rd.old HU1.out hb3)
        clear hb3
        go_wp2_with fail
        refine (H4.out _ hb).mono ?_
        rintro r w6 ⟨rfl, hb3⟩
        replace hb := hb.trans (hb3.mono hb.size)
        replace HU1 := hidden (Rd.old HU1.out hb3)
        clear hb3 H4
        go_wp2_with fail
        refine (H3.out _ hb).mono ?_
        rintro r w7 ⟨rfl, hb3⟩
        replace hb := hb.trans (hb3.mono hb.size)
        replace HU1 := hidden (Rd.old HU1.out hb3)
        clear hb3 H3
        go_wp2_with fail
        refine (H5.out _ hb).mono ?_
        rintro r w8 ⟨rfl, hb3⟩
        replace hb := hb.trans (hb3.mono hb.size)
        replace HU1 := hidden (Rd.old HU1.out hb3)
        clear hb3 H5
        go_wp2_with fail
        refine (H6.out _ _ hb HU1.out).mono ?_
        rintro r w9 ⟨rfl, hb3⟩
        replace hb := hb.trans (hb3.mono hb.size)
        replace HU1 := hidden (Rd.old HU1.out hb3)
        clear hb3 H6
        go_wp2_with fail
        refine (H7.out _ _ hb HU1.out).mono ?_
        rintro r w10 ⟨rfl, hb3⟩
        replace hb := hb.trans (hb3.mono hb.size)
        clear hb3 H7 HU1
        go_wp2_with fail
        refine (HTr.out _ hb).mono ?_
        rintro r w11 ⟨rfl, hb3⟩
        replace hb := hb.trans (hb3.mono hb.size)
        clear hb3 HTr
        cases ht : treeB t with
        | false =>
          go_wp2_with fail
          refine (HKn.out _ hb).mono ?_
          rintro r w12 ⟨rfl, hb3⟩
          go_wp2
          go_ret
          exact ⟨rfl, hb.trans (hb3.mono hb.size)⟩
        | true =>
          have hT := treeB_iff.1 ht
          have h0 := tree_len hT
          obtain ⟨I, rfl⟩ : ∃ I : Nat, i = (I : Int) := ⟨i.toNat, by omega⟩
          obtain ⟨K, rfl⟩ : ∃ K : Nat, k = (K : Int) := ⟨k.toNat, by omega⟩
          have hI : I % t.length < t.length := Nat.mod_lt _ h0
          have hK : K % t.length < t.length := Nat.mod_lt _ h0
          have eI : ((I % t.length : Nat) : Int) = (I : Int) % (t.length : Int) := by push_cast; rfl
          have eK : ((K % t.length : Nat) : Int) = (K : Int) % (t.length : Int) := by push_cast; rfl
          have H8 := hidden (fun (w' : World) (hw : Below w.heap.size w w') => trail_Of _ t ((I % t.length : Nat) : Int) w' h4 (HN.out w' hw))
          have H9 := hidden (fun (w' : World) (hw : Below w.heap.size w w') => trail_Of _ t ((K % t.length : Nat) : Int) w' h4 (HN.out w' hw))
          have pI : pathOf t ((I % t.length : Nat) : Int) = pathN t (I % t.length) := by
            unfold pathOf
            rw [if_pos (placeB_iff.2 ⟨by omega, by omega, hT⟩), Int.toNat_natCast]
          have pK : pathOf t ((K % t.length : Nat) : Int) = pathN t (K % t.length) := by
            unfold pathOf
            rw [if_pos (placeB_iff.2 ⟨by omega, by omega, hT⟩), Int.toNat_natCast]
          rw [pI, eI] at H8
          rw [pK, eK] at H9
          have hcp := cmp_paths hT hI hK
          have hcb := cmp_bounds (intL (pathN t (I % t.length))) (intL (pathN t (K % t.length)))
          have H10 := hidden (fun (w' : World) (u u' : Value) (hu : Ints w' (Old w') u (intL (pathN t (I % t.length)))) (hu' : Ints w' (Old w') u' (intL (pathN t (K % t.length)))) => trail_Order u u' _ _ w' hu hu')
          generalize cmpL (intL (pathN t (I % t.length))) (intL (pathN t (K % t.length))) = y at *
          have hne : ((t.length : Int) == 0) = false := by rw [beq_eq_false_iff_ne]; omega
          have hne2 : (t.length : Int) ≠ 0 := by omega
          have tI : (I : Int).tmod (t.length : Int) = (I : Int) % (t.length : Int) := Int.tmod_eq_emod_of_nonneg (by omega)
          have tK : (K : Int).tmod (t.length : Int) = (K : Int) % (t.length : Int) := Int.tmod_eq_emod_of_nonneg (by omega)
          have hor : (decide (y < 0) = true ∧ decide ((I : Int) % (t.length : Int) < (K : Int) % (t.length : Int)) = true ∧ (y == 0) = false ∧ ((I : Int) % (t.length : Int) == (K : Int) % (t.length : Int)) = false) ∨ (decide (y < 0) = false ∧ decide ((I : Int) % (t.length : Int) < (K : Int) % (t.length : Int)) = false ∧ (y == 0) = true ∧ ((I : Int) % (t.length : Int) == (K : Int) % (t.length : Int)) = true) ∨ (decide (y < 0) = false ∧ decide ((I : Int) % (t.length : Int) < (K : Int) % (t.length : Int)) = false ∧ (y == 0) = false ∧ ((I : Int) % (t.length : Int) == (K : Int) % (t.length : Int)) = false) := by
            rw [← eI, ← eK]
            rcases Nat.lt_trichotomy (I % t.length) (K % t.length) with h | h | h
            · have := hcp.1.2 h
              exact .inl ⟨decide_eq_true this, decide_eq_true (by omega), beq_eq_false_iff_ne.2 (by omega), beq_eq_false_iff_ne.2 (by omega)⟩
            · have := hcp.2.2 h
              exact .inr (.inl ⟨decide_eq_false (by omega), decide_eq_false (by omega), beq_iff_eq.2 this, beq_iff_eq.2 (by omega)⟩)
            · have hh1 : ¬ y < 0 := fun h' => by have := hcp.1.1 h'; omega
              have hh2 : ¬ y = 0 := fun h' => by have := hcp.2.1 h'; omega
              exact .inr (.inr ⟨decide_eq_false hh1, decide_eq_false (by omega), beq_eq_false_iff_ne.2 hh2, beq_eq_false_iff_ne.2 (by omega)⟩)
          have bI : 0 ≤ (I : Int) % (t.length : Int) ∧ (I : Int) % (t.length : Int) < 120 := by rw [← eI]; omega
          have bK : 0 ≤ (K : Int) % (t.length : Int) ∧ (K : Int) % (t.length : Int) < 120 := by rw [← eK]; omega
          clear hT ht pI pK hcp eI eK
          generalize pathN t (I % t.length) = PI at *
          generalize pathN t (K % t.length) = PK at *
          clear hI hK
          go_wp2_with fail
          go_quiet (fail)
          replace hb := drewN_below hb nq
          generalize w11.drewN nq = w12 at *
          go_wp2_with fail
          refine (H8.out _ hb).mono ?_
          rintro r w13 ⟨⟨u5, rfl, hu5⟩, hb3⟩
          replace hb := hb.trans (hb3.mono hb.size)
          have HU5 := hidden (nats_ints hu5.out)
          clear hb3 H8 hu5
          go_wp2_with fail
          refine (H9.out _ hb).mono ?_
          rintro r w14 ⟨⟨u6, rfl, hu6⟩, hb3⟩
          replace hb := hb.trans (hb3.mono hb.size)
          replace HU5 := hidden (Rd.old HU5.out hb3)
          have HU6 := hidden (nats_ints hu6.out)
          clear hb3 H9 hu6
          go_wp2_with fail
          refine (H10.out _ _ _ HU5.out HU6.out).mono ?_
          rintro r w15 ⟨rfl, hb3⟩
          replace hb := hb.trans (hb3.mono hb.size)
          replace HU5 := hidden (Rd.old HU5.out hb3)
          replace HU6 := hidden (Rd.old HU6.out hb3)
          clear hb3
          rcases hor with ⟨d1, d2, d3, d4⟩ | ⟨d1, d2, d3, d4⟩ | ⟨d1, d2, d3, d4⟩
          all_goals
            go_wp2_with fail
            refine (H10.out _ _ _ HU5.out HU6.out).mono ?_
            rintro r w16 ⟨rfl, hb3⟩
            replace hb := hb.trans (hb3.mono hb.size)
            clear hb3
            go_wp2_with fail
            refine (HKn.out _ hb).mono ?_
            rintro r w17 ⟨rfl, hb3⟩
            go_wp2
            go_ret
            exact ⟨rfl, hb.trans (hb3.mono hb.size)⟩
    · have q2 : decide (200 < (m.length : Int)) = true := decide_eq_true (by omega)
      go_enter Tryd.func6, Tryd.ntmps6
      go_wp2_with fail
      refine (HKn.out w hb0).mono ?_
      rintro r w3 ⟨rfl, hb3⟩
      go_wp2
      go_ret
      exact ⟨rfl, hb3⟩
  · have q1 : decide (200 < (l.length : Int)) = true := decide_eq_true (by omega)
    go_enter Tryd.func6, Tryd.ntmps6
    go_wp2_with fail
    refine (HKn.out w hb0).mono ?_
    rintro r w3 ⟨rfl, hb3⟩
    go_wp2
    go_ret
    exact ⟨rfl, hb3⟩
end Go.Proofs.YtdbbjlphlbndkaaDoor.T
