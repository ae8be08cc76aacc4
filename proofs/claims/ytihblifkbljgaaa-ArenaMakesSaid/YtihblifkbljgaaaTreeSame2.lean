/-
  Are nodes the same (the document's answer of layer 27)?
-/
import Derived.Test.YtihblifkbljgaaaTreeSame
namespace Go.Proofs.Ytihblifkbljgaaa
open Go.RowKit Go.Shelf

theorem strs_eql (a b : ByteArray) : (a.toList == b.toList) = eqB a b := by
  rw [Bool.eq_iff_iff, eqB_iff, beq_iff_eq]
  exact ⟨toList_inj, fun h => by rw [h]⟩

set_option maxRecDepth 20000 in
set_option maxHeartbeats 8000000 in
theorem ref_same (a b : Value) (L M : List Node) (w : World) (hA : Nds w (Old w) a L) (hB : Nds w (Old w) b M) :
    Calls Try.prog 19 #[a, b] w fun r w' => r = .returned (.bool (eqB L M)) ∧ Below w.heap.size w w' := by
  obtain ⟨A, c, rfl, hc1, hc2⟩ := hA.value
  obtain ⟨A2, c2, rfl, hd1, hd2⟩ := hB.value
  unfold maxLen at hc2 hd2
  have HA := hidden (fun (w' : World) (hw : Below w.heap.size w w') => hA.old hw)
  have HB := hidden (fun (w' : World) (hw : Below w.heap.size w w') => hB.old hw)
  clear hA hB
  by_cases hlen : L.length = M.length
  · have HT : Hid ((∀ k : Nat, k < L.length → L[k]? = M[k]?) → eqB L M = true) := hidden (fun h => eqB_true (list_ext_of hlen h))
    have HF : Hid ((∃ (k : Nat) (x y : Node), L[k]? = some x ∧ M[k]? = some y ∧ x ≠ y) → eqB L M = false) := hidden (fun ⟨k, x, y, h1, h2, h3⟩ => eqB_false fun e => by
      subst e
      rw [h1] at h2
      exact h3 (Option.some.inj h2))
    generalize eqB L M = r at *
    have HLM := hidden hlen
    have hlm : L.length ≤ M.length := by omega
    have q0 : ((L.length : Int) != (M.length : Int)) = false := by simp; omega
    clear hlen
    go_enter Try.func19, Try.ntmps19
    go_wp2
    go_loopw [5] (fun kk wr => ∃ k : Nat, k ≤ L.length ∧ kk = .int .i64 k ∧ Hid (∀ j : Nat, j < k → L[j]? = M[j]?) ∧ Below w.heap.size w wr) (fun kk _ => L.length - (intOf kk).toNat)
    case atStart => exact ⟨0, by omega, rfl, hidden (fun j h => by omega), Below.refl _ _⟩
    case round =>
      obtain ⟨k, hk, rfl, HN, hb⟩ := hrel
      by_cases hlt : k < L.length
      · have hk2 : k < M.length := by omega
        obtain ⟨b1, o1, c1', hv1, _, _, _, hat1⟩ := Nds.open_ (HA.out wr hb) (by intro e; subst e; simp at hlt)
        obtain ⟨b2, o2, c2', hv2, _, _, _, hat2⟩ := Nds.open_ (HB.out wr hb) (by intro e; subst e; simp at hk2)
        simp only [Value.slice.injEq] at hv1 hv2
        obtain ⟨rfl, _, rfl⟩ := hv1
        obtain ⟨rfl, _, rfl⟩ := hv2
        have hx := List.getElem?_eq_getElem hlt
        have hy := List.getElem?_eq_getElem hk2
        obtain ⟨l1, x0, x1, x2, x3, x4, x5⟩ := hat1 k _ hx
        obtain ⟨l2, y0, y1, y2, y3, y4, y5⟩ := hat2 k _ hy
        generalize L[k] = x at *
        generalize M[k] = y at *
        have HX := hidden hx
        have HY := hidden hy
        have HS := hidden (fun (w' : World) (hw : Below wr.heap.size wr w') => same_pcs l1 l2 _ _ w' (Rd.mono (Rd.below x5 hw (fun _ h => h)) (fun k hk => Nat.lt_of_lt_of_le hk hw.size)) (Rd.mono (Rd.below y5 hw (fun _ h => h)) (fun k hk => Nat.lt_of_lt_of_le hk hw.size)))
        obtain ⟨A3, c3, rfl, _, _⟩ := x5.value
        obtain ⟨A4, c4, rfl, _, _⟩ := y5.value
        clear hx hy hat1 hat2 x5 y5
        have z0 := Ext.cell x0; have z1 := Ext.cell x1; have z2 := Ext.cell x2; have z3 := Ext.cell x3; have z4 := Ext.cell x4
        have p0 := Ext.cell y0; have p1 := Ext.cell y1; have p2 := Ext.cell y2; have p3 := Ext.cell y3; have p4 := Ext.cell y4
        obtain ⟨xk, xn, xs, xl, xt⟩ := x
        obtain ⟨yk, yn, ys, yl, yt⟩ := y
        dsimp only at z0 z1 z2 z3 z4 p0 p1 p2 p3 p4
        clear x0 x1 x2 x3 x4 y0 y1 y2 y3 y4
        dsimp only at HS
        have HE : Hid (xk = yk ∧ xn = yn ∧ xs = ys ∧ xt = yt ∧ xl = yl ↔ (⟨xk, xn, xs, xl, xt⟩ : Node) = ⟨yk, yn, ys, yl, yt⟩) := hidden (by simp only [Node.mk.injEq]; exact ⟨fun ⟨h1, h2, h3, h4, h5⟩ => ⟨h1, h2, h3, h5, h4⟩, fun ⟨h1, h2, h3, h4, h5⟩ => ⟨h1, h2, h3, h5, h4⟩⟩)
        have hs := strs_eql xt yt
        have key : (∃ (q : Bool), ((xk != yk) = true ∧ q = false ∨ (xk != yk) = false ∧ ((xn != yn) = true ∧ q = false ∨ (xn != yn) = false ∧ ((xs != ys) = true ∧ q = false ∨ (xs != ys) = false ∧ ((xt.toList == yt.toList) = false ∧ q = false ∨ (xt.toList == yt.toList) = true ∧ eqB xl yl = q)))) ∧ Hid ((⟨xk, xn, xs, xl, xt⟩ : Node) = ⟨yk, yn, ys, yl, yt⟩ ↔ q = true)) := by
          by_cases e0 : xk = yk
          · by_cases e1 : xn = yn
            · by_cases e2 : xs = ys
              · by_cases e3 : xt = yt
                · refine ⟨eqB xl yl, .inr ⟨by simp [e0], .inr ⟨by simp [e1], .inr ⟨by simp [e2], .inr ⟨by rw [hs, eqB_true e3], rfl⟩⟩⟩⟩, hidden ?_⟩
                  rw [← HE.out, eqB_iff]; simp [e0, e1, e2, e3]
                · refine ⟨false, .inr ⟨by simp [e0], .inr ⟨by simp [e1], .inr ⟨by simp [e2], .inl ⟨by rw [hs, eqB_false e3], rfl⟩⟩⟩⟩, hidden ?_⟩
                  rw [← HE.out]; simp [e3]
              · refine ⟨false, .inr ⟨by simp [e0], .inr ⟨by simp [e1], .inl ⟨by simp [e2], rfl⟩⟩⟩, hidden ?_⟩
                rw [← HE.out]; simp [e2]
            · refine ⟨false, .inr ⟨by simp [e0], .inl ⟨by simp [e1], rfl⟩⟩, hidden ?_⟩
              rw [← HE.out]; simp [e1]
          · refine ⟨false, .inl ⟨by simp [e0], rfl⟩, hidden ?_⟩
            rw [← HE.out]; simp [e0]
        obtain ⟨q, hq, HQ⟩ := key
        clear hs HE
        have HN2 : q = true → Hid (∀ j : Nat, j < k + 1 → L[j]? = M[j]?) := fun h => hidden (fun j hj => by
          by_cases e : j = k
          · subst e; rw [HX.out, HY.out, HQ.out.2 h]
          · exact HN.out j (by omega))
        have HNo : q = false → Hid (r = false) := fun h => hidden (HF.out ⟨k, _, _, HX.out, HY.out, fun e => by rw [HQ.out.1 e] at h; cases h⟩)
        replace HN2 := hidden HN2
        replace HNo := hidden HNo
        clear HQ HX HY HN
        rcases hq with ⟨q1, rfl⟩ | ⟨q1, ⟨q2, rfl⟩ | ⟨q2, ⟨q3, rfl⟩ | ⟨q3, ⟨q4, rfl⟩ | ⟨q4, q5⟩⟩⟩⟩
        case inr.inr.inr.inr =>
          rw [q5] at HS
          clear q5
          go_wp2_with fail
          refine wp_region_ext (by kernel_rfl) (by kernel_rfl) ?_
          repeat (go_big_quiet_step ((go_at_call 39; exact Ext.call (HS.out _ (Ext.below _)))))
          refine wpQuiet_nil ?_
          intro w2 hb2
          clear z0 z1 z2 z3 z4 p0 p1 p2 p3 p4 HS
          replace hb := hb.trans (hb2.mono hb.size)
          cases q with
          | true =>
            have HN3 := HN2.out rfl
            go_wp2
            go_roundw
            case rel => exact ⟨k + 1, by omega, by go_num, HN3, hb⟩
            case measure => simp [intOf]; omega
          | false =>
            have HE := HNo.out rfl
            go_wp2
            go_ret
            exact ⟨by rw [HE.out]; rfl, hb⟩
        all_goals
          have HE := HNo.out rfl
          go_wp2_with fail
          refine wp_region_ext (by kernel_rfl) (by kernel_rfl) ?_
          repeat (go_big_quiet_step (fail))
          refine wpQuiet_nil ?_
          intro w2 hb2
          clear z0 z1 z2 z3 z4 p0 p1 p2 p3 p4
          replace hb := hb.trans (hb2.mono hb.size)
          go_wp2
          go_ret
          exact ⟨by rw [HE.out]; rfl, hb⟩
      · obtain rfl : k = L.length := by omega
        have HE := hidden (HT.out HN.out)
        go_wp2
        go_ret
        exact ⟨by rw [HE.out]; rfl, hb⟩
  · have q1 : (((L.length : Nat) : Int) != (M.length : Int)) = true := by rw [bne_iff_ne]; omega
    have HE : Hid (eqB L M = false) := hidden (eqB_false (by
      intro e; rw [e] at hlen; exact hlen rfl))
    generalize eqB L M = r at *
    clear hlen
    go_enter Try.func19, Try.ntmps19
    go_wp2
    go_ret
    exact ⟨by rw [HE.out]; rfl, Below.refl _ _⟩
end Go.Proofs.Ytihblifkbljgaaa
