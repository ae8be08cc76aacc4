/-
  gram: Of, Find, whole.
-/
import Derived.Test.YtaagkbgbghleiaaGramProds
import Derived.Test.YtaagkbgbghleiaaGramCheck
import Derived.Test.YtaagkbgbghleiaaGramRef2
namespace Go.Proofs.Ytaagkbgbghleiaa
open Go.RowKit Go.Shelf

set_option maxRecDepth 20000 in
set_option maxHeartbeats 4000000 in
theorem gram_Of (a b c : Value) (g : Gram) (r : Int) (w : World) (HG : GramIs w (Old w) a b c g) (h3 : g.prods.length ≤ 100000) :
    Calls Try.prog 36 #[.agg (gramCells a b c g), .int .i64 r] w fun e w' => (∃ u, e = .returned u ∧ Hid (IntsM w' w.heap.size u (ofRule g r))) ∧ Below w.heap.size w w' := by
  have HGo := hidden (fun (w' : World) (hb : Below w.heap.size w w') => HG.old hb)
  obtain ⟨⟨A1, k1, rfl, v1, m1⟩, ⟨A2, k2, rfl, v2, m2⟩, ⟨A3, k3, rfl, v3, m3⟩⟩ := HG.vals
  unfold gramCells at *
  have HS := hidden (fun (k : Nat) (p : Prod) (h : g.prods[k]? = some p) => ofUpto_snoc (r := r) h)
  have HL := hidden (ofUpto_len g r)
  have HD : Hid (ofUpto g r g.prods.length = ofRule g r) := hidden rfl
  clear HG
  unfold maxLen at m3
  go_enter Try.func36, Try.ntmps36
  go_wp2
  go_loopw [5, 11] (fun vv ii wr => ∃ k : Nat, k ≤ g.prods.length ∧ ii = .int .i64 k ∧ Hid (IntsM wr (w.heap.size + 1) vv (ofUpto g r k)) ∧ Below w.heap.size w wr ∧ w.heap.size + 1 ≤ wr.heap.size) (fun _ ii _ => g.prods.length - (intOf ii).toNat)
  case atStart => exact ⟨0, by omega, rfl, hidden (Mine.fresh_nil _ _ _ _ _), (by repeat (first | (with_reducible exact Below.refl _ _) | (with_reducible assumption) | (with_reducible refine Below.drew ?_) | (with_reducible refine below_drewN ?_ _) | ((with_reducible refine below_alloc ?_ ?_); (focus (first | omega | (simp; done) | (simp; omega)))) | ((with_reducible refine below_set ?_ ?_); (focus (first | omega | (simp; done) | (simp; omega)))))), by simp⟩
  case round =>
    obtain ⟨k, hk, rfl, HM, hb, z⟩ := hrel
    have hbz := hb.size
    by_cases hlt : k < g.prods.length
    · have hx := List.getElem?_eq_getElem hlt
      generalize g.prods[k] = p at *
      obtain ⟨b1, o1, l1, rfl, hT, hat, hin⟩ := (HGo.out _ hb).2.2.at_ hx
      have hin : Rd wr (Old wr) 4 l1 p.right.length (p.right.flatMap itCells) := hin
      obtain ⟨A4, k4, rfl, _, _⟩ := hin.val
      have hT : b1 < wr.heap.size := hT
      have y0 : wr.cell? ⟨b1, o1 + k * 2, none⟩ = some (.int .i64 p.left) := hat 0 _ rfl
      have y1 : wr.cell? ⟨b1, o1 + k * 2 + 1, none⟩ = some (.slice A4 p.right.length k4) := hat 1 _ rfl
      have HSx := hidden (HS.out k p hx)
      have hl := HL.out k
      have HM2 := hidden (HM.out.alloc (.cells #[.int .i64 p.left, .slice A4 p.right.length k4] 56))
      have HB2 := hidden (hb.alloc hbz (.cells #[.int .i64 p.left, .slice A4 p.right.length k4] 56))
      clear hat hx hin HM
      by_cases hr : p.left = r
      · have HE : Hid (ofUpto g r (k + 1) = ofUpto g r k ++ [(k : Int)]) := hidden (by rw [HSx.out, if_pos (by simp [hr])])
        have q : (p.left == r) = true := by simp [hr]
        clear HSx hr hb
        go_wp2_with (at_builtin; refine wpList_append_i rfl _ _ rfl (w.heap.size + 1) _ _ HM2 (k : Int) rfl rfl rfl (by simp) (by omega) (by simp; omega) ?_; intro v' w' hA hb2 hK)
        go_roundw
        case rel => exact ⟨k + 1, by omega, by go_num, by rw [HE.out]; exact hA, HB2.out.trans (hb2.mono (by omega)), by have := hb2.size; simp at this; omega⟩
        case measure => simp [intOf]; omega
      · have HE : Hid (ofUpto g r (k + 1) = ofUpto g r k) := hidden (by rw [HSx.out, if_neg (by simp [hr])])
        have q : (p.left == r) = false := by simp [hr]
        clear HSx hr hb
        go_wp2
        go_roundw
        case rel => exact ⟨k + 1, by omega, by go_num, by rw [HE.out]; exact HM2, HB2.out, by simp; omega⟩
        case measure => simp [intOf]; omega
    · obtain rfl : k = g.prods.length := by omega
      rw [HD.out] at HM
      go_wp2
      go_ret
      exact ⟨⟨_, rfl, hidden (Mine.base HM.out (by omega))⟩, hb⟩

set_option maxRecDepth 20000 in
set_option maxHeartbeats 2000000 in
theorem gram_Find (a b c : Value) (g : Gram) (s : ByteArray) (w : World) (HG : GramIs w (Old w) a b c g) (h1 : g.toks.length ≤ 100000) :
    Calls Try.prog 35 #[.agg (gramCells a b c g), .string s] w fun r w' => r = .returned (.tuple #[.bool (isRule g s), .int .i64 (findNo g s)]) ∧ Below w.heap.size w w' := by
  have HNa := hidden (fun (w' : World) (hb : Below w.heap.size w w') => gram_names a g w' (HG.old hb).1 h1)
  have HFt : Hid (∀ u w1, Strs w1 (Old w1) u (tokNames g) → Calls Try.prog 28 #[u, .string s] w1 fun r w' => r = .returned (.int .i64 (findOf (tokNames g) s)) ∧ w1 = w') := hidden (fun u w1 h => word_find u _ s _ w1 h)
  have HFr := hidden (fun (w' : World) (hb : Below w.heap.size w w') => word_find b g.rules s _ w' (HG.old hb).2.1)
  obtain ⟨⟨A1, k1, rfl, v1, m1⟩, ⟨A2, k2, rfl, v2, m2⟩, ⟨A3, k3, rfl, v3, m3⟩⟩ := HG.vals
  unfold gramCells isRule findNo at *
  generalize findOf (tokNames g) s = ft at *
  generalize findOf g.rules s = fr at *
  have hb := Below.refl w.heap.size w
  clear HG
  by_cases c1 : 0 ≤ ft
  · rw [if_pos c1]
    have e1 : (decide (ft < 0) && decide (0 ≤ fr)) = false := by rw [decide_eq_false (by omega)]; rfl
    rw [e1]
    clear e1
    go_enter Try.func35, Try.ntmps35
    go_wp2_with fail
    refine (HNa.out _ ?_).mono ?_
    · exact (by repeat (first | (with_reducible exact Below.refl _ _) | (with_reducible assumption) | (with_reducible refine Below.drew ?_) | (with_reducible refine below_drewN ?_ _) | ((with_reducible refine below_alloc ?_ ?_); (focus (first | omega | (simp; done) | (simp; omega)))) | ((with_reducible refine below_set ?_ ?_); (focus (first | omega | (simp; done) | (simp; omega))))))
    rintro r w2 ⟨⟨u, rfl, HM⟩, hb2⟩
    have hbw : Below w.heap.size w w2 := Below.trans (by repeat (first | (with_reducible exact Below.refl _ _) | (with_reducible assumption) | (with_reducible refine Below.drew ?_) | (with_reducible refine below_drewN ?_ _) | ((with_reducible refine below_alloc ?_ ?_); (focus (first | omega | (simp; done) | (simp; omega)))) | ((with_reducible refine below_set ?_ ?_); (focus (first | omega | (simp; done) | (simp; omega)))))) (hb2.mono (by simp))
    have hR := hidden (StrsM.rd HM.out)
    clear hb2
    go_wp2_with fail
    refine (HFt.out _ _ hR.out).mono ?_
    rintro r w3 ⟨rfl, rfl⟩
    go_wp2
    go_ret2
    exact ⟨rfl, hbw⟩
  · rw [if_neg c1]
    have e1 : (decide (ft < 0) && decide (0 ≤ fr)) = decide (0 ≤ fr) := by rw [decide_eq_true (show ft < 0 by omega)]; rfl
    rw [e1]
    clear e1
    go_enter Try.func35, Try.ntmps35
    go_wp2_with fail
    refine (HNa.out _ ?_).mono ?_
    · exact (by repeat (first | (with_reducible exact Below.refl _ _) | (with_reducible assumption) | (with_reducible refine Below.drew ?_) | (with_reducible refine below_drewN ?_ _) | ((with_reducible refine below_alloc ?_ ?_); (focus (first | omega | (simp; done) | (simp; omega)))) | ((with_reducible refine below_set ?_ ?_); (focus (first | omega | (simp; done) | (simp; omega))))))
    rintro r w2 ⟨⟨u, rfl, HM⟩, hb2⟩
    have x1 : w2.cell? ⟨w.heap.size, 1, none⟩ = some (.slice A2 g.rules.length k2) := (hb2.cell (p := ⟨w.heap.size, 1, none⟩) (by simp)).trans (by go_simp)
    have z2 : w.heap.size + 1 ≤ w2.heap.size := by have := hb2.size; simpa using this
    have hbw : Below w.heap.size w w2 := Below.trans (by repeat (first | (with_reducible exact Below.refl _ _) | (with_reducible assumption) | (with_reducible refine Below.drew ?_) | (with_reducible refine below_drewN ?_ _) | ((with_reducible refine below_alloc ?_ ?_); (focus (first | omega | (simp; done) | (simp; omega)))) | ((with_reducible refine below_set ?_ ?_); (focus (first | omega | (simp; done) | (simp; omega)))))) (hb2.mono (by simp))
    have hR := hidden (StrsM.rd HM.out)
    clear hb2
    go_wp2_with fail
    refine (HFt.out _ _ hR.out).mono ?_
    rintro r w3 ⟨rfl, rfl⟩
    go_wp2_with fail
    refine (HFr.out _ hbw).mono ?_
    rintro r w4 ⟨rfl, rfl⟩
    go_wp2
    go_ret2
    exact ⟨rfl, hbw⟩

set_option maxRecDepth 20000 in
set_option maxHeartbeats 8000000 in
theorem gram_whole (p : Nat) (a b c : Value) (g : Gram) (w : World) (H : Chk p a b c g D0 w) (s3 : g.prods.length ≤ 100000) :
    Calls Try.prog 71 #[.pointer (some ⟨p, 0, none⟩)] w (ChkOut p a b c g (wholeD g) w) := by
  have HH := hidden H
  have HOf := hidden (fun (w' : World) (h : Chk p a b c g D0 w') (r : Int) => gram_Of a b c g r w' h.old s3)
  obtain ⟨⟨A1, k1, rfl, v1, m1⟩, ⟨A2, k2, rfl, v2, m2⟩, ⟨A3, k3, rfl, v3, m3⟩⟩ := H.gram.vals
  have HBad := hidden (fun k at_ more (w' : World) (h : Chk p (.slice A1 g.toks.length k1) (.slice A2 g.rules.length k2) (.slice A3 g.prods.length k3) g D0 w') => gram_bad p _ _ _ g D0 k at_ more w' h)
  obtain ⟨x0, x1, x2, x3, x4, x5, x6, x7⟩ := H.cells
  have hl := H.lt
  have HW1 : Hid (g.start < 0 ∨ (g.rules.length : Int) ≤ g.start → wholeD g = ⟨11, -1, 0⟩) := hidden (fun h => by unfold wholeD startD; rw [if_pos h]; rfl)
  have HW2 : Hid (¬ (g.start < 0 ∨ (g.rules.length : Int) ≤ g.start) → wholeD g = firstD (noneD g) 0 g.rules.length) := hidden (fun h => by unfold wholeD startD; rw [if_neg h]; rfl)
  have HHit := hidden (fun k (h1 : k < g.rules.length) (h2 : (noneD g k).kind ≠ 0) (h3 : ∀ j, j < k → (noneD g j).kind = 0) => first0_hit (n := g.rules.length) h1 h2 h3)
  have HMis := hidden (fun (h3 : ∀ j, j < g.rules.length → (noneD g j).kind = 0) => first0_miss h3)
  generalize wholeD g = dd at *
  clear H x0 x2 x4 x5 x6 x7
  unfold maxLen at m2
  unfold gramCells at HOf
  by_cases h1 : g.start < 0 ∨ (g.rules.length : Int) ≤ g.start
  · have HD := hidden (HW1.out h1)
    have hcs : g.start < 0 ∨ (¬ g.start < 0 ∧ (g.rules.length : Int) ≤ g.start) := by omega
    clear h1 HW1 HW2 HHit HMis
    rcases hcs with h1 | ⟨h0, h1⟩
    all_goals
      go_enter Try.func71, Try.ntmps71
      go_wp2_with fail
      go_quiet (fail)
      go_wp2_with fail
      refine (HBad.out 11 _ _ _ (HH.out.drewN _)).mono ?_
      rintro r w5 ⟨rfl, HC5, hb5⟩
      have HF := hidden (ChkOut.mk_ (r := true) HD.out.symm (by rw [HD.out]; rfl) HC5 (((But.refl p w).drewN _).trans hb5))
      clear HC5 hb5
      go_wp2
      go_ret
      exact HF.out
  · have HD := hidden (HW2.out h1)
    obtain ⟨h1a, h1b⟩ : ¬ g.start < 0 ∧ ¬ (g.rules.length : Int) ≤ g.start := by omega
    clear h1 HW1 HW2
    go_enter Try.func71, Try.ntmps71
    go_wp2_with fail
    go_quiet (fail)
    have HC0 := hidden (HH.out.drewN nq)
    have HB0 := hidden ((But.refl p w).drewN nq)
    clear HH
    go_wp2
    go_loopw [32] (fun ii wr => ∃ k : Nat, k ≤ g.rules.length ∧ ii = .int .i64 k ∧ Hid (∀ j, j < k → (noneD g j).kind = 0) ∧ Hid (But p w wr) ∧ Hid (Chk p (.slice A1 g.toks.length k1) (.slice A2 g.rules.length k2) (.slice A3 g.prods.length k3) g D0 wr)) (fun ii _ => g.rules.length - (intOf ii).toNat)
    case atStart => exact ⟨0, by omega, rfl, hidden (fun j h => by omega), HB0, HC0⟩
    case round =>
      clear HB0 HC0 x1 x3
      obtain ⟨k, hk, rfl, HN, HB, HC⟩ := hrel
      by_cases hlt : k < g.rules.length
      · have hpr := HC.out.lt
        obtain ⟨x0, x1, x2, x3, x4, x5, x6, x7⟩ := HC.out.cells
        have HTD : Hid (noneD g k = if (ofRule g k).length = 0 then ⟨5, k, 0⟩ else D0) := hidden rfl
        have HHk := hidden (fun h2 => HHit.out k hlt h2 HN.out)
        have HNx : Hid ((noneD g k).kind = 0 → ∀ j, j < k + 1 → (noneD g j).kind = 0) := hidden (fun h j hj => by
          by_cases e : j = k
          · subst e; exact h
          · exact HN.out j (by omega))
        have HOk := hidden (HOf.out wr HC.out k)
        generalize ofRule g k = ro at *
        go_wp2_with fail
        refine HOk.out.mono ?_
        rintro r w3 ⟨⟨u, rfl, HM⟩, hb3⟩
        obtain ⟨Au, ku, rfl⟩ := Mine.value HM.out
        have HB3 := hidden (HB.out.next hb3)
        have HC3 := hidden (HC.out.next hb3)
        clear hb3 HB HC HM HOk x0 x1 x2 x3 x4 x5 x6 x7
        by_cases he : ro.length = 0
        · have HE : Hid (noneD g k = ⟨5, k, 0⟩) := hidden (by rw [HTD.out, if_pos he])
          have HD5 : Hid (dd = ⟨5, k, 0⟩) := hidden (by rw [HD.out, HHk.out (by rw [HE.out]; simp), HE.out])
          have qe : ((ro.length : Int) == 0) = true := by simp [he]
          clear HTD HHk HNx HE he HD
          go_wp2_with fail
          refine (HBad.out 5 _ _ _ HC3.out).mono ?_
          rintro r w5 ⟨rfl, HC5, hb5⟩
          have HF := hidden (ChkOut.mk_ (r := true) HD5.out.symm (by rw [HD5.out]; rfl) HC5 (HB3.out.trans hb5))
          clear HC5 hb5
          go_wp2
          go_ret
          exact HF.out
        · have HN2 := hidden (HNx.out (by rw [HTD.out, if_neg he]; rfl))
          have qe : ((ro.length : Int) == 0) = false := by simp [he]
          clear HTD HHk HNx HN
          go_wp2
          go_roundw
          case rel => exact ⟨k + 1, by omega, by go_num, HN2, HB3, HC3⟩
          case measure => simp [intOf]; omega
      · obtain rfl : k = g.rules.length := by omega
        have HE : Hid (dd = D0) := hidden (by rw [HD.out, HMis.out HN.out])
        have HF := hidden (ChkOut.mk_ (r := false) HE.out.symm (by rw [HE.out]; rfl) HC.out HB.out)
        clear HC HB HE
        go_wp2
        go_ret
        exact HF.out
end Go.Proofs.Ytaagkbgbghleiaa
