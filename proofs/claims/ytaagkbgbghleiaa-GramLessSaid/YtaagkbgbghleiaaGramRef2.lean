/-
  facsimileref18.Find, sameProd, Same.
-/
import Derived.Test.YtaagkbgbghleiaaGramTok
import Derived.Test.YtaagkbgbghleiaaGramSame
import Derived.Test.YtaagkbgbghleiaaWordRef
import Derived.Deep.RegionHeld3
namespace Go.Proofs.Ytaagkbgbghleiaa
open Go.RowKit Go.Shelf

theorem _root_.Go.RowKit.Below.drewN {B : Nat} {a w : World} (h : Below B a w) (n : Nat) : Below B a (w.drewN n) := ⟨h.os, h.tape, h.output, h.size, h.block⟩
theorem find_all (g : Gram) (s : ByteArray) : findOf (allNames g) s = if 0 ≤ findOf (tokNames g) s then findOf (tokNames g) s else if 0 ≤ findOf g.rules s then (g.toks.length : Int) + findOf g.rules s else -1 := by
  have := find_append (tokNames g) g.rules s
  rwa [tokNames_len] at this
theorem findTok_lt (g : Gram) (s : ByteArray) : findOf (tokNames g) s < g.toks.length := by
  have := (find_bounds (tokNames g) s).2
  rwa [tokNames_len] at this

set_option maxRecDepth 20000 in
set_option maxHeartbeats 2000000 in
theorem ref_Find18 (a b c : Value) (g : Gram) (s : ByteArray) (w : World) (HG : GramIs w (Old w) a b c g) (h1 : g.toks.length ≤ 100000) (h2 : g.rules.length ≤ 100000) :
    Calls Try.prog 38 #[.agg (gramCells a b c g), .string s] w fun r w' => r = .returned (.tuple #[.bool (isRule g s), .int .i64 (findNo g s)]) ∧ Below w.heap.size w w' := by
  have HNa := hidden (fun (w' : World) (hb : Below w.heap.size w w') => ref_Names a b c g w' (HG.old hb) h1 h2)
  have HFa := hidden (find_all g s)
  have l1 := findTok_lt g s
  have l2 := (find_bounds g.rules s).2
  have l3 := (find_bounds g.rules s).1
  have l4 := (find_bounds (tokNames g) s).1
  obtain ⟨⟨A1, k1, rfl, v1, m1⟩, ⟨A2, k2, rfl, v2, m2⟩, ⟨A3, k3, rfl, v3, m3⟩⟩ := HG.vals
  unfold gramCells isRule findNo at *
  have HFi : Hid (∀ u w1, Strs w1 (Old w1) u (allNames g) → Calls Try.prog 29 #[u, .string s] w1 fun r w' => r = .returned (.int .i64 (findOf (allNames g) s)) ∧ w1 = w') := hidden (fun u w1 h => ref_find u _ s _ w1 h)
  rw [HFa.out] at HFi
  generalize findOf (tokNames g) s = ft at *
  generalize findOf g.rules s = fr at *
  have hb := Below.refl w.heap.size w
  clear HG HFa
  by_cases c1 : 0 ≤ ft
  · rw [if_pos c1] at HFi ⊢
    have e1 : (decide (ft < 0) && decide (0 ≤ fr)) = false := by rw [decide_eq_false (by omega)]; rfl
    rw [e1]
    clear e1
    go_enter Try.func38, Try.ntmps38
    go_wp2_with fail
    refine (HNa.out _ ?_).mono ?_
    · exact (by repeat (first | (with_reducible exact Below.refl _ _) | (with_reducible assumption) | (with_reducible refine Below.drew ?_) | ((with_reducible refine below_alloc ?_ ?_); (focus (first | omega | (simp; done) | (simp; omega)))) | ((with_reducible refine below_set ?_ ?_); (focus (first | omega | (simp; done) | (simp; omega))))))
    rintro r w2 ⟨⟨u, rfl, HM⟩, hb2⟩
    obtain ⟨hc2, hf2⟩ := old_cells hb2
    have z2 : w.heap.size + 1 ≤ w2.heap.size := by have := hb2.size; simpa using this
    have hbw : Below w.heap.size w w2 := Below.trans (by repeat (first | (with_reducible exact Below.refl _ _) | (with_reducible assumption) | (with_reducible refine Below.drew ?_) | ((with_reducible refine below_alloc ?_ ?_); (focus (first | omega | (simp; done) | (simp; omega)))) | ((with_reducible refine below_set ?_ ?_); (focus (first | omega | (simp; done) | (simp; omega)))))) (hb2.mono (by simp))
    have hR := hidden (StrsM.rd HM.out)
    go_wp2_with fail
    refine (HFi.out _ _ hR.out).mono ?_
    rintro r w3 ⟨rfl, rfl⟩
    go_wp2
    go_ret2
    exact ⟨rfl, hbw⟩
  · rw [if_neg c1] at HFi ⊢
    by_cases c2 : 0 ≤ fr
    · rw [if_pos c2] at HFi
      have e1 : (decide (ft < 0) && decide (0 ≤ fr)) = true := by rw [decide_eq_true (by omega), decide_eq_true c2]; rfl
      rw [e1]
      clear e1
      go_enter Try.func38, Try.ntmps38
      go_wp2_with fail
      refine (HNa.out _ ?_).mono ?_
      · exact (by repeat (first | (with_reducible exact Below.refl _ _) | (with_reducible assumption) | (with_reducible refine Below.drew ?_) | ((with_reducible refine below_alloc ?_ ?_); (focus (first | omega | (simp; done) | (simp; omega)))) | ((with_reducible refine below_set ?_ ?_); (focus (first | omega | (simp; done) | (simp; omega))))))
      rintro r w2 ⟨⟨u, rfl, HM⟩, hb2⟩
      have x0 : w2.cell? ⟨w.heap.size, 0, none⟩ = some (.slice A1 g.toks.length k1) := (hb2.cell (p := ⟨w.heap.size, 0, none⟩) (by simp)).trans (by go_simp)
      have z2 : w.heap.size + 1 ≤ w2.heap.size := by have := hb2.size; simpa using this
      have hbw : Below w.heap.size w w2 := Below.trans (by repeat (first | (with_reducible exact Below.refl _ _) | (with_reducible assumption) | (with_reducible refine Below.drew ?_) | ((with_reducible refine below_alloc ?_ ?_); (focus (first | omega | (simp; done) | (simp; omega)))) | ((with_reducible refine below_set ?_ ?_); (focus (first | omega | (simp; done) | (simp; omega)))))) (hb2.mono (by simp))
      have hR := hidden (StrsM.rd HM.out)
      clear hb2
      go_wp2_with fail
      refine (HFi.out _ _ hR.out).mono ?_
      rintro r w3 ⟨rfl, rfl⟩
      clear HFi hR HM HNa
      go_wp2
      go_quiet (fail)
      go_wp2
      go_ret2
      exact ⟨by rw [show ((g.toks.length : Int) + fr - g.toks.length) = fr by omega]; rfl, hbw.drewN _⟩
    · rw [if_neg c2] at HFi
      have e1 : (decide (ft < 0) && decide (0 ≤ fr)) = false := by rw [decide_eq_false c2, Bool.and_false]
      rw [e1]
      obtain rfl : fr = -1 := by omega
      clear e1
      go_enter Try.func38, Try.ntmps38
      go_wp2_with fail
      refine (HNa.out _ ?_).mono ?_
      · exact (by repeat (first | (with_reducible exact Below.refl _ _) | (with_reducible assumption) | (with_reducible refine Below.drew ?_) | ((with_reducible refine below_alloc ?_ ?_); (focus (first | omega | (simp; done) | (simp; omega)))) | ((with_reducible refine below_set ?_ ?_); (focus (first | omega | (simp; done) | (simp; omega))))))
      rintro r w2 ⟨⟨u, rfl, HM⟩, hb2⟩
      obtain ⟨hc2, hf2⟩ := old_cells hb2
      have z2 : w.heap.size + 1 ≤ w2.heap.size := by have := hb2.size; simpa using this
      have hbw : Below w.heap.size w w2 := Below.trans (by repeat (first | (with_reducible exact Below.refl _ _) | (with_reducible assumption) | (with_reducible refine Below.drew ?_) | ((with_reducible refine below_alloc ?_ ?_); (focus (first | omega | (simp; done) | (simp; omega)))) | ((with_reducible refine below_set ?_ ?_); (focus (first | omega | (simp; done) | (simp; omega)))))) (hb2.mono (by simp))
      have hR := hidden (StrsM.rd HM.out)
      go_wp2_with fail
      refine (HFi.out _ _ hR.out).mono ?_
      rintro r w3 ⟨rfl, rfl⟩
      go_wp2
      go_ret2
      exact ⟨rfl, hbw⟩

set_option maxRecDepth 20000 in
set_option maxHeartbeats 4000000 in
theorem ref_sameProd (x y : Prod) (l1 l2 : Value) (w : World) (h1 : Rd w (Old w) 4 l1 x.right.length (x.right.flatMap itCells)) (h2 : Rd w (Old w) 4 l2 y.right.length (y.right.flatMap itCells)) :
    Calls Try.prog 87 #[.agg #[.int .i64 x.left, l1], .agg #[.int .i64 y.left, l2]] w fun r w' => r = .returned (.bool (eqB x y)) ∧ Below w.heap.size w w' := by
  obtain ⟨n1, L⟩ := x
  obtain ⟨n2, M⟩ := y
  dsimp only at h1 h2 ⊢
  have HA := hidden (fun (w' : World) (hw : Below w.heap.size w w') => Rd.old h1 hw)
  have HB := hidden (fun (w' : World) (hw : Below w.heap.size w w') => Rd.old h2 hw)
  have HE : Hid (eqB (⟨n1, L⟩ : Prod) ⟨n2, M⟩ = (n1 == n2 && eqB L M)) := hidden (by
    rw [Bool.eq_iff_iff, eqB_iff]
    simp only [Prod.mk.injEq, Bool.and_eq_true, beq_iff_eq, eqB_iff])
  obtain ⟨A1, k1, rfl, u1, m1⟩ := h1.val
  obtain ⟨A2, k2, rfl, u2, m2⟩ := h2.val
  unfold maxLen at m1 m2
  clear h1 h2
  rw [HE.out]
  clear HE
  by_cases hn : n1 = n2
  · subst hn
    by_cases hlen : L.length = M.length
    · have HT : Hid ((∀ k : Nat, k < L.length → L[k]? = M[k]?) → (n1 == n1 && eqB L M) = true) := hidden (fun h => by rw [eqB_true (list_ext_of hlen h)]; simp)
      have HF : Hid ((∃ (k : Nat) (x y : Item), L[k]? = some x ∧ M[k]? = some y ∧ x ≠ y) → (n1 == n1 && eqB L M) = false) := hidden (fun ⟨k, x, y, h1, h2, h3⟩ => by
        rw [eqB_false (fun e => by subst e; rw [h1] at h2; exact h3 (Option.some.inj h2))]; simp)
      generalize (n1 == n1 && eqB L M) = r at *
      have hlm : L.length ≤ M.length := by omega
      have q0 : ((L.length : Int) != (M.length : Int)) = false := by simp; omega
      have q1 : (n1 != n1) = false := by simp
      clear hlen
      go_enter Try.func87, Try.ntmps87
      go_wp2
      go_loopw [5] (fun kk wr => ∃ k : Nat, k ≤ L.length ∧ kk = .int .i64 k ∧ Hid (∀ j : Nat, j < k → L[j]? = M[j]?) ∧ Below w.heap.size w wr ∧ w.heap.size + 2 ≤ wr.heap.size ∧ Hid (Holds wr w.heap.size 56 #[.int .i64 n1, .slice A1 L.length k1]) ∧ Hid (Holds wr (w.heap.size + 1) 56 #[.int .i64 n1, .slice A2 M.length k2])) (fun kk _ => L.length - (intOf kk).toNat)
      case atStart => exact ⟨0, by omega, rfl, hidden (fun j h => by omega), (by repeat (first | (with_reducible exact Below.refl _ _) | (with_reducible assumption) | (with_reducible refine Below.drew ?_) | ((with_reducible refine below_alloc ?_ ?_); (focus (first | omega | (simp; done) | (simp; omega)))) | ((with_reducible refine below_set ?_ ?_); (focus (first | omega | (simp; done) | (simp; omega)))))), by simp, hidden (by repeat (first | (with_reducible assumption) | ((with_reducible refine holds_new ?_); (focus (first | rfl | (simp; done)))) | (with_reducible refine Holds.alloc ?_ _) | (with_reducible refine Holds.drew ?_))), hidden (by repeat (first | (with_reducible assumption) | ((with_reducible refine holds_new ?_); (focus (first | rfl | (simp; done)))) | (with_reducible refine Holds.alloc ?_ _) | (with_reducible refine Holds.drew ?_)))⟩
      case round =>
        obtain ⟨k, hk, rfl, HN, hb, z, H1, H2⟩ := hrel
        have p1 := H1.out.c21
        have p2 := H2.out.c21
        by_cases hlt : k < L.length
        · have hk2 : k < M.length := by omega
          have hx := List.getElem?_eq_getElem hlt
          have hy := List.getElem?_eq_getElem hk2
          obtain ⟨b1, o1, rfl, _, hat1⟩ := (HA.out _ hb).flat_at (fun _ => rfl) (by decide) hx
          obtain ⟨b2, o2, rfl, _, hat2⟩ := (HB.out _ hb).flat_at (fun _ => rfl) (by decide) hy
          have x0 := hat1 0 _ rfl
          have x1 := hat1 1 _ rfl
          have x2 := hat1 2 _ rfl
          have x3 := hat1 3 _ rfl
          have y0 := hat2 0 _ rfl
          have y1 := hat2 1 _ rfl
          have y2 := hat2 2 _ rfl
          have y3 := hat2 3 _ rfl
          rw [Nat.add_zero] at x0 y0
          generalize L[k] = x at *
          generalize M[k] = y at *
          have HX := hidden hx
          have HY := hidden hy
          clear hx hy hat1 hat2
          have z0 := Ext.cell x0; have z1 := Ext.cell x1; have z2 := Ext.cell x2; have z3 := Ext.cell x3
          have v0 := Ext.cell y0; have v1 := Ext.cell y1; have v2 := Ext.cell y2; have v3 := Ext.cell y3
          have s1 := Ext.cell p1; have s2 := Ext.cell p2
          have hq := fun w => it_eq_run w x y
          go_wp2_with fail
          refine wp_region_ext (by kernel_rfl) (by kernel_rfl) ?_
          repeat (go_big_quiet_step (fail))
          refine wpQuiet_nil ?_
          intro w2 hb2
          have z4 := hb2.size
          replace H1 := hidden (H1.out.below hb2 (by omega))
          replace H2 := hidden (H2.out.below hb2 (by omega))
          clear z0 z1 z2 z3 v0 v1 v2 v3 hq s1 s2 p1 p2
          clear x0 x1 x2 x3 y0 y1 y2 y3
          replace hb := hb.trans (hb2.mono hb.size)
          clear hb2
          by_cases hxy : x = y
          · have HN2 : Hid (∀ j : Nat, j < k + 1 → L[j]? = M[j]?) := hidden (fun j hj => by
              by_cases e : j = k
              · subst e; rw [HX.out, HY.out, hxy]
              · exact HN.out j (by omega))
            rw [eqB_true hxy]
            clear hxy HN HX HY
            go_wp2
            go_roundw
            case rel => exact ⟨k + 1, by omega, by go_num, HN2, hb, by omega, H1, H2⟩
            case measure => simp [intOf]; omega
          · have HE := hidden (HF.out ⟨k, _, _, HX.out, HY.out, hxy⟩)
            rw [eqB_false hxy]
            clear hxy
            go_wp2
            go_ret
            exact ⟨by rw [HE.out]; rfl, hb⟩
        · obtain rfl : k = L.length := by omega
          have HE := hidden (HT.out HN.out)
          go_wp2
          go_ret
          exact ⟨by rw [HE.out]; rfl, hb⟩
    · have q1 : (((L.length : Nat) : Int) != (M.length : Int)) = true := by rw [bne_iff_ne]; omega
      have q2 : (n1 != n1) = false := by simp
      rw [eqB_false (fun e => hlen (by rw [e])), Bool.and_false]
      clear hlen
      go_enter Try.func87, Try.ntmps87
      go_wp2
      go_ret
      exact ⟨rfl, (by repeat (first | (with_reducible exact Below.refl _ _) | (with_reducible assumption) | (with_reducible refine Below.drew ?_) | ((with_reducible refine below_alloc ?_ ?_); (focus (first | omega | (simp; done) | (simp; omega)))) | ((with_reducible refine below_set ?_ ?_); (focus (first | omega | (simp; done) | (simp; omega))))))⟩
  · have q : (n1 != n2) = true := by rw [bne_iff_ne]; exact hn
    have q1 : (n1 == n2) = false := by simp [hn]
    rw [q1, Bool.false_and]
    clear hn
    go_enter Try.func87, Try.ntmps87
    go_wp2
    go_ret
    exact ⟨rfl, (by repeat (first | (with_reducible exact Below.refl _ _) | (with_reducible assumption) | (with_reducible refine Below.drew ?_) | ((with_reducible refine below_alloc ?_ ?_); (focus (first | omega | (simp; done) | (simp; omega)))) | ((with_reducible refine below_set ?_ ?_); (focus (first | omega | (simp; done) | (simp; omega))))))⟩
end Go.Proofs.Ytaagkbgbghleiaa
