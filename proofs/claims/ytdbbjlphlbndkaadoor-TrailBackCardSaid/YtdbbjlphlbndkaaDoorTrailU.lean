/-
  Whether a path begins with another one, of the program and of the document.
-/
import Derived.Test.YtdbbjlphlbndkaaDoorB1
namespace Go.Proofs.YtdbbjlphlbndkaaDoor
open Go.RowKit Go.Shelf

set_option maxRecDepth 20000 in
set_option maxHeartbeats 2000000 in
theorem equal_ints (a b : Value) (L M : List Int) (w : World) (hA : Ints w (Old w) a L) (hB : Ints w (Old w) b M) :
    Calls Tryd.prog 32 #[a, b] w fun r w' => r = .returned (.bool (eqB L M)) ∧ Below w.heap.size w w' := by
  obtain ⟨A, c, rfl, hc1, hc2⟩ := hA.val
  obtain ⟨A2, c2, rfl, hd1, hd2⟩ := hB.val
  unfold maxLen at hc2 hd2
  have HA := hidden (fun (w' : World) (hw : Below w.heap.size w w') => Rd.old hA hw)
  have HB := hidden (fun (w' : World) (hw : Below w.heap.size w w') => Rd.old hB hw)
  clear hA hB
  by_cases hlen : L.length = M.length
  · have HT : Hid ((∀ k : Nat, k < L.length → L[k]? = M[k]?) → eqB L M = true) := hidden (fun h => eqB_true (list_ext_of hlen h))
    have HF : Hid ((∃ (k : Nat) (x y : Int), L[k]? = some x ∧ M[k]? = some y ∧ x ≠ y) → eqB L M = false) := hidden (fun ⟨k, x, y, h1, h2, h3⟩ => eqB_false fun e => by
      subst e
      rw [h1] at h2
      exact h3 (Option.some.inj h2))
    generalize eqB L M = r at *
    have hlm : L.length ≤ M.length := by omega
    have q0 : ((L.length : Int) != (M.length : Int)) = false := by simp; omega
    clear hlen
    go_enter Tryd.func32, Tryd.ntmps32
    go_wp2
    go_loopw [13] (fun kk wr => ∃ k : Nat, k ≤ L.length ∧ kk = .int .i64 k ∧ Hid (∀ j : Nat, j < k → L[j]? = M[j]?) ∧ Below w.heap.size w wr) (fun kk _ => L.length - (intOf kk).toNat)
    case atStart => exact ⟨0, by omega, rfl, hidden (fun j h => by omega), Below.refl _ _⟩
    case round =>
      obtain ⟨k, hk, rfl, HN, hb⟩ := hrel
      by_cases hlt : k < L.length
      · have hk2 : k < M.length := by omega
        have hx := List.getElem?_eq_getElem hlt
        have hy := List.getElem?_eq_getElem hk2
        generalize L[k] = x at *
        generalize M[k] = y at *
        obtain ⟨b1, o1, rfl, _, x0⟩ := row_at (HA.out _ hb) hx
        obtain ⟨b2, o2, rfl, _, y0⟩ := row_at (HB.out _ hb) hy
        have HX := hidden hx
        have HY := hidden hy
        clear hx hy
        have z0 := Ext.cell x0; have z1 := Ext.cell y0
        go_wp2_with fail
        refine wp_region_ext (by kernel_rfl) (by kernel_rfl) ?_
        repeat (go_big_quiet_step (fail))
        refine wpQuiet_nil ?_
        intro w2 hb2
        clear z0 z1 x0 y0
        replace hb := hb.trans (hb2.mono hb.size)
        by_cases hxy : x = y
        · have HN2 : Hid (∀ j : Nat, j < k + 1 → L[j]? = M[j]?) := hidden (fun j hj => by
            by_cases e : j = k
            · subst e; rw [HX.out, HY.out, hxy]
            · exact HN.out j (by omega))
          subst hxy
          clear HN HX HY
          go_wp2
          go_roundw
          case rel => exact ⟨k + 1, by omega, by go_num, HN2, hb⟩
          case measure => simp [intOf]; omega
        · have HE := hidden (HF.out ⟨k, _, _, HX.out, HY.out, hxy⟩)
          have q1 : (x != y) = true := by rw [bne_iff_ne]; exact hxy
          clear hxy
          go_wp2
          go_ret
          exact ⟨by rw [HE.out]; rfl, hb⟩
      · obtain rfl : k = L.length := by omega
        have HE := hidden (HT.out HN.out)
        go_wp2
        go_ret
        exact ⟨by rw [HE.out]; rfl, hb⟩
  · have q1 : (((L.length : Nat) : Int) != (M.length : Int)) = true := by rw [bne_iff_ne]; omega
    have HE : Hid (eqB L M = false) := hidden (eqB_false (by
      intro e; rw [e] at hlen; exact hlen rfl))
    generalize eqB L M = r at *
    clear hlen
    go_enter Tryd.func32, Tryd.ntmps32
    go_wp2
    go_ret
    exact ⟨by rw [HE.out]; rfl, Below.refl _ _⟩

noncomputable def underB (l m : List Int) : Bool := holdsB (m <+: l)
theorem under_long {l m : List Int} (h : l.length < m.length) : underB l m = false := holdsB_false fun hp => by have := hp.length_le; omega
theorem under_take {l m : List Int} : underB l m = eqB (l.take m.length) m := by
  rw [Bool.eq_iff_iff]
  unfold underB
  rw [holdsB_iff, eqB_iff, List.prefix_iff_eq_take]
  exact ⟨fun h => h.symm, fun h => h.symm⟩

set_option maxRecDepth 20000 in
set_option maxHeartbeats 4000000 in
theorem trail_Under (a b : Value) (l m : List Int) (w : World) (hA : Ints w (Old w) a l) (hB : Ints w (Old w) b m) :
    Calls Tryd.prog 13 #[a, b] w fun r w' => r = .returned (.bool (underB l m)) ∧ Below w.heap.size w w' := by
  obtain ⟨A, c, rfl, hc1, hc2⟩ := hA.val
  obtain ⟨A2, c2, rfl, hd1, hd2⟩ := hB.val
  unfold maxLen at hc2 hd2
  by_cases h : m.length ≤ l.length
  · have ht := rd_take hA h
    rw [Nat.mul_one] at ht
    have ht2 : Ints w (Old w) (.slice A m.length c) (l.take m.length) := by
      have e : (l.take m.length).flatMap (one1 intV) = (l.flatMap (one1 intV)).take m.length := by
        have key : ∀ (L : List Int) (k : Nat), (L.take k).flatMap (one1 intV) = (L.flatMap (one1 intV)).take k := by
          intro L
          induction L with
          | nil => intro k; simp
          | cons x L ih =>
            intro k
            cases k with
            | zero => simp
            | succ k => rw [List.take_succ_cons, List.flatMap_cons, List.flatMap_cons, ih k]; rfl
        exact key l m.length
      unfold Ints Row
      rw [List.length_take, Nat.min_eq_left h, e]
      exact ht
    have HC := hidden (equal_ints _ _ _ _ w ht2 hB)
    rw [under_take]
    have q0 : decide ((m.length : Int) ≤ (l.length : Int)) = true := decide_eq_true (by omega)
    generalize eqB (l.take m.length) m = res at *
    clear hA hB ht ht2
    go_enter Tryd.func13, Tryd.ntmps13
    go_wp2_with fail
    refine HC.out.mono ?_
    rintro r w' ⟨rfl, hb⟩
    go_wp2
    go_ret
    exact ⟨rfl, hb⟩
  · rw [under_long (by omega)]
    have q0 : decide ((m.length : Int) ≤ (l.length : Int)) = false := decide_eq_false (by omega)
    clear hA hB
    go_enter Tryd.func13, Tryd.ntmps13
    go_wp2
    go_ret
    exact ⟨rfl, Below.refl _ _⟩

set_option maxRecDepth 20000 in
set_option maxHeartbeats 4000000 in
theorem ref_Under (a b : Value) (L M : List Int) (w : World) (hA : Ints w (Old w) a L) (hB : Ints w (Old w) b M) :
    Calls Tryd.prog 14 #[a, b] w fun r w' => r = .returned (.bool (underB L M)) ∧ Below w.heap.size w w' := by
  obtain ⟨A, c, rfl, hc1, hc2⟩ := hA.val
  obtain ⟨A2, c2, rfl, hd1, hd2⟩ := hB.val
  unfold maxLen at hc2 hd2
  have HA := hidden (fun (w' : World) (hw : Below w.heap.size w w') => Rd.old hA hw)
  have HB := hidden (fun (w' : World) (hw : Below w.heap.size w w') => Rd.old hB hw)
  clear hA hB
  by_cases hlen : M.length ≤ L.length
  · have HT : Hid ((∀ k : Nat, k < M.length → L[k]? = M[k]?) → underB L M = true) := hidden (fun h => holdsB_true (by
      rw [List.prefix_iff_eq_take]
      refine list_ext_of (by rw [List.length_take]; omega) (fun k hk => ?_)
      rw [List.getElem?_take_of_lt hk, h k hk]))
    have HF : Hid ((∃ (k : Nat) (x y : Int), L[k]? = some x ∧ M[k]? = some y ∧ x ≠ y) → underB L M = false) := hidden (fun ⟨k, x, y, h1, h2, h3⟩ => holdsB_false fun e => by
      rw [List.prefix_iff_eq_take] at e
      have hk := (List.getElem?_eq_some_iff.1 h2).1
      rw [e, List.getElem?_take_of_lt hk, h1] at h2
      exact h3 (Option.some.inj h2))
    generalize underB L M = r at *
    have q0 : decide ((L.length : Int) < (M.length : Int)) = false := decide_eq_false (by omega)
    go_enter Tryd.func14, Tryd.ntmps14
    go_wp2
    go_loopw [5] (fun kk wr => ∃ k : Nat, k ≤ M.length ∧ kk = .int .i64 k ∧ Hid (∀ j : Nat, j < k → L[j]? = M[j]?) ∧ Below w.heap.size w wr) (fun kk _ => M.length - (intOf kk).toNat)
    case atStart => exact ⟨0, by omega, rfl, hidden (fun j h => by omega), Below.refl _ _⟩
    case round =>
      obtain ⟨k, hk, rfl, HN, hb⟩ := hrel
      by_cases hlt : k < M.length
      · have hk2 : k < L.length := by omega
        have hx := List.getElem?_eq_getElem hk2
        have hy := List.getElem?_eq_getElem hlt
        generalize L[k] = x at *
        generalize M[k] = y at *
        obtain ⟨b1, o1, rfl, _, x0⟩ := row_at (HA.out _ hb) hx
        obtain ⟨b2, o2, rfl, _, y0⟩ := row_at (HB.out _ hb) hy
        have HX := hidden hx
        have HY := hidden hy
        clear hx hy
        have z0 := Ext.cell x0; have z1 := Ext.cell y0
        go_wp2_with fail
        refine wp_region_ext (by kernel_rfl) (by kernel_rfl) ?_
        repeat (go_big_quiet_step (fail))
        refine wpQuiet_nil ?_
        intro w2 hb2
        clear z0 z1 x0 y0
        replace hb := hb.trans (hb2.mono hb.size)
        by_cases hxy : x = y
        · have HN2 : Hid (∀ j : Nat, j < k + 1 → L[j]? = M[j]?) := hidden (fun j hj => by
            by_cases e : j = k
            · subst e; rw [HX.out, HY.out, hxy]
            · exact HN.out j (by omega))
          have q1 : (x != y) = false := by rw [hxy]; simp
          clear hxy HN HX HY
          go_wp2
          go_roundw
          case rel => exact ⟨k + 1, by omega, by go_num, HN2, hb⟩
          case measure => simp [intOf]; omega
        · have HE := hidden (HF.out ⟨k, _, _, HX.out, HY.out, hxy⟩)
          have q1 : (x != y) = true := by rw [bne_iff_ne]; exact hxy
          clear hxy
          go_wp2
          go_ret
          exact ⟨by rw [HE.out]; rfl, hb⟩
      · obtain rfl : k = M.length := by omega
        have HE := hidden (HT.out HN.out)
        go_wp2
        go_ret
        exact ⟨by rw [HE.out]; rfl, hb⟩
  · have q1 : decide ((L.length : Int) < (M.length : Int)) = true := decide_eq_true (by omega)
    have q1b : L.length < M.length := by omega
    rw [under_long (by omega)]
    clear hlen
    go_enter Tryd.func14, Tryd.ntmps14
    go_wp2
    go_ret
    exact ⟨rfl, Below.refl _ _⟩
end Go.Proofs.YtdbbjlphlbndkaaDoor
