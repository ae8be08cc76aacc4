/-
  gram.Same.
-/
import Derived.Test.YtaagkbgbghleiaaGramSame2
namespace Go.Proofs.Ytaagkbgbghleiaa
open Go.RowKit Go.Shelf

set_option maxRecDepth 20000 in
set_option maxHeartbeats 2000000 in
theorem gram_same1 (x y : Token) (l1 l2 : Value) (w : World) (h1 : Rd w (Old w) 5 l1 x.rex.length (x.rex.flatMap rxCells)) (h2 : Rd w (Old w) 5 l2 y.rex.length (y.rex.flatMap rxCells)) :
    Calls Try.prog 79 #[.agg #[.string x.name, l1, .int .i64 x.cls], .agg #[.string y.name, l2, .int .i64 y.cls]] w fun r w' => r = .returned (.bool (eqB x y)) ∧ Below w.heap.size w w' := by
  obtain ⟨n1, r1, c1⟩ := x
  obtain ⟨n2, r2, c2⟩ := y
  dsimp only at h1 h2 ⊢
  have hal : Below w.heap.size w ((w.alloc (.cells #[.string n1, l1, .int .i64 c1] 47)).alloc (.cells #[.string n2, l2, .int .i64 c2] 47)) := ((Below.refl _ _).alloc (Nat.le_refl _) _).alloc (by simp) _
  have HS := hidden (rx_same l1 l2 r1 r2 _ (h1.old hal) (h2.old hal))
  have HE : Hid (eqB (⟨n1, r1, c1⟩ : Token) ⟨n2, r2, c2⟩ = (eqB n1 n2 && (c1 == c2 && eqB r1 r2))) := hidden (by
    rw [Bool.eq_iff_iff, eqB_iff]
    simp only [Token.mk.injEq, Bool.and_eq_true, beq_iff_eq, eqB_iff]
    exact ⟨fun h => ⟨h.1, h.2.2, h.2.1⟩, fun h => ⟨h.1, h.2.2, h.2.1⟩⟩)
  obtain ⟨A1, k1, rfl, _, _⟩ := h1.val
  obtain ⟨A2, k2, rfl, _, _⟩ := h2.val
  have hsq := strs_eql n1 n2
  generalize eqB r1 r2 = er at *
  generalize eqB n1 n2 = en at *
  clear h1 h2
  cases en
  · go_enter Try.func79, Try.ntmps79
    go_wp2
    go_ret
    exact ⟨by rw [HE.out]; rfl, hal⟩
  · cases hc : (c1 == c2)
    · rw [hc] at HE
      go_enter Try.func79, Try.ntmps79
      go_wp2
      go_ret
      exact ⟨by rw [HE.out]; rfl, hal⟩
    · rw [hc] at HE
      go_enter Try.func79, Try.ntmps79
      go_wp2_with fail
      refine HS.out.mono ?_
      rintro r w1 ⟨rfl, hb⟩
      go_wp2
      go_ret
      exact ⟨by rw [HE.out]; simp, hal.trans (hb.mono hal.size)⟩

set_option maxRecDepth 20000 in
set_option maxHeartbeats 2000000 in
theorem gram_same2 (x y : Prod) (l1 l2 : Value) (w : World) (h1 : Rd w (Old w) 4 l1 x.right.length (x.right.flatMap itCells)) (h2 : Rd w (Old w) 4 l2 y.right.length (y.right.flatMap itCells)) :
    Calls Try.prog 81 #[.agg #[.int .i64 x.left, l1], .agg #[.int .i64 y.left, l2]] w fun r w' => r = .returned (.bool (eqB x y)) ∧ Below w.heap.size w w' := by
  obtain ⟨c1, r1⟩ := x
  obtain ⟨c2, r2⟩ := y
  dsimp only at h1 h2 ⊢
  have hal : Below w.heap.size w ((w.alloc (.cells #[.int .i64 c1, l1] 56)).alloc (.cells #[.int .i64 c2, l2] 56)) := ((Below.refl _ _).alloc (Nat.le_refl _) _).alloc (by simp) _
  have HS := hidden (equal_items l1 l2 r1 r2 _ (h1.old hal) (h2.old hal))
  have HE : Hid (eqB (⟨c1, r1⟩ : Prod) ⟨c2, r2⟩ = (c1 == c2 && eqB r1 r2)) := hidden (by
    rw [Bool.eq_iff_iff, eqB_iff]
    simp only [Prod.mk.injEq, Bool.and_eq_true, beq_iff_eq, eqB_iff])
  obtain ⟨A1, k1, rfl, _, _⟩ := h1.val
  obtain ⟨A2, k2, rfl, _, _⟩ := h2.val
  generalize eqB r1 r2 = er at *
  clear h1 h2
  cases hc : (c1 == c2)
  · rw [hc] at HE
    go_enter Try.func81, Try.ntmps81
    go_wp2
    go_ret
    exact ⟨by rw [HE.out]; rfl, hal⟩
  · rw [hc] at HE
    go_enter Try.func81, Try.ntmps81
    go_wp2_with fail
    refine HS.out.mono ?_
    rintro r w1 ⟨rfl, hb⟩
    go_wp2
    go_ret
    exact ⟨by rw [HE.out]; simp, hal.trans (hb.mono hal.size)⟩

set_option maxRecDepth 20000 in
set_option maxHeartbeats 4000000 in
theorem eqf_tok (a b : Value) (L M : List Token) (w : World) (hA : Recs tokR w (Old w) a L) (hB : Recs tokR w (Old w) b M) :
    Calls Try.prog 83 #[a, b, .func (.func 79) #[] #[]] w fun r w' => r = .returned (.bool (eqB L M)) ∧ Below w.heap.size w w' := by
  obtain ⟨A, c, rfl, hc1, hc2⟩ := hA.value
  obtain ⟨A2, c2, rfl, hd1, hd2⟩ := hB.value
  unfold maxLen at hc2 hd2
  have HA := hidden (fun (w' : World) (hw : Below w.heap.size w w') => hA.old hw)
  have HB := hidden (fun (w' : World) (hw : Below w.heap.size w w') => hB.old hw)
  clear hA hB
  by_cases hlen : L.length = M.length
  · have HT := hidden (@eqB_list _ L M hlen)
    have HF := hidden (fun k x y => @eqB_at _ L M k x y)
    generalize eqB L M = r at *
    have hlm : L.length ≤ M.length := by omega
    have q0 : ((L.length : Int) != (M.length : Int)) = false := by simp; omega
    clear hlen
    go_enter Try.func83, Try.ntmps83
    go_wp2
    go_loopw [17] (fun kk wr => ∃ k : Nat, k ≤ L.length ∧ kk = .int .i64 k ∧ Hid (∀ j : Nat, j < k → L[j]? = M[j]?) ∧ Below w.heap.size w wr) (fun kk _ => L.length - (intOf kk).toNat)
    case atStart => exact ⟨0, by omega, rfl, hidden (fun j h => by omega), Below.refl _ _⟩
    case round =>
      obtain ⟨k, hk, rfl, HN, hb⟩ := hrel
      have hbz := hb.size
      by_cases hlt : k < L.length
      · have hk2 : k < M.length := by omega
        have hx := List.getElem?_eq_getElem hlt
        have hy := List.getElem?_eq_getElem hk2
        generalize L[k] = x at *
        generalize M[k] = y at *
        obtain ⟨b1, o1, l1, rfl, f1, hat1, x5⟩ := (HA.out wr hb).at_ hx
        obtain ⟨b2, o2, l2, rfl, f2, hat2, y5⟩ := (HB.out wr hb).at_ hy
        have HX := hidden hx
        have HY := hidden hy
        have f1' : b1 < wr.heap.size := f1
        have f2' : b2 < wr.heap.size := f2
        have x0 := hat1 0 _ rfl
        have x1 := hat1 1 _ rfl
        have x2 := hat1 2 _ rfl
        have y0 := hat2 0 _ rfl
        have y1 := hat2 1 _ rfl
        have y2 := hat2 2 _ rfl
        rw [Nat.add_zero] at x0 y0
        rw [show tokR.k = 3 from rfl] at x0 y0 x1 y1 x2 y2
        have HS := hidden (fun (w' : World) (hw : Below wr.heap.size wr w') => gram_same1 x y l1 l2 w' (Rd.old x5 hw) (Rd.old y5 hw))
        obtain ⟨A3, c3, rfl, _, _⟩ := x5.val
        obtain ⟨A4, c4, rfl, _, _⟩ := y5.val
        clear hx hy hat1 hat2 x5 y5 f1 f2
        have hb1 : Below wr.heap.size wr ((wr.alloc (.cells #[.string x.name, .slice A3 (tokR.m x) c3, .int .i64 x.cls] 47)).alloc (.cells #[.string y.name, .slice A4 (tokR.m y) c4, .int .i64 y.cls] 47)) := (by repeat (first | (with_reducible exact Below.refl _ _) | (with_reducible assumption) | (with_reducible refine Below.drew ?_) | (with_reducible refine below_drewN ?_ _) | ((with_reducible refine below_alloc ?_ ?_); (focus (first | omega | (simp; done) | (simp; omega)))) | ((with_reducible refine below_set ?_ ?_); (focus (first | omega | (simp; done) | (simp; omega))))))
        go_wp2_with fail
        refine (HS.out _ hb1).mono ?_
        rintro e w2 ⟨rfl, hb2⟩
        replace hb := hb.trans ((hb1.trans (hb2.mono hb1.size)).mono hb.size)
        clear x0 y0 x1 y1 x2 y2 hb1 HS hb2
        by_cases hxy : x = y
        · have HN2 : Hid (∀ j : Nat, j < k + 1 → L[j]? = M[j]?) := hidden (fun j hj => by
            by_cases e : j = k
            · subst e; rw [HX.out, HY.out, hxy]
            · exact HN.out j (by omega))
          rw [eqB_true hxy]
          clear hxy HN HX HY
          go_wp2
          go_roundw
          case rel => exact ⟨k + 1, by omega, by go_num, HN2, hb⟩
          case measure => simp [intOf]; omega
        · have HE := hidden (HF.out k _ _ HX.out HY.out hxy)
          rw [eqB_false hxy]
          clear hxy
          go_wp2
          go_ret
          exact ⟨by rw [HE.out]; rfl, hb⟩
      · obtain rfl : k = L.length := by omega
        have HE := hidden (HT.out HN.out)
        go_wp2
        go_ret
        exact ⟨by rw [HE.out]; rfl, hb⟩
  · have q1 : (((L.length : Nat) : Int) != (M.length : Int)) = true := by rw [bne_iff_ne]; omega
    have HE : Hid (eqB L M = false) := hidden (eqB_false (by
      intro e; rw [e] at hlen; exact hlen rfl))
    generalize eqB L M = r at *
    clear hlen
    go_enter Try.func83, Try.ntmps83
    go_wp2
    go_ret
    exact ⟨by rw [HE.out]; rfl, Below.refl _ _⟩

set_option maxRecDepth 20000 in
set_option maxHeartbeats 4000000 in
theorem eqf_prod (a b : Value) (L M : List Prod) (w : World) (hA : Recs prodR w (Old w) a L) (hB : Recs prodR w (Old w) b M) :
    Calls Try.prog 85 #[a, b, .func (.func 81) #[] #[]] w fun r w' => r = .returned (.bool (eqB L M)) ∧ Below w.heap.size w w' := by
  obtain ⟨A, c, rfl, hc1, hc2⟩ := hA.value
  obtain ⟨A2, c2, rfl, hd1, hd2⟩ := hB.value
  unfold maxLen at hc2 hd2
  have HA := hidden (fun (w' : World) (hw : Below w.heap.size w w') => hA.old hw)
  have HB := hidden (fun (w' : World) (hw : Below w.heap.size w w') => hB.old hw)
  clear hA hB
  by_cases hlen : L.length = M.length
  · have HT := hidden (@eqB_list _ L M hlen)
    have HF := hidden (fun k x y => @eqB_at _ L M k x y)
    generalize eqB L M = r at *
    have hlm : L.length ≤ M.length := by omega
    have q0 : ((L.length : Int) != (M.length : Int)) = false := by simp; omega
    clear hlen
    go_enter Try.func85, Try.ntmps85
    go_wp2
    go_loopw [17] (fun kk wr => ∃ k : Nat, k ≤ L.length ∧ kk = .int .i64 k ∧ Hid (∀ j : Nat, j < k → L[j]? = M[j]?) ∧ Below w.heap.size w wr) (fun kk _ => L.length - (intOf kk).toNat)
    case atStart => exact ⟨0, by omega, rfl, hidden (fun j h => by omega), Below.refl _ _⟩
    case round =>
      obtain ⟨k, hk, rfl, HN, hb⟩ := hrel
      have hbz := hb.size
      by_cases hlt : k < L.length
      · have hk2 : k < M.length := by omega
        have hx := List.getElem?_eq_getElem hlt
        have hy := List.getElem?_eq_getElem hk2
        generalize L[k] = x at *
        generalize M[k] = y at *
        obtain ⟨b1, o1, l1, rfl, f1, hat1, x5⟩ := (HA.out wr hb).at_ hx
        obtain ⟨b2, o2, l2, rfl, f2, hat2, y5⟩ := (HB.out wr hb).at_ hy
        have HX := hidden hx
        have HY := hidden hy
        have f1' : b1 < wr.heap.size := f1
        have f2' : b2 < wr.heap.size := f2
        have x0 := hat1 0 _ rfl
        have x1 := hat1 1 _ rfl
        have y0 := hat2 0 _ rfl
        have y1 := hat2 1 _ rfl
        rw [Nat.add_zero] at x0 y0
        rw [show prodR.k = 2 from rfl] at x0 y0 x1 y1
        have HS := hidden (fun (w' : World) (hw : Below wr.heap.size wr w') => gram_same2 x y l1 l2 w' (Rd.old x5 hw) (Rd.old y5 hw))
        obtain ⟨A3, c3, rfl, _, _⟩ := x5.val
        obtain ⟨A4, c4, rfl, _, _⟩ := y5.val
        clear hx hy hat1 hat2 x5 y5 f1 f2
        have hb1 : Below wr.heap.size wr ((wr.alloc (.cells #[.int .i64 x.left, .slice A3 (prodR.m x) c3] 56)).alloc (.cells #[.int .i64 y.left, .slice A4 (prodR.m y) c4] 56)) := (by repeat (first | (with_reducible exact Below.refl _ _) | (with_reducible assumption) | (with_reducible refine Below.drew ?_) | (with_reducible refine below_drewN ?_ _) | ((with_reducible refine below_alloc ?_ ?_); (focus (first | omega | (simp; done) | (simp; omega)))) | ((with_reducible refine below_set ?_ ?_); (focus (first | omega | (simp; done) | (simp; omega))))))
        go_wp2_with fail
        refine (HS.out _ hb1).mono ?_
        rintro e w2 ⟨rfl, hb2⟩
        replace hb := hb.trans ((hb1.trans (hb2.mono hb1.size)).mono hb.size)
        clear x0 y0 x1 y1 hb1 HS hb2
        by_cases hxy : x = y
        · have HN2 : Hid (∀ j : Nat, j < k + 1 → L[j]? = M[j]?) := hidden (fun j hj => by
            by_cases e : j = k
            · subst e; rw [HX.out, HY.out, hxy]
            · exact HN.out j (by omega))
          rw [eqB_true hxy]
          clear hxy HN HX HY
          go_wp2
          go_roundw
          case rel => exact ⟨k + 1, by omega, by go_num, HN2, hb⟩
          case measure => simp [intOf]; omega
        · have HE := hidden (HF.out k _ _ HX.out HY.out hxy)
          rw [eqB_false hxy]
          clear hxy
          go_wp2
          go_ret
          exact ⟨by rw [HE.out]; rfl, hb⟩
      · obtain rfl : k = L.length := by omega
        have HE := hidden (HT.out HN.out)
        go_wp2
        go_ret
        exact ⟨by rw [HE.out]; rfl, hb⟩
  · have q1 : (((L.length : Nat) : Int) != (M.length : Int)) = true := by rw [bne_iff_ne]; omega
    have HE : Hid (eqB L M = false) := hidden (eqB_false (by
      intro e; rw [e] at hlen; exact hlen rfl))
    generalize eqB L M = r at *
    clear hlen
    go_enter Try.func85, Try.ntmps85
    go_wp2
    go_ret
    exact ⟨by rw [HE.out]; rfl, Below.refl _ _⟩

set_option maxRecDepth 20000 in
set_option maxHeartbeats 2000000 in
theorem equal_strs (a b : Value) (L M : List ByteArray) (w : World) (hA : Strs w (Old w) a L) (hB : Strs w (Old w) b M) :
    Calls Try.prog 84 #[a, b] w fun r w' => r = .returned (.bool (eqB L M)) ∧ Below w.heap.size w w' := by
  obtain ⟨A, c, rfl, hc1, hc2⟩ := hA.val
  obtain ⟨A2, c2, rfl, hd1, hd2⟩ := hB.val
  unfold maxLen at hc2 hd2
  have HA := hidden (fun (w' : World) (hw : Below w.heap.size w w') => Rd.old hA hw)
  have HB := hidden (fun (w' : World) (hw : Below w.heap.size w w') => Rd.old hB hw)
  clear hA hB
  by_cases hlen : L.length = M.length
  · have HT := hidden (@eqB_list _ L M hlen)
    have HF := hidden (fun k x y => @eqB_at _ L M k x y)
    generalize eqB L M = r at *
    have hlm : L.length ≤ M.length := by omega
    have q0 : ((L.length : Int) != (M.length : Int)) = false := by simp; omega
    clear hlen
    go_enter Try.func84, Try.ntmps84
    go_wp2
    go_loopw [13] (fun kk wr => ∃ k : Nat, k ≤ L.length ∧ kk = .int .i64 k ∧ Hid (∀ j : Nat, j < k → L[j]? = M[j]?) ∧ Below w.heap.size w wr) (fun kk _ => L.length - (intOf kk).toNat)
    case atStart => exact ⟨0, by omega, rfl, hidden (fun j h => by omega), Below.refl _ _⟩
    case round =>
      obtain ⟨k, hk, rfl, HN, hb⟩ := hrel
      by_cases hlt : k < L.length
      · have hk2 : k < M.length := by omega
        have hx := List.getElem?_eq_getElem hlt
        have hy := List.getElem?_eq_getElem hk2
        generalize L[k] = x at *
        generalize M[k] = y at *
        obtain ⟨b1, o1, rfl, _, x0⟩ := strs_at (HA.out _ hb) hx
        obtain ⟨b2, o2, rfl, _, y0⟩ := strs_at (HB.out _ hb) hy
        have HX := hidden hx
        have HY := hidden hy
        clear hx hy
        have z0 := Ext.cell x0; have z1 := Ext.cell y0
        have hs := strs_eql x y
        go_wp2_with fail
        refine wp_region_ext (by kernel_rfl) (by kernel_rfl) ?_
        repeat (go_big_quiet_step (fail))
        refine wpQuiet_nil ?_
        intro w2 hb2
        clear z0 z1 x0 y0
        replace hb := hb.trans (hb2.mono hb.size)
        by_cases hxy : x = y
        · have HN2 : Hid (∀ j : Nat, j < k + 1 → L[j]? = M[j]?) := hidden (fun j hj => by
            by_cases e : j = k
            · subst e; rw [HX.out, HY.out, hxy]
            · exact HN.out j (by omega))
          rw [eqB_true hxy]
          clear hxy HN HX HY hs
          go_wp2
          go_roundw
          case rel => exact ⟨k + 1, by omega, by go_num, HN2, hb⟩
          case measure => simp [intOf]; omega
        · have HE := hidden (HF.out k _ _ HX.out HY.out hxy)
          rw [eqB_false hxy]
          clear hxy hs
          go_wp2
          go_ret
          exact ⟨by rw [HE.out]; rfl, hb⟩
      · obtain rfl : k = L.length := by omega
        have HE := hidden (HT.out HN.out)
        go_wp2
        go_ret
        exact ⟨by rw [HE.out]; rfl, hb⟩
  · have q1 : (((L.length : Nat) : Int) != (M.length : Int)) = true := by rw [bne_iff_ne]; omega
    have HE : Hid (eqB L M = false) := hidden (eqB_false (by
      intro e; rw [e] at hlen; exact hlen rfl))
    generalize eqB L M = r at *
    clear hlen
    go_enter Try.func84, Try.ntmps84
    go_wp2
    go_ret
    exact ⟨by rw [HE.out]; rfl, Below.refl _ _⟩

set_option maxRecDepth 20000 in
set_option maxHeartbeats 4000000 in
theorem gram_Same (a b c a' b' c' : Value) (g h : Gram) (w : World) (HG : GramIs w (Old w) a b c g) (HH : GramIs w (Old w) a' b' c' h) :
    Calls Try.prog 41 #[.agg (gramCells a b c g), .agg (gramCells a' b' c' h)] w fun r w' => r = .returned (.bool (eqB g h)) ∧ Below w.heap.size w w' := by
  have H1 := hidden (fun (w' : World) (hb : Below w.heap.size w w') => eqf_tok a a' _ _ w' (HG.old hb).1 (HH.old hb).1)
  have H2 := hidden (fun (w' : World) (hb : Below w.heap.size w w') => equal_strs b b' _ _ w' (HG.old hb).2.1 (HH.old hb).2.1)
  have H3 := hidden (fun (w' : World) (hb : Below w.heap.size w w') => eqf_prod c c' _ _ w' (HG.old hb).2.2 (HH.old hb).2.2)
  obtain ⟨⟨A1, k1, rfl, v1, m1⟩, ⟨A2, k2, rfl, v2, m2⟩, ⟨A3, k3, rfl, v3, m3⟩⟩ := HG.vals
  obtain ⟨⟨E1, l1, rfl, y1, n1⟩, ⟨E2, l2, rfl, y2, n2⟩, ⟨E3, l3, rfl, y3, n3⟩⟩ := HH.vals
  clear HG HH
  rw [gram_eq]
  unfold gramCells
  obtain ⟨tk, ru, pr, g4, g5, g6, g7, g8⟩ := g
  obtain ⟨tk', ru', pr', h4, h5, h6, h7, h8⟩ := h
  dsimp only at *
  generalize eqB tk tk' = et at *
  generalize eqB ru ru' = er at *
  generalize eqB pr pr' = ep at *
  have hb := Below.refl w.heap.size w
  cases et
  · rw [Bool.false_and]
    go_enter Try.func41, Try.ntmps41
    go_wp2_with fail
    refine (H1.out _ ?_).mono ?_
    · exact (by repeat (first | (with_reducible exact Below.refl _ _) | (with_reducible assumption) | (with_reducible refine Below.drew ?_) | (with_reducible refine below_drewN ?_ _) | ((with_reducible refine below_alloc ?_ ?_); (focus (first | omega | (simp; done) | (simp; omega)))) | ((with_reducible refine below_set ?_ ?_); (focus (first | omega | (simp; done) | (simp; omega))))))
    rintro r w2 ⟨rfl, hb2⟩
    have hbw : Below w.heap.size w w2 := Below.trans (by repeat (first | (with_reducible exact Below.refl _ _) | (with_reducible assumption) | (with_reducible refine Below.drew ?_) | (with_reducible refine below_drewN ?_ _) | ((with_reducible refine below_alloc ?_ ?_); (focus (first | omega | (simp; done) | (simp; omega)))) | ((with_reducible refine below_set ?_ ?_); (focus (first | omega | (simp; done) | (simp; omega)))))) (hb2.mono (by simp; omega))
    clear hb2
    go_wp2
    go_ret
    exact ⟨rfl, hbw⟩
  cases er
  · rw [Bool.false_and, Bool.and_false]
    go_enter Try.func41, Try.ntmps41
    go_wp2_with fail
    refine (H1.out _ ?_).mono ?_
    · exact (by repeat (first | (with_reducible exact Below.refl _ _) | (with_reducible assumption) | (with_reducible refine Below.drew ?_) | (with_reducible refine below_drewN ?_ _) | ((with_reducible refine below_alloc ?_ ?_); (focus (first | omega | (simp; done) | (simp; omega)))) | ((with_reducible refine below_set ?_ ?_); (focus (first | omega | (simp; done) | (simp; omega))))))
    rintro r w2 ⟨rfl, hb2⟩
    have HB1 := hidden (Holds.below (show Holds _ w.heap.size 36 #[.slice A1 tk.length k1, .slice A2 ru.length k2, .slice A3 pr.length k3, .int .i64 g4, .int .i64 g5, .int .i64 g6, .int .i64 g7, .int .i64 g8] from (by repeat (first | (with_reducible assumption) | ((with_reducible refine holds_new ?_); (focus (first | rfl | (simp; done)))) | (with_reducible refine Holds.alloc ?_ _) | (with_reducible refine Holds.drew ?_)))) hb2 (by simp; omega))
    have HB2 := hidden (Holds.below (show Holds _ (w.heap.size + 1) 36 #[.slice E1 tk'.length l1, .slice E2 ru'.length l2, .slice E3 pr'.length l3, .int .i64 h4, .int .i64 h5, .int .i64 h6, .int .i64 h7, .int .i64 h8] from (by repeat (first | (with_reducible assumption) | ((with_reducible refine holds_new ?_); (focus (first | rfl | (simp; done)))) | (with_reducible refine Holds.alloc ?_ _) | (with_reducible refine Holds.drew ?_)))) hb2 (by simp))
    have hbw : Below w.heap.size w w2 := Below.trans (by repeat (first | (with_reducible exact Below.refl _ _) | (with_reducible assumption) | (with_reducible refine Below.drew ?_) | (with_reducible refine below_drewN ?_ _) | ((with_reducible refine below_alloc ?_ ?_); (focus (first | omega | (simp; done) | (simp; omega)))) | ((with_reducible refine below_set ?_ ?_); (focus (first | omega | (simp; done) | (simp; omega)))))) (hb2.mono (by simp; omega))
    obtain ⟨s0, s1, s2, s3, s4, s5, s6, s7⟩ := eight HB1.out
    obtain ⟨t0, t1, t2, t3, t4, t5, t6, t7⟩ := eight HB2.out
    clear hb2
    go_wp2_with fail
    refine (H2.out _ hbw).mono ?_
    rintro r w3 ⟨rfl, hb3⟩
    replace hbw := hbw.trans (hb3.mono hbw.size)
    clear hb3
    go_wp2
    go_ret
    exact ⟨rfl, hbw⟩
  go_enter Try.func41, Try.ntmps41
  go_wp2_with fail
  refine (H1.out _ ?_).mono ?_
  · exact (by repeat (first | (with_reducible exact Below.refl _ _) | (with_reducible assumption) | (with_reducible refine Below.drew ?_) | (with_reducible refine below_drewN ?_ _) | ((with_reducible refine below_alloc ?_ ?_); (focus (first | omega | (simp; done) | (simp; omega)))) | ((with_reducible refine below_set ?_ ?_); (focus (first | omega | (simp; done) | (simp; omega))))))
  rintro r w2 ⟨rfl, hb2⟩
  have HB1 := hidden (Holds.below (show Holds _ w.heap.size 36 #[.slice A1 tk.length k1, .slice A2 ru.length k2, .slice A3 pr.length k3, .int .i64 g4, .int .i64 g5, .int .i64 g6, .int .i64 g7, .int .i64 g8] from (by repeat (first | (with_reducible assumption) | ((with_reducible refine holds_new ?_); (focus (first | rfl | (simp; done)))) | (with_reducible refine Holds.alloc ?_ _) | (with_reducible refine Holds.drew ?_)))) hb2 (by simp; omega))
  have HB2 := hidden (Holds.below (show Holds _ (w.heap.size + 1) 36 #[.slice E1 tk'.length l1, .slice E2 ru'.length l2, .slice E3 pr'.length l3, .int .i64 h4, .int .i64 h5, .int .i64 h6, .int .i64 h7, .int .i64 h8] from (by repeat (first | (with_reducible assumption) | ((with_reducible refine holds_new ?_); (focus (first | rfl | (simp; done)))) | (with_reducible refine Holds.alloc ?_ _) | (with_reducible refine Holds.drew ?_)))) hb2 (by simp))
  have hbw : Below w.heap.size w w2 := Below.trans (by repeat (first | (with_reducible exact Below.refl _ _) | (with_reducible assumption) | (with_reducible refine Below.drew ?_) | (with_reducible refine below_drewN ?_ _) | ((with_reducible refine below_alloc ?_ ?_); (focus (first | omega | (simp; done) | (simp; omega)))) | ((with_reducible refine below_set ?_ ?_); (focus (first | omega | (simp; done) | (simp; omega)))))) (hb2.mono (by simp; omega))
  obtain ⟨s0, s1, s2, s3, s4, s5, s6, s7⟩ := eight HB1.out
  obtain ⟨t0, t1, t2, t3, t4, t5, t6, t7⟩ := eight HB2.out
  have hz2 : w.heap.size + 2 ≤ w2.heap.size := by have := hb2.size; simp at this; omega
  clear hb2
  go_wp2_with fail
  refine (H2.out _ hbw).mono ?_
  rintro r w3 ⟨rfl, hb3⟩
  replace HB1 := hidden (HB1.out.below hb3 (by omega))
  replace HB2 := hidden (HB2.out.below hb3 (by omega))
  have hz3 := hb3.size
  replace hbw := hbw.trans (hb3.mono hbw.size)
  clear hb3 s0 s1 s2 s3 s4 s5 s6 s7 t0 t1 t2 t3 t4 t5 t6 t7
  obtain ⟨s0, s1, s2, s3, s4, s5, s6, s7⟩ := eight HB1.out
  obtain ⟨t0, t1, t2, t3, t4, t5, t6, t7⟩ := eight HB2.out
  go_wp2_with fail
  refine (H3.out _ hbw).mono ?_
  rintro r w4 ⟨rfl, hb4⟩
  replace HB1 := hidden (HB1.out.below hb4 (by omega))
  replace HB2 := hidden (HB2.out.below hb4 (by omega))
  replace hbw := hbw.trans (hb4.mono hbw.size)
  clear hb4 s0 s1 s2 s3 s4 s5 s6 s7 t0 t1 t2 t3 t4 t5 t6 t7
  cases ep
  · go_wp2
    go_ret
    exact ⟨by simp, hbw⟩
  obtain ⟨s0, s1, s2, s3, s4, s5, s6, s7⟩ := eight HB1.out
  obtain ⟨t0, t1, t2, t3, t4, t5, t6, t7⟩ := eight HB2.out
  obtain ⟨res, hres⟩ : ∃ r : Bool, r = (g4 == h4 && (g5 == h5 && (g6 == h6 && (g7 == h7 && g8 == h8)))) := ⟨_, rfl⟩
  have HR5 := hidden hres
  have HRE : Hid ((true && (true && (true && (g4 == h4 && (g5 == h5 && (g6 == h6 && (g7 == h7 && g8 == h8))))))) = res) := hidden (by rw [hres]; rfl)
  clear hres
  cases d4 : (g4 == h4)
  · have HE : Hid (res = false) := hidden (by rw [HR5.out, d4]; rfl)
    rw [d4] at HRE
    go_wp2
    go_ret
    exact ⟨by rw [d4]; rfl, hbw⟩
  cases d5 : (g5 == h5)
  · go_wp2
    go_ret
    exact ⟨by rw [d4, d5]; rfl, hbw⟩
  cases d6 : (g6 == h6)
  · go_wp2
    go_ret
    exact ⟨by rw [d4, d5, d6]; rfl, hbw⟩
  cases d7 : (g7 == h7)
  · go_wp2
    go_ret
    exact ⟨by rw [d4, d5, d6, d7]; rfl, hbw⟩
  go_wp2
  go_ret
  exact ⟨by rw [d4, d5, d6, d7]; rfl, hbw⟩
end Go.Proofs.Ytaagkbgbghleiaa
