/-
  arena.Same: slices.EqualFunc at nodes, slices.Equal at pieces.
-/
import Derived.Test.YtihblifkbljgaaaTreeSame2
namespace Go.Proofs.Ytihblifkbljgaaa
open Go.RowKit Go.Shelf

set_option maxRecDepth 20000 in
set_option maxHeartbeats 2000000 in
theorem equal_pcs (a b : Value) (L M : List Piece) (w : World) (hA : Pcs w (Old w) a L) (hB : Pcs w (Old w) b M) :
    Calls Try.prog 72 #[a, b] w fun r w' => r = .returned (.bool (eqB L M)) ∧ Below w.heap.size w w' := by
  obtain ⟨A, c, rfl, hc1, hc2⟩ := hA.value
  obtain ⟨A2, c2, rfl, hd1, hd2⟩ := hB.value
  unfold maxLen at hc2 hd2
  have HA := hidden hA
  have HB := hidden hB
  clear hA hB
  by_cases hlen : L.length = M.length
  · have HT : Hid ((∀ k : Nat, k < L.length → L[k]? = M[k]?) → eqB L M = true) := hidden (fun h => eqB_true (list_ext_of hlen h))
    have HF : Hid ((∃ (k : Nat) (x y : Piece), L[k]? = some x ∧ M[k]? = some y ∧ x ≠ y) → eqB L M = false) := hidden (fun ⟨k, x, y, h1, h2, h3⟩ => eqB_false fun e => by
      subst e
      rw [h1] at h2
      exact h3 (Option.some.inj h2))
    generalize eqB L M = r at *
    have HLM := hidden hlen
    have hlm : L.length ≤ M.length := by omega
    have q0 : ((L.length : Int) != (M.length : Int)) = false := by simp; omega
    clear hlen
    go_enter Try.func72, Try.ntmps72
    go_wp2
    go_loopw [13] (fun kk wr => ∃ k : Nat, k ≤ L.length ∧ kk = .int .i64 k ∧ Hid (∀ j : Nat, j < k → L[j]? = M[j]?) ∧ Below w.heap.size w wr) (fun kk _ => L.length - (intOf kk).toNat)
    case atStart => exact ⟨0, by omega, rfl, hidden (fun j h => by omega), Below.refl _ _⟩
    case round =>
      obtain ⟨k, hk, rfl, HN, hb⟩ := hrel
      by_cases hlt : k < L.length
      · have hk2 : k < M.length := by omega
        obtain ⟨b1, o1, c1', hv1, _, _, _, hat1⟩ := Pcs.open_ (HA.out.below hb (fun _ h => h)) (by intro e; subst e; simp at hlt)
        obtain ⟨b2, o2, c2', hv2, _, _, _, hat2⟩ := Pcs.open_ (HB.out.below hb (fun _ h => h)) (by intro e; subst e; simp at hk2)
        simp only [Value.slice.injEq] at hv1 hv2
        obtain ⟨rfl, _, rfl⟩ := hv1
        obtain ⟨rfl, _, rfl⟩ := hv2
        have hx := List.getElem?_eq_getElem hlt
        have hy := List.getElem?_eq_getElem hk2
        obtain ⟨x0, x1⟩ := hat1 k _ hx
        obtain ⟨y0, y1⟩ := hat2 k _ hy
        generalize L[k] = x at *
        generalize M[k] = y at *
        have HX := hidden hx
        have HY := hidden hy
        clear hx hy hat1 hat2
        have z0 := Ext.cell x0; have z1 := Ext.cell x1
        have z2 := Ext.cell y0; have z3 := Ext.cell y1
        obtain ⟨xt, xs⟩ := x
        obtain ⟨yt, ys⟩ := y
        dsimp only at z0 z1 z2 z3 x0 x1 y0 y1
        have hq := pieces_neq
        go_wp2_with fail
        refine wp_region_ext (by kernel_rfl) (by kernel_rfl) ?_
        repeat (go_big_quiet_step (fail))
        refine wpQuiet_nil ?_
        intro w2 hb2
        clear z0 z1 z2 z3 hq
        clear x0 x1 y0 y1
        replace hb := hb.trans (hb2.mono hb.size)
        by_cases hxy : (⟨xt, xs⟩ : Piece) = ⟨yt, ys⟩
        · have HN2 : Hid (∀ j : Nat, j < k + 1 → L[j]? = M[j]?) := hidden (fun j hj => by
            by_cases e : j = k
            · subst e; rw [HX.out, HY.out, hxy]
            · exact HN.out j (by omega))
          rw [eqB_true hxy]
          clear hxy HN HX HY
          go_wp2
          go_roundw
          case rel => exact ⟨k + 1, by omega, by go_num, HN2, hb⟩
          case measure => simp [intOf]; omega
        · have HE := hidden (HF.out ⟨k, _, _, HX.out, HY.out, hxy⟩)
          rw [eqB_false hxy]
          clear hxy
          go_wp2
          go_ret
          exact ⟨by rw [HE.out]; rfl, hb⟩
      · obtain rfl : k = L.length := by omega
        have HE := hidden (HT.out HN.out)
        go_wp2
        go_ret
        exact ⟨by rw [HE.out]; rfl, hb⟩
  · have q1 : (((L.length : Nat) : Int) != (M.length : Int)) = true := by rw [bne_iff_ne]; omega
    have HE : Hid (eqB L M = false) := hidden (eqB_false (by
      intro e; rw [e] at hlen; exact hlen rfl))
    generalize eqB L M = r at *
    clear hlen
    go_enter Try.func72, Try.ntmps72
    go_wp2
    go_ret
    exact ⟨by rw [HE.out]; rfl, Below.refl _ _⟩

/-- A node's value. -/
abbrev ndVal (x : Node) (l : Value) : Value := .agg #[.int .i64 x.kind, .int .i64 x.n, .int .i64 x.size, l, .string x.text]

set_option maxRecDepth 20000 in
set_option maxHeartbeats 2000000 in
theorem arena_same1 (x y : Node) (l1 l2 : Value) (w : World) (h1 : Pcs w (Old w) l1 x.lead) (h2 : Pcs w (Old w) l2 y.lead) :
    Calls Try.prog 71 #[ndVal x l1, ndVal y l2] w fun r w' => r = .returned (.bool (eqB x y)) ∧ Below w.heap.size w w' := by
  obtain ⟨xk, xn, xs, xl, xt⟩ := x
  obtain ⟨yk, yn, ys, yl, yt⟩ := y
  dsimp only at h1 h2
  have HE : Hid (∀ b : Bool, (xk = yk ∧ xn = yn ∧ xs = ys ∧ xt = yt ∧ xl = yl ↔ b = true) → eqB (⟨xk, xn, xs, xl, xt⟩ : Node) ⟨yk, yn, ys, yl, yt⟩ = b) := hidden (fun b hb => by
    rw [Bool.eq_iff_iff, ← hb, eqB_iff]
    simp only [Node.mk.injEq]
    exact ⟨fun ⟨h1, h2, h3, h4, h5⟩ => ⟨h1, h2, h3, h5, h4⟩, fun ⟨h1, h2, h3, h4, h5⟩ => ⟨h1, h2, h3, h5, h4⟩⟩)
  generalize eqB (⟨xk, xn, xs, xl, xt⟩ : Node) ⟨yk, yn, ys, yl, yt⟩ = r at *
  have HS := hidden (fun (w' : World) (hw : Below w.heap.size w w') => equal_pcs l1 l2 _ _ w' (Rd.mono (Rd.below h1 hw (fun _ h => h)) (fun k hk => Nat.lt_of_lt_of_le hk hw.size)) (Rd.mono (Rd.below h2 hw (fun _ h => h)) (fun k hk => Nat.lt_of_lt_of_le hk hw.size)))
  obtain ⟨A3, c3, rfl, _, _⟩ := h1.value
  obtain ⟨A4, c4, rfl, _, _⟩ := h2.value
  clear h1 h2
  have hs := strs_eql xt yt
  have key : (∃ (q : Bool), ((xk == yk) = false ∧ q = false ∨ (xk == yk) = true ∧ ((xn == yn) = false ∧ q = false ∨ (xn == yn) = true ∧ ((xs == ys) = false ∧ q = false ∨ (xs == ys) = true ∧ ((xt.toList == yt.toList) = false ∧ q = false ∨ (xt.toList == yt.toList) = true ∧ eqB xl yl = q)))) ∧ Hid (r = q)) := by
    by_cases e0 : xk = yk
    · by_cases e1 : xn = yn
      · by_cases e2 : xs = ys
        · by_cases e3 : xt = yt
          · exact ⟨eqB xl yl, .inr ⟨by simp [e0], .inr ⟨by simp [e1], .inr ⟨by simp [e2], .inr ⟨by rw [hs, eqB_true e3], rfl⟩⟩⟩⟩, hidden (HE.out _ (by rw [eqB_iff]; simp [e0, e1, e2, e3]))⟩
          · exact ⟨false, .inr ⟨by simp [e0], .inr ⟨by simp [e1], .inr ⟨by simp [e2], .inl ⟨by rw [hs, eqB_false e3], rfl⟩⟩⟩⟩, hidden (HE.out _ (by simp [e3]))⟩
        · exact ⟨false, .inr ⟨by simp [e0], .inr ⟨by simp [e1], .inl ⟨by simp [e2], rfl⟩⟩⟩, hidden (HE.out _ (by simp [e2]))⟩
      · exact ⟨false, .inr ⟨by simp [e0], .inl ⟨by simp [e1], rfl⟩⟩, hidden (HE.out _ (by simp [e1]))⟩
    · exact ⟨false, .inl ⟨by simp [e0], rfl⟩, hidden (HE.out _ (by simp [e0]))⟩
  obtain ⟨q, hq, HQ⟩ := key
  clear hs HE
  have hb : Below w.heap.size w ((w.alloc (.cells #[.int .i64 xk, .int .i64 xn, .int .i64 xs, .slice A3 xl.length c3, .string xt] 29)).alloc (.cells #[.int .i64 yk, .int .i64 yn, .int .i64 ys, .slice A4 yl.length c4, .string yt] 29)) := (by repeat (first | (with_reducible exact Below.refl _ _) | (with_reducible assumption) | (with_reducible refine Below.drew ?_) | ((with_reducible refine below_alloc ?_ ?_); (focus (first | omega | (simp; done) | (simp; omega)))) | ((with_reducible refine below_set ?_ ?_); (focus (first | omega | (simp; done) | (simp; omega))))))
  rcases hq with ⟨q1, rfl⟩ | ⟨q1, ⟨q2, rfl⟩ | ⟨q2, ⟨q3, rfl⟩ | ⟨q3, ⟨q4, rfl⟩ | ⟨q4, q5⟩⟩⟩⟩
  case inr.inr.inr.inr =>
    rw [q5] at HS
    clear q5
    go_enter Try.func71, Try.ntmps71
    go_wp2_with fail
    refine (HS.out _ hb).mono ?_
    rintro e w2 ⟨rfl, hb2⟩
    go_wp2
    go_ret
    exact ⟨by rw [HQ.out]; rfl, hb.trans (hb2.mono hb.size)⟩
  all_goals
    go_enter Try.func71, Try.ntmps71
    go_wp2
    go_ret
    exact ⟨by rw [HQ.out]; rfl, hb⟩

set_option maxRecDepth 20000 in
set_option maxHeartbeats 4000000 in
theorem equal_func (a b : Value) (L M : List Node) (w : World) (hA : Nds w (Old w) a L) (hB : Nds w (Old w) b M) :
    Calls Try.prog 70 #[a, b, .func (.func 71) #[] #[]] w fun r w' => r = .returned (.bool (eqB L M)) ∧ Below w.heap.size w w' := by
  obtain ⟨A, c, rfl, hc1, hc2⟩ := hA.value
  obtain ⟨A2, c2, rfl, hd1, hd2⟩ := hB.value
  unfold maxLen at hc2 hd2
  have HA := hidden (fun (w' : World) (hw : Below w.heap.size w w') => hA.old hw)
  have HB := hidden (fun (w' : World) (hw : Below w.heap.size w w') => hB.old hw)
  clear hA hB
  by_cases hlen : L.length = M.length
  · have HT : Hid ((∀ k : Nat, k < L.length → L[k]? = M[k]?) → eqB L M = true) := hidden (fun h => eqB_true (list_ext_of hlen h))
    have HF : Hid ((∃ (k : Nat) (x y : Node), L[k]? = some x ∧ M[k]? = some y ∧ x ≠ y) → eqB L M = false) := hidden (fun ⟨k, x, y, h1, h2, h3⟩ => eqB_false fun e => by
      subst e
      rw [h1] at h2
      exact h3 (Option.some.inj h2))
    generalize eqB L M = r at *
    have HLM := hidden hlen
    have hlm : L.length ≤ M.length := by omega
    have q0 : ((L.length : Int) != (M.length : Int)) = false := by simp; omega
    clear hlen
    go_enter Try.func70, Try.ntmps70
    go_wp2
    go_loopw [17] (fun kk wr => ∃ k : Nat, k ≤ L.length ∧ kk = .int .i64 k ∧ Hid (∀ j : Nat, j < k → L[j]? = M[j]?) ∧ Below w.heap.size w wr) (fun kk _ => L.length - (intOf kk).toNat)
    case atStart => exact ⟨0, by omega, rfl, hidden (fun j h => by omega), Below.refl _ _⟩
    case round =>
      obtain ⟨k, hk, rfl, HN, hb⟩ := hrel
      have hbz := hb.size
      by_cases hlt : k < L.length
      · have hk2 : k < M.length := by omega
        obtain ⟨b1, o1, c1', hv1, _, _, f1, hat1⟩ := Nds.open_ (HA.out wr hb) (by intro e; subst e; simp at hlt)
        obtain ⟨b2, o2, c2', hv2, _, _, f2, hat2⟩ := Nds.open_ (HB.out wr hb) (by intro e; subst e; simp at hk2)
        simp only [Value.slice.injEq] at hv1 hv2
        obtain ⟨rfl, _, rfl⟩ := hv1
        obtain ⟨rfl, _, rfl⟩ := hv2
        have hx := List.getElem?_eq_getElem hlt
        have hy := List.getElem?_eq_getElem hk2
        obtain ⟨l1, x0, x1, x2, x3, x4, x5⟩ := hat1 k _ hx
        obtain ⟨l2, y0, y1, y2, y3, y4, y5⟩ := hat2 k _ hy
        generalize L[k] = x at *
        generalize M[k] = y at *
        have HX := hidden hx
        have HY := hidden hy
        have f1' : b1 < wr.heap.size := f1
        have f2' : b2 < wr.heap.size := f2
        have HS := hidden (fun (w' : World) (hw : Below wr.heap.size wr w') => arena_same1 x y l1 l2 w' (Rd.mono (Rd.below x5 hw (fun _ h => h)) (fun k hk => Nat.lt_of_lt_of_le hk hw.size)) (Rd.mono (Rd.below y5 hw (fun _ h => h)) (fun k hk => Nat.lt_of_lt_of_le hk hw.size)))
        obtain ⟨A3, c3, rfl, _, _⟩ := x5.value
        obtain ⟨A4, c4, rfl, _, _⟩ := y5.value
        clear hx hy hat1 hat2 x5 y5 f1 f2
        have hb1 : Below wr.heap.size wr ((wr.alloc (.cells #[.int .i64 x.kind, .int .i64 x.n, .int .i64 x.size, .slice A3 x.lead.length c3, .string x.text] 29)).alloc (.cells #[.int .i64 y.kind, .int .i64 y.n, .int .i64 y.size, .slice A4 y.lead.length c4, .string y.text] 29)) := (by repeat (first | (with_reducible exact Below.refl _ _) | (with_reducible assumption) | (with_reducible refine Below.drew ?_) | ((with_reducible refine below_alloc ?_ ?_); (focus (first | omega | (simp; done) | (simp; omega)))) | ((with_reducible refine below_set ?_ ?_); (focus (first | omega | (simp; done) | (simp; omega))))))
        go_wp2_with fail
        refine (HS.out _ hb1).mono ?_
        rintro e w2 ⟨rfl, hb2⟩
        replace hb := hb.trans ((hb1.trans (hb2.mono hb1.size)).mono hb.size)
        clear x0 x1 x2 x3 x4 y0 y1 y2 y3 y4 hb1 HS hb2
        by_cases hxy : x = y
        · have HN2 : Hid (∀ j : Nat, j < k + 1 → L[j]? = M[j]?) := hidden (fun j hj => by
            by_cases e : j = k
            · subst e; rw [HX.out, HY.out, hxy]
            · exact HN.out j (by omega))
          rw [eqB_true hxy]
          clear hxy HN HX HY
          go_wp2
          go_roundw
          case rel => exact ⟨k + 1, by omega, by go_num, HN2, hb⟩
          case measure => simp [intOf]; omega
        · have HE := hidden (HF.out ⟨k, _, _, HX.out, HY.out, hxy⟩)
          rw [eqB_false hxy]
          clear hxy
          go_wp2
          go_ret
          exact ⟨by rw [HE.out]; rfl, hb⟩
      · obtain rfl : k = L.length := by omega
        have HE := hidden (HT.out HN.out)
        go_wp2
        go_ret
        exact ⟨by rw [HE.out]; rfl, hb⟩
  · have q1 : (((L.length : Nat) : Int) != (M.length : Int)) = true := by rw [bne_iff_ne]; omega
    have HE : Hid (eqB L M = false) := hidden (eqB_false (by
      intro e; rw [e] at hlen; exact hlen rfl))
    generalize eqB L M = r at *
    clear hlen
    go_enter Try.func70, Try.ntmps70
    go_wp2
    go_ret
    exact ⟨by rw [HE.out]; rfl, Below.refl _ _⟩

theorem arena_same (a b : Value) (L M : List Node) (w : World) (hA : Nds w (Old w) a L) (hB : Nds w (Old w) b M) :
    Calls Try.prog 47 #[a, b] w fun r w' => r = .returned (.bool (eqB L M)) ∧ Below w.heap.size w w' := by
  have HS := hidden (equal_func a b L M w hA hB)
  obtain ⟨A, c, rfl, hc1, hc2⟩ := hA.value
  obtain ⟨A2, c2, rfl, hd1, hd2⟩ := hB.value
  unfold maxLen at hc2 hd2
  clear hA hB
  go_enter Try.func47, Try.ntmps47
  go_wp2_with fail
  refine HS.out.mono ?_
  rintro e w2 ⟨rfl, hb2⟩
  go_wp2
  go_ret
  exact ⟨rfl, hb2⟩
end Go.Proofs.Ytihblifkbljgaaa
