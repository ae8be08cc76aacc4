/-
  Are pieces, are nodes the same (the document's answers of layers 16 and 27)?
-/
import Derived.Test.YtihblifkbljgaaaTreeParts
import Derived.Laws.StructEq
namespace Go.Proofs.Ytihblifkbljgaaa
open Go.RowKit Go.Shelf

noncomputable def eqB {α : Type} (a b : α) : Bool := @decide (a = b) (Classical.propDecidable _)
theorem eqB_true {α : Type} {a b : α} (h : a = b) : eqB a b = true := by unfold eqB; exact (@decide_eq_true_iff _ (Classical.propDecidable _)).2 h
theorem eqB_false {α : Type} {a b : α} (h : a ≠ b) : eqB a b = false := by rw [Bool.eq_false_iff]; intro e; unfold eqB at e; exact h ((@decide_eq_true_iff _ (Classical.propDecidable _)).1 e)
theorem eqB_iff {α : Type} {a b : α} : eqB a b = true ↔ a = b := by unfold eqB; exact @decide_eq_true_iff _ (Classical.propDecidable _)
theorem eqB_self {α : Type} (a : α) : eqB a a = true := eqB_true rfl

theorem toList_inj {a b : ByteArray} (h : a.toList = b.toList) : a = b := by
  rw [ByteArray.toList_eq, ByteArray.toList_eq] at h
  cases a; cases b
  simp only [ByteArray.mk.injEq]
  exact Array.toList_inj.1 h
theorem pieces_neq (w : World) (a b : Int) (s r : ByteArray) : (binOp .neq 59 (.agg #[.int .i64 a, .string s]) (.agg #[.int .i64 b, .string r])).run Try.prog w = .ok (.bool (!(eqB (⟨a, s⟩ : Piece) ⟨b, r⟩))) w := by
  have e : eqB (⟨a, s⟩ : Piece) ⟨b, r⟩ = (a == b && s.toList == r.toList) := by
    rw [Bool.eq_iff_iff, eqB_iff]
    simp only [Piece.mk.injEq, Bool.and_eq_true, beq_iff_eq]
    exact ⟨fun h => ⟨h.1, by rw [h.2]⟩, fun h => ⟨h.1, toList_inj h.2⟩⟩
  rw [e, run_neq_struct, run_equalIn_agg _ _ _ _ _ (by kernel_rfl) (by kernel_rfl)]
  have hu0 : Try.prog.underlying 3 = some (.int .i64) := by kernel_rfl
  have hu1 : Try.prog.underlying 9 = some .string := by kernel_rfl
  obtain ⟨f0, f1, hl, n0, n1, o0, o1, t0, t1⟩ : ∃ f0 f1 : Field, (Try.prog.fieldsOf 59).toList = [f0, f1] ∧ f0.name ≠ "_" ∧ f1.name ≠ "_" ∧ f0.offset = 0 ∧ f1.offset = 1 ∧ f0.type = 3 ∧ f1.type = 9 := ⟨_, _, rfl, by decide, by decide, rfl, rfl, rfl, rfl⟩
  rw [hl]
  simp only [Op.eqFields, n0, n1, o0, o1, t0, t1, ne_eq, not_false_eq_true, if_true]
  have p0 : ∀ (x y : Value), (part 3 #[x, y] 0).run Try.prog w = .ok x w := fun x y => by kernel_rfl
  have p1 : ∀ (x y : Value), (part 9 #[x, y] 1).run Try.prog w = .ok y w := fun x y => by kernel_rfl
  simp only [Sem.run_bind, p0, p1, Result.andThen_ok, run_equalIn_int w _ _ _ _ _ _ hu0, run_equalIn_string w _ _ _ _ hu1, Sem.run_ite, Sem.run_pure]
  cases a == b <;> cases s.toList == r.toList <;> simp

theorem list_ext_of {α : Type} {L M : List α} (hl : L.length = M.length) (h : ∀ k, k < L.length → L[k]? = M[k]?) : L = M := by
  apply List.ext_getElem?
  intro k
  by_cases hk : k < L.length
  · exact h k hk
  · rw [List.getElem?_eq_none (by omega), List.getElem?_eq_none (by omega)]

set_option maxRecDepth 20000 in
set_option maxHeartbeats 2000000 in
theorem same_pcs (a b : Value) (L M : List Piece) (w : World) (hA : Pcs w (Old w) a L) (hB : Pcs w (Old w) b M) :
    Calls Try.prog 39 #[a, b] w fun r w' => r = .returned (.bool (eqB L M)) ∧ Below w.heap.size w w' := by
  obtain ⟨A, c, rfl, hc1, hc2⟩ := hA.value
  obtain ⟨A2, c2, rfl, hd1, hd2⟩ := hB.value
  unfold maxLen at hc2 hd2
  have HA := hidden hA
  have HB := hidden hB
  clear hA hB
  by_cases hlen : L.length = M.length
  · have HT : Hid ((∀ k : Nat, k < L.length → L[k]? = M[k]?) → eqB L M = true) := hidden (fun h => eqB_true (list_ext_of hlen h))
    have HF : Hid ((∃ (k : Nat) (x y : Piece), L[k]? = some x ∧ M[k]? = some y ∧ x ≠ y) → eqB L M = false) := hidden (fun ⟨k, x, y, h1, h2, h3⟩ => eqB_false fun e => by
      subst e
      rw [h1] at h2
      exact h3 (Option.some.inj h2))
    generalize eqB L M = r at *
    have HLM := hidden hlen
    have hlm : L.length ≤ M.length := by omega
    have q0 : ((L.length : Int) != (M.length : Int)) = false := by simp; omega
    clear hlen
    go_enter Try.func39, Try.ntmps39
    go_wp2
    go_loopw [5] (fun kk wr => ∃ k : Nat, k ≤ L.length ∧ kk = .int .i64 k ∧ Hid (∀ j : Nat, j < k → L[j]? = M[j]?) ∧ Below w.heap.size w wr) (fun kk _ => L.length - (intOf kk).toNat)
    case atStart => exact ⟨0, by omega, rfl, hidden (fun j h => by omega), Below.refl _ _⟩
    case round =>
      obtain ⟨k, hk, rfl, HN, hb⟩ := hrel
      by_cases hlt : k < L.length
      · have hk2 : k < M.length := by omega
        obtain ⟨b1, o1, c1', hv1, _, _, _, hat1⟩ := Pcs.open_ (HA.out.below hb (fun _ h => h)) (by intro e; subst e; simp at hlt)
        obtain ⟨b2, o2, c2', hv2, _, _, _, hat2⟩ := Pcs.open_ (HB.out.below hb (fun _ h => h)) (by intro e; subst e; simp at hk2)
        simp only [Value.slice.injEq] at hv1 hv2
        obtain ⟨rfl, _, rfl⟩ := hv1
        obtain ⟨rfl, _, rfl⟩ := hv2
        have hx := List.getElem?_eq_getElem hlt
        have hy := List.getElem?_eq_getElem hk2
        obtain ⟨x0, x1⟩ := hat1 k _ hx
        obtain ⟨y0, y1⟩ := hat2 k _ hy
        generalize L[k] = x at *
        generalize M[k] = y at *
        have HX := hidden hx
        have HY := hidden hy
        clear hx hy hat1 hat2
        have z0 := Ext.cell x0; have z1 := Ext.cell x1
        have z2 := Ext.cell y0; have z3 := Ext.cell y1
        obtain ⟨xt, xs⟩ := x
        obtain ⟨yt, ys⟩ := y
        dsimp only at z0 z1 z2 z3 x0 x1 y0 y1
        have hq := pieces_neq
        go_wp2_with fail
        refine wp_region_ext (by kernel_rfl) (by kernel_rfl) ?_
        repeat (go_big_quiet_step (fail))
        refine wpQuiet_nil ?_
        intro w2 hb2
        clear z0 z1 z2 z3 hq
        clear x0 x1 y0 y1
        replace hb := hb.trans (hb2.mono hb.size)
        by_cases hxy : (⟨xt, xs⟩ : Piece) = ⟨yt, ys⟩
        · have HN2 : Hid (∀ j : Nat, j < k + 1 → L[j]? = M[j]?) := hidden (fun j hj => by
            by_cases e : j = k
            · subst e; rw [HX.out, HY.out, hxy]
            · exact HN.out j (by omega))
          rw [eqB_true hxy]
          clear hxy HN HX HY
          go_wp2
          go_roundw
          case rel => exact ⟨k + 1, by omega, by go_num, HN2, hb⟩
          case measure => simp [intOf]; omega
        · have HE := hidden (HF.out ⟨k, _, _, HX.out, HY.out, hxy⟩)
          rw [eqB_false hxy]
          clear hxy
          go_wp2
          go_ret
          exact ⟨by rw [HE.out]; rfl, hb⟩
      · obtain rfl : k = L.length := by omega
        have HE := hidden (HT.out HN.out)
        go_wp2
        go_ret
        exact ⟨by rw [HE.out]; rfl, hb⟩
  · have q1 : (((L.length : Nat) : Int) != (M.length : Int)) = true := by rw [bne_iff_ne]; omega
    have HE : Hid (eqB L M = false) := hidden (eqB_false (by
      intro e; rw [e] at hlen; exact hlen rfl))
    generalize eqB L M = r at *
    clear hlen
    go_enter Try.func39, Try.ntmps39
    go_wp2
    go_ret
    exact ⟨by rw [HE.out]; rfl, Below.refl _ _⟩
end Go.Proofs.Ytihblifkbljgaaa
