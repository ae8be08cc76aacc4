/-
  Rows of values of one cell: read, and the call's own; append of one. Over any program. And rows of whole numbers compared.
-/
import Derived.Test.YtaagkbgbghleiaaAppend
namespace Go.Proofs.Ytaagkbgbghleiaa
open Go.RowKit Go.Shelf

def one1 {α : Type} (enc : α → Value) (x : α) : List Value := [enc x]
/-- v reads as the values l. -/
abbrev Row {α : Type} (enc : α → Value) (w : World) (T : Nat → Prop) (v : Value) (l : List α) : Prop := Rd w T 1 v l.length (l.flatMap (one1 enc))
/-- Values of the call's own. -/
abbrev RowM {α : Type} (enc : α → Value) (e : TypeId) (w : World) (base : Nat) (v : Value) (l : List α) : Prop := Mine w base e 1 v l.length (l.flatMap (one1 enc))
section
variable {α : Type} {enc : α → Value}
theorem row_at {w : World} {T : Nat → Prop} {A : Option Addr} {n c : Nat} {l : List α} (h : Rd w T 1 (.slice A n c) n (l.flatMap (one1 enc))) {i : Nat} {x : α} (hx : l[i]? = some x) : ∃ b off, A = some ⟨b, off, none⟩ ∧ T b ∧ w.cell? ⟨b, off + i, none⟩ = some (enc x) := by
  obtain ⟨b, off, e, hT, hc⟩ := Rd.flat_at (f := one1 enc) h (fun _ => rfl) (by decide) hx
  have := hc 0 _ rfl
  rw [Nat.mul_one, Nat.add_zero] at this
  exact ⟨b, off, e, hT, this⟩
theorem RowM.rd {e : TypeId} {w : World} {base : Nat} {v : Value} {l : List α} (h : RowM enc e w base v l) : Row enc w (Old w) v l := Mine.rd h (fun _ _ _ h => h)
theorem RowM.nil (enc : α → Value) (e : TypeId) (w : World) (base : Nat) : RowM enc e w base (.slice none 0 0) [] := Mine.nil _ _ _ _
theorem RowM.made {w : World} {base : Nat} {e : TypeId} {o : Nat} (l : List α) (cs : Array Value) (hcs : cs.toList = l.flatMap (one1 enc)) (hn : l.length ≤ maxLen) (ho : o = w.heap.size) (hb : base ≤ w.heap.size) :
    RowM enc e (w.alloc (.cells cs e)) base (.slice (some ⟨o, 0, none⟩) l.length l.length) l := by
  subst ho
  have hl : (l.flatMap (one1 enc)).length = l.length * 1 := flat_len _ 1 (fun _ => rfl) l
  refine .inl ⟨hl, .inr ⟨w.heap.size, l.length, cs, rfl, hb, Holds.new w e _, Nat.le_refl _, hn, by rw [← Array.length_toList, hcs, hl], ?_⟩⟩
  rw [hcs, List.take_of_length_le (by omega)]

/-- One value is put behind the call's own. -/
theorem wpList_append_row {P : Program} {w W0 : World} {ops : Array Oper} {rest : List Oper} {o : Oper} {a : Act} {Q : Exit → Act → World → Prop} (hgd : o.guard = none) (s x : Operand) (t e e' : TypeId)
    (ho : o.op = .call { callee := .builtin .append, args := #[s, x], argTypes := #[t, t] }) (ht : P.underlying t = some (.slice e)) {z : Value} {bytes : Nat} (HI : Hid (TyInfo P e z 1 bytes)) (hzs : z.cells.size = 1) (hone : ∀ x, (enc x).oneCell' = true)
    (base : Nat) (v : Value) (l : List α) (HM : Hid (RowM enc e W0 base v l)) (u : α) (hw : w = W0.alloc (.cells #[enc u] e')) (hs : a.eval s = v) {g : Nat} (hx : a.eval x = .slice (some ⟨g, 0, none⟩) 1 1) (hg : g = W0.heap.size)
    (hn : (l.length + 1) * bytes ≤ 140737488355328) (hb1 : 0 < bytes) (hb : base ≤ W0.heap.size)
    (h : ∀ v' w', Hid (RowM enc e w' base v' (l ++ [u])) → Below base W0 w' → Hid (Keeps (fun k => v.ownBlock ≠ some k) W0 w') → wpList P ops Q rest (a.put o.dst v') w') : wpList P ops Q (o :: rest) a w := by
  obtain ⟨i, hi, hz, hsz, hby⟩ := HI.out
  subst hw hg
  refine wpList_append_rd hgd s x t ho base e i z 1 bytes ht hi hz hsz hby hzs (by decide) v l.length _ hs (HM.out.alloc _) (T := fun _ => True) _ 1 [enc u] hx ?_ ?_ hn hb1 (Nat.le_trans hb (by simp)) (fun v' w' hA => h v' w' ?_ (((Below.refl _ _).alloc hb _).trans hA.below) (hidden (((Keeps.refl _ _).alloc _).trans hA.keeps)))
  · exact Rd.fresh (cs := [enc u]) (n := 1) (size := 1) rfl (Nat.le_refl _) (by decide) trivial rfl
  · intro y hy; simp at hy; subst hy; exact hone u
  · have := hA.mine
    refine hidden ?_
    unfold RowM
    rw [List.length_append, List.flatMap_append]
    exact this
end
/-- The same, for texts. -/
theorem wpList_append_str {w W0 : World} {ops : Array Oper} {rest : List Oper} {o : Oper} {a : Act} {Q : Exit → Act → World → Prop} (hgd : o.guard = none) (s x : Operand)
    (ho : o.op = .call { callee := .builtin .append, args := #[s, x], argTypes := #[26, 26] }) (base : Nat) (v : Value) (l : List ByteArray) (HM : Hid (StrsM W0 base v l)) (u : ByteArray) {e' : TypeId} (hw : w = W0.alloc (.cells #[.string u] e')) (hs : a.eval s = v) {g : Nat}
    (hx : a.eval x = .slice (some ⟨g, 0, none⟩) 1 1) (hg : g = W0.heap.size) (hn : l.length ≤ 1000000) (hb : base ≤ W0.heap.size)
    (h : ∀ v' w', Hid (StrsM w' base v' (l ++ [u])) → Below base W0 w' → Hid (Keeps (fun k => v.ownBlock ≠ some k) W0 w') → wpList Try.prog ops Q rest (a.put o.dst v') w') : wpList Try.prog ops Q (o :: rest) a w :=
  wpList_append_row (enc := Value.string) hgd s x 26 9 e' ho (by kernel_rfl) str_info rfl (fun _ => rfl) base v l HM u hw hs hx hg (by omega) (by decide) hb h

abbrev intV : Int → Value := Value.int .i64
theorem int_info : Hid (TyInfo Try.prog 3 (.int .i64 0) 1 8) := hidden (info_parts (show (Try.prog.info? 3).map (fun i => (i.zero, i.size, i.bytes)) = some (some (.int .i64 0), 1, 8) by kernel_rfl))
abbrev Ints (w : World) (T : Nat → Prop) (v : Value) (l : List Int) : Prop := Row intV w T v l
abbrev IntsM (w : World) (base : Nat) (v : Value) (l : List Int) : Prop := RowM intV 3 w base v l
theorem wpList_append_i {w W0 : World} {ops : Array Oper} {rest : List Oper} {o : Oper} {a : Act} {Q : Exit → Act → World → Prop} (hgd : o.guard = none) (s x : Operand)
    (ho : o.op = .call { callee := .builtin .append, args := #[s, x], argTypes := #[48, 48] }) (base : Nat) (v : Value) (l : List Int) (HM : Hid (IntsM W0 base v l)) (u : Int) {e' : TypeId} (hw : w = W0.alloc (.cells #[.int .i64 u] e')) (hs : a.eval s = v) {g : Nat}
    (hx : a.eval x = .slice (some ⟨g, 0, none⟩) 1 1) (hg : g = W0.heap.size) (hn : l.length ≤ 1000000000000) (hb : base ≤ W0.heap.size)
    (h : ∀ v' w', Hid (IntsM w' base v' (l ++ [u])) → Below base W0 w' → Hid (Keeps (fun k => v.ownBlock ≠ some k) W0 w') → wpList Try.prog ops Q rest (a.put o.dst v') w') : wpList Try.prog ops Q (o :: rest) a w :=
  wpList_append_row (enc := intV) hgd s x 48 3 e' ho (by kernel_rfl) int_info rfl (fun _ => rfl) base v l HM u hw hs hx hg (by omega) (by decide) hb h

set_option maxRecDepth 20000 in
set_option maxHeartbeats 2000000 in
theorem same_ints (a b : Value) (L M : List Int) (w : World) (hA : Ints w (Old w) a L) (hB : Ints w (Old w) b M) :
    Calls Try.prog 39 #[a, b] w fun r w' => r = .returned (.bool (eqB L M)) ∧ Below w.heap.size w w' := by
  obtain ⟨A, c, rfl, hc1, hc2⟩ := hA.val
  obtain ⟨A2, c2, rfl, hd1, hd2⟩ := hB.val
  unfold maxLen at hc2 hd2
  have HA := hidden (fun (w' : World) (hw : Below w.heap.size w w') => Rd.old hA hw)
  have HB := hidden (fun (w' : World) (hw : Below w.heap.size w w') => Rd.old hB hw)
  clear hA hB
  by_cases hlen : L.length = M.length
  · have HT : Hid ((∀ k : Nat, k < L.length → L[k]? = M[k]?) → eqB L M = true) := hidden (fun h => eqB_true (list_ext_of hlen h))
    have HF : Hid ((∃ (k : Nat) (x y : Int), L[k]? = some x ∧ M[k]? = some y ∧ x ≠ y) → eqB L M = false) := hidden (fun ⟨k, x, y, h1, h2, h3⟩ => eqB_false fun e => by
      subst e
      rw [h1] at h2
      exact h3 (Option.some.inj h2))
    generalize eqB L M = r at *
    have hlm : L.length ≤ M.length := by omega
    have q0 : ((L.length : Int) != (M.length : Int)) = false := by simp; omega
    clear hlen
    go_enter Try.func39, Try.ntmps39
    go_wp2
    go_loopw [5] (fun kk wr => ∃ k : Nat, k ≤ L.length ∧ kk = .int .i64 k ∧ Hid (∀ j : Nat, j < k → L[j]? = M[j]?) ∧ Below w.heap.size w wr) (fun kk _ => L.length - (intOf kk).toNat)
    case atStart => exact ⟨0, by omega, rfl, hidden (fun j h => by omega), Below.refl _ _⟩
    case round =>
      obtain ⟨k, hk, rfl, HN, hb⟩ := hrel
      by_cases hlt : k < L.length
      · have hk2 : k < M.length := by omega
        have hx := List.getElem?_eq_getElem hlt
        have hy := List.getElem?_eq_getElem hk2
        generalize L[k] = x at *
        generalize M[k] = y at *
        obtain ⟨b1, o1, rfl, _, x0⟩ := row_at (HA.out _ hb) hx
        obtain ⟨b2, o2, rfl, _, y0⟩ := row_at (HB.out _ hb) hy
        have HX := hidden hx
        have HY := hidden hy
        clear hx hy
        have z0 := Ext.cell x0; have z1 := Ext.cell y0
        go_wp2_with fail
        refine wp_region_ext (by kernel_rfl) (by kernel_rfl) ?_
        repeat (go_big_quiet_step (fail))
        refine wpQuiet_nil ?_
        intro w2 hb2
        clear z0 z1 x0 y0
        replace hb := hb.trans (hb2.mono hb.size)
        by_cases hxy : x = y
        · have HN2 : Hid (∀ j : Nat, j < k + 1 → L[j]? = M[j]?) := hidden (fun j hj => by
            by_cases e : j = k
            · subst e; rw [HX.out, HY.out, hxy]
            · exact HN.out j (by omega))
          subst hxy
          clear HN HX HY
          go_wp2
          go_roundw
          case rel => exact ⟨k + 1, by omega, by go_num, HN2, hb⟩
          case measure => simp [intOf]; omega
        · have HE := hidden (HF.out ⟨k, _, _, HX.out, HY.out, hxy⟩)
          have q1 : (x != y) = true := by rw [bne_iff_ne]; exact hxy
          clear hxy
          go_wp2
          go_ret
          exact ⟨by rw [HE.out]; rfl, hb⟩
      · obtain rfl : k = L.length := by omega
        have HE := hidden (HT.out HN.out)
        go_wp2
        go_ret
        exact ⟨by rw [HE.out]; rfl, hb⟩
  · have q1 : (((L.length : Nat) : Int) != (M.length : Int)) = true := by rw [bne_iff_ne]; omega
    have HE : Hid (eqB L M = false) := hidden (eqB_false (by
      intro e; rw [e] at hlen; exact hlen rfl))
    generalize eqB L M = r at *
    clear hlen
    go_enter Try.func39, Try.ntmps39
    go_wp2
    go_ret
    exact ⟨by rw [HE.out]; rfl, Below.refl _ _⟩
end Go.Proofs.Ytaagkbgbghleiaa
