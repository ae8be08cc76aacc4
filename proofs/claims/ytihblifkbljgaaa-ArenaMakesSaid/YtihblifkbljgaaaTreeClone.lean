/-
  slices.Clone at nodes and at pieces.
-/
import Derived.Test.YtihblifkbljgaaaTreeCollect
import Derived.Lib.SliceRun
namespace Go.Proofs.Ytihblifkbljgaaa
open Go.RowKit Go.Shelf

/-- What is known of an element's type. -/
def TyInfo (P : Program) (e : TypeId) (z : Value) (size bytes : Nat) : Prop := ∃ i, P.info? e = some i ∧ i.zero = some z ∧ i.size = size ∧ i.bytes = bytes
theorem node_info : Hid (TyInfo Try.prog 29 (.agg #[.int .i64 0, .int .i64 0, .int .i64 0, .slice none 0 0, .string ⟨#[]⟩]) 5 64) :=
  hidden (info_parts (show (Try.prog.info? 29).map (fun i => (i.zero, i.size, i.bytes)) = some (some (.agg #[.int .i64 0, .int .i64 0, .int .i64 0, .slice none 0 0, .string ⟨#[]⟩]), 5, 64) by kernel_rfl))
theorem piece_info : Hid (TyInfo Try.prog 59 (.agg #[.int .i64 0, .string ⟨#[]⟩]) 2 24) :=
  hidden (info_parts (show (Try.prog.info? 59).map (fun i => (i.zero, i.size, i.bytes)) = some (some (.agg #[.int .i64 0, .string ⟨#[]⟩]), 2, 24) by kernel_rfl))

/-- All of another slice is put behind the call's own. -/
theorem wpList_append_all {P : Program} {w : World} {ops : Array Oper} {rest : List Oper} {o : Oper} {a : Act} {Q : Exit → Act → World → Prop} (hgd : o.guard = none) (s x : Operand) (t e : TypeId)
    (ho : o.op = .call { callee := .builtin .append, args := #[s, x], argTypes := #[t, t] }) (ht : P.underlying t = some (.slice e)) {z : Value} {size bytes : Nat} (HI : Hid (TyInfo P e z size bytes)) (hzs : z.cells.size = size) (hsz : 0 < size)
    (base : Nat) (v : Value) (n : Nat) (xs : List Value) (HM : Hid (Mine w base e size v n xs)) {T : Nat → Prop} (y : Value) (m : Nat) (news : List Value) (HX : Hid (Rd w T size y m news)) (H1 : Hid (∀ u ∈ news, u.oneCell' = true))
    (hs : a.eval s = v) (hx : a.eval x = y) (hbytes : (n + m) * bytes ≤ 140737488355328) (hb1 : 0 < bytes) (hb : base ≤ w.heap.size)
    (h : ∀ v' w', Hid (Appended w base e size v (n + m) (xs ++ news) v' w') → wpList P ops Q rest (a.put o.dst v') w') : wpList P ops Q (o :: rest) a w := by
  obtain ⟨i, hi, hz, hs', hby⟩ := HI.out
  exact wpList_append_rd hgd s x t ho base e i z size bytes ht hi hz hs' hby hzs hsz v n xs hs HM.out (T := T) y m news hx HX.out H1.out hbytes hb1 hb (fun v' w' hA => h v' w' (hidden hA))

theorem Rd.none_nil {w : World} {T : Nat → Prop} {size n c : Nat} {cs : List Value} (h : Rd w T size (.slice none n c) n cs) (hs : 0 < size) : n = 0 ∧ cs = [] := by
  obtain ⟨hl, A, c', hv, h1, h2, h3⟩ := h
  simp only [Value.slice.injEq] at hv
  obtain ⟨rfl, _, _⟩ := hv
  by_cases h0 : 0 < cs.length
  · obtain ⟨b, off, e, _⟩ := h3 h0
    cases e
  · have : cs = [] := List.eq_nil_of_length_eq_zero (by omega)
    subst this
    refine ⟨?_, rfl⟩
    rcases Nat.mul_eq_zero.1 (show n * size = 0 from hl.symm) with h | h <;> omega

set_option maxRecDepth 20000 in
set_option maxHeartbeats 2000000 in
theorem clone_nodes (v : Value) (n : Nat) (cs : List Value) (T : Nat → Prop) (w : World) (hR : Rd w T 5 v n cs) (h1 : ∀ u ∈ cs, u.oneCell' = true) (hn : n * 64 ≤ 140737488355328) :
    Calls Try.prog 74 #[v] w fun r w' => (∃ u, r = .returned u ∧ Hid (Mine w' w.heap.size 29 5 u n cs) ∧ Hid (∀ q, u.ownBlock = some q → w.heap.size ≤ q ∧ q < w'.heap.size)) ∧ Below w.heap.size w w' := by
  obtain ⟨A, c, rfl, hc1, hc2⟩ := hR.val
  unfold maxLen at hc2
  have HI := node_info
  have H1 := hidden h1
  have HX := hidden (hR.alloc (.cells #[] 29))
  have hb := (Below.refl w.heap.size w).alloc (Nat.le_refl _) (.cells #[] 29)
  have hbz := hb.size
  have HM : Hid (Mine (w.alloc (.cells #[] 29)) w.heap.size 29 5 (.slice (some ⟨w.heap.size, 0, none⟩) 0 0) 0 []) := hidden (.inr ⟨rfl, rfl, _, rfl⟩)
  have q22 : ∀ (w : World) (a : Option Addr) (n c n' c' : Nat), (binOp .eql 22 (.slice a n c) (.slice none n' c')).run Try.prog w = .ok (.bool a.isNone) w := fun w a n c n' c' => Lib.run_eql_slice_nil w _ 29 a n c n' c' (by kernel_rfl)
  cases A with
  | none =>
    obtain ⟨rfl, rfl⟩ := hR.none_nil (by decide)
    clear hR HX
    go_enter Try.func74, Try.ntmps74
    go_wp2
    go_ret
    exact ⟨⟨_, rfl, hidden (Mine.nil _ _ _ _), hidden (fun q hq => by cases hq)⟩, Below.refl _ _⟩
  | some p =>
    clear hR h1
    go_enter Try.func74, Try.ntmps74
    go_wp2_with (at_builtin; refine wpList_append_all rfl _ _ 22 29 rfl (by kernel_rfl) HI rfl (by decide) w.heap.size _ _ _ HM _ _ _ HX H1 rfl rfl (by omega) (by decide) hbz ?_; intro v' w' hA)
    go_ret
    refine ⟨⟨_, rfl, ?_, hidden (fun q hq => ?_)⟩, hb.trans hA.out.below⟩
    · have := hA.out.mine
      rw [Nat.zero_add] at this
      exact hidden this
    · have hq : v'.ownBlock = some q := hq
      rcases hA.out.at_ with h | ⟨g, h, hg, hg2⟩
      · rw [h] at hq; simp [Value.ownBlock] at hq
        have := hA.out.below.size
        have h3 := hA.out.keeps.size
        simp at h3
        omega
      · rw [h] at hq; cases hq; exact ⟨Nat.le_trans hbz hg, by assumption⟩

set_option maxRecDepth 20000 in
set_option maxHeartbeats 2000000 in
theorem clone_pieces (v : Value) (n : Nat) (cs : List Value) (T : Nat → Prop) (w : World) (hR : Rd w T 2 v n cs) (h1 : ∀ u ∈ cs, u.oneCell' = true) (hn : n * 24 ≤ 140737488355328) :
    Calls Try.prog 68 #[v] w fun r w' => (∃ u, r = .returned u ∧ Hid (Mine w' w.heap.size 59 2 u n cs) ∧ Hid (∀ q, u.ownBlock = some q → w.heap.size ≤ q ∧ q < w'.heap.size)) ∧ Below w.heap.size w w' := by
  obtain ⟨A, c, rfl, hc1, hc2⟩ := hR.val
  unfold maxLen at hc2
  have HI := piece_info
  have H1 := hidden h1
  have HX := hidden (hR.alloc (.cells #[] 59))
  have hb := (Below.refl w.heap.size w).alloc (Nat.le_refl _) (.cells #[] 59)
  have hbz := hb.size
  have HM : Hid (Mine (w.alloc (.cells #[] 59)) w.heap.size 59 2 (.slice (some ⟨w.heap.size, 0, none⟩) 0 0) 0 []) := hidden (.inr ⟨rfl, rfl, _, rfl⟩)
  have q22 : ∀ (w : World) (a : Option Addr) (n c n' c' : Nat), (binOp .eql 27 (.slice a n c) (.slice none n' c')).run Try.prog w = .ok (.bool a.isNone) w := fun w a n c n' c' => Lib.run_eql_slice_nil w _ 59 a n c n' c' (by kernel_rfl)
  cases A with
  | none =>
    obtain ⟨rfl, rfl⟩ := hR.none_nil (by decide)
    clear hR HX
    go_enter Try.func68, Try.ntmps68
    go_wp2
    go_ret
    exact ⟨⟨_, rfl, hidden (Mine.nil _ _ _ _), hidden (fun q hq => by cases hq)⟩, Below.refl _ _⟩
  | some p =>
    clear hR h1
    go_enter Try.func68, Try.ntmps68
    go_wp2_with (at_builtin; refine wpList_append_all rfl _ _ 27 59 rfl (by kernel_rfl) HI rfl (by decide) w.heap.size _ _ _ HM _ _ _ HX H1 rfl rfl (by omega) (by decide) hbz ?_; intro v' w' hA)
    go_ret
    refine ⟨⟨_, rfl, ?_, hidden (fun q hq => ?_)⟩, hb.trans hA.out.below⟩
    · have := hA.out.mine
      rw [Nat.zero_add] at this
      exact hidden this
    · have hq : v'.ownBlock = some q := hq
      rcases hA.out.at_ with h | ⟨g, h, hg, hg2⟩
      · rw [h] at hq; simp [Value.ownBlock] at hq
        have := hA.out.below.size
        have h3 := hA.out.keeps.size
        simp at h3
        omega
      · rw [h] at hq; cases hq; exact ⟨Nat.le_trans hbz hg, by assumption⟩
end Go.Proofs.Ytihblifkbljgaaa
