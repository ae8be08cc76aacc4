/-
  slices.Clone at the parts of a grammar.
-/
import Derived.Test.YtbjheaiiajpifaaG1
import Derived.Lib.SliceRun
namespace Go.Proofs.Ytbjheaiiajpifaa
open Go.RowKit Go.Shelf

theorem Rd.none_nil' {w : World} {T : Nat → Prop} {size n c : Nat} {cs : List Value} (h : Rd w T size (.slice none n c) n cs) (hs : 0 < size) : n = 0 ∧ cs = [] := by
  obtain ⟨hl, A, c', hv, h1, h2, h3⟩ := h
  simp only [Value.slice.injEq] at hv
  obtain ⟨rfl, _, _⟩ := hv
  by_cases h0 : 0 < cs.length
  · obtain ⟨b, off, e, _⟩ := h3 h0
    cases e
  · have : cs = [] := List.eq_nil_of_length_eq_zero (by omega)
    subst this
    refine ⟨?_, rfl⟩
    rcases Nat.mul_eq_zero.1 (show n * size = 0 from hl.symm) with h | h <;> omega

theorem ty_toks : Hid (TyInfo Try.prog 88 (.agg #[.string ⟨#[]⟩, .slice none 0 0, .int .i64 0]) 3 48) :=
  hidden (info_parts (show (Try.prog.info? 88).map (fun i => (i.zero, i.size, i.bytes)) = some (some (.agg #[.string ⟨#[]⟩, .slice none 0 0, .int .i64 0]), 3, 48) by kernel_rfl))
set_option maxRecDepth 20000 in
set_option maxHeartbeats 2000000 in
theorem clone_toks (v : Value) (n : Nat) (cs : List Value) (T : Nat → Prop) (w : World) (hR : Rd w T 3 v n cs) (h1 : ∀ u ∈ cs, u.oneCell' = true) (hn : n * 48 ≤ 140737488355328) :
    Calls Try.prog 72 #[v] w fun r w' => (∃ u, r = .returned u ∧ Hid (Mine w' w.heap.size 88 3 u n cs) ∧ Hid (∀ q, u.ownBlock = some q → w.heap.size ≤ q ∧ q < w'.heap.size)) ∧ Below w.heap.size w w' := by
  obtain ⟨A, c, rfl, hc1, hc2⟩ := hR.val
  unfold maxLen at hc2
  have HI := ty_toks
  have H1 := hidden h1
  have HX := hidden (hR.alloc (.cells #[] 88))
  have hb := (Below.refl w.heap.size w).alloc (Nat.le_refl _) (.cells #[] 88)
  have hbz := hb.size
  have HM : Hid (Mine (w.alloc (.cells #[] 88)) w.heap.size 88 3 (.slice (some ⟨w.heap.size, 0, none⟩) 0 0) 0 []) := hidden (.inr ⟨rfl, rfl, _, rfl⟩)
  have q22 : ∀ (w : World) (a : Option Addr) (n c n' c' : Nat), (binOp .eql 22 (.slice a n c) (.slice none n' c')).run Try.prog w = .ok (.bool a.isNone) w := fun w a n c n' c' => Lib.run_eql_slice_nil w _ 88 a n c n' c' (by kernel_rfl)
  cases A with
  | none =>
    obtain ⟨rfl, rfl⟩ := hR.none_nil' (by decide)
    clear hR HX
    go_enter Try.func72, Try.ntmps72
    go_wp2
    go_ret
    exact ⟨⟨_, rfl, hidden (Mine.nil _ _ _ _), hidden (fun q hq => by cases hq)⟩, Below.refl _ _⟩
  | some p =>
    clear hR h1
    go_enter Try.func72, Try.ntmps72
    go_wp2_with (at_builtin; refine wpList_append_all rfl _ _ 22 88 rfl (by kernel_rfl) HI rfl (by decide) w.heap.size _ _ _ HM _ _ _ HX H1 rfl rfl (by omega) (by decide) hbz ?_; intro v' w' hA)
    go_ret
    refine ⟨⟨_, rfl, ?_, hidden (fun q hq => ?_)⟩, hb.trans hA.out.below⟩
    · have := hA.out.mine
      rw [Nat.zero_add] at this
      exact hidden this
    · have hq : v'.ownBlock = some q := hq
      rcases hA.out.at_ with h | ⟨g, h, hg, hg2⟩
      · rw [h] at hq; simp [Value.ownBlock] at hq
        have := hA.out.below.size
        have h3 := hA.out.keeps.size
        simp at h3
        omega
      · rw [h] at hq; cases hq; exact ⟨Nat.le_trans hbz hg, by assumption⟩

theorem ty_rex : Hid (TyInfo Try.prog 156 (.agg #[.int .i64 0, .int .u64 0, .int .u64 0, .int .u64 0, .int .u64 0]) 5 40) :=
  hidden (info_parts (show (Try.prog.info? 156).map (fun i => (i.zero, i.size, i.bytes)) = some (some (.agg #[.int .i64 0, .int .u64 0, .int .u64 0, .int .u64 0, .int .u64 0]), 5, 40) by kernel_rfl))
set_option maxRecDepth 20000 in
set_option maxHeartbeats 2000000 in
theorem clone_rex (v : Value) (n : Nat) (cs : List Value) (T : Nat → Prop) (w : World) (hR : Rd w T 5 v n cs) (h1 : ∀ u ∈ cs, u.oneCell' = true) (hn : n * 40 ≤ 140737488355328) :
    Calls Try.prog 73 #[v] w fun r w' => (∃ u, r = .returned u ∧ Hid (Mine w' w.heap.size 156 5 u n cs) ∧ Hid (∀ q, u.ownBlock = some q → w.heap.size ≤ q ∧ q < w'.heap.size)) ∧ Below w.heap.size w w' := by
  obtain ⟨A, c, rfl, hc1, hc2⟩ := hR.val
  unfold maxLen at hc2
  have HI := ty_rex
  have H1 := hidden h1
  have HX := hidden (hR.alloc (.cells #[] 156))
  have hb := (Below.refl w.heap.size w).alloc (Nat.le_refl _) (.cells #[] 156)
  have hbz := hb.size
  have HM : Hid (Mine (w.alloc (.cells #[] 156)) w.heap.size 156 5 (.slice (some ⟨w.heap.size, 0, none⟩) 0 0) 0 []) := hidden (.inr ⟨rfl, rfl, _, rfl⟩)
  have q22 : ∀ (w : World) (a : Option Addr) (n c n' c' : Nat), (binOp .eql 85 (.slice a n c) (.slice none n' c')).run Try.prog w = .ok (.bool a.isNone) w := fun w a n c n' c' => Lib.run_eql_slice_nil w _ 156 a n c n' c' (by kernel_rfl)
  cases A with
  | none =>
    obtain ⟨rfl, rfl⟩ := hR.none_nil' (by decide)
    clear hR HX
    go_enter Try.func73, Try.ntmps73
    go_wp2
    go_ret
    exact ⟨⟨_, rfl, hidden (Mine.nil _ _ _ _), hidden (fun q hq => by cases hq)⟩, Below.refl _ _⟩
  | some p =>
    clear hR h1
    go_enter Try.func73, Try.ntmps73
    go_wp2_with (at_builtin; refine wpList_append_all rfl _ _ 85 156 rfl (by kernel_rfl) HI rfl (by decide) w.heap.size _ _ _ HM _ _ _ HX H1 rfl rfl (by omega) (by decide) hbz ?_; intro v' w' hA)
    go_ret
    refine ⟨⟨_, rfl, ?_, hidden (fun q hq => ?_)⟩, hb.trans hA.out.below⟩
    · have := hA.out.mine
      rw [Nat.zero_add] at this
      exact hidden this
    · have hq : v'.ownBlock = some q := hq
      rcases hA.out.at_ with h | ⟨g, h, hg, hg2⟩
      · rw [h] at hq; simp [Value.ownBlock] at hq
        have := hA.out.below.size
        have h3 := hA.out.keeps.size
        simp at h3
        omega
      · rw [h] at hq; cases hq; exact ⟨Nat.le_trans hbz hg, by assumption⟩

theorem ty_strs : Hid (TyInfo Try.prog 9 (.string ⟨#[]⟩) 1 16) :=
  hidden (info_parts (show (Try.prog.info? 9).map (fun i => (i.zero, i.size, i.bytes)) = some (some (.string ⟨#[]⟩), 1, 16) by kernel_rfl))
set_option maxRecDepth 20000 in
set_option maxHeartbeats 2000000 in
theorem clone_strs (v : Value) (n : Nat) (cs : List Value) (T : Nat → Prop) (w : World) (hR : Rd w T 1 v n cs) (h1 : ∀ u ∈ cs, u.oneCell' = true) (hn : n * 16 ≤ 140737488355328) :
    Calls Try.prog 74 #[v] w fun r w' => (∃ u, r = .returned u ∧ Hid (Mine w' w.heap.size 9 1 u n cs) ∧ Hid (∀ q, u.ownBlock = some q → w.heap.size ≤ q ∧ q < w'.heap.size)) ∧ Below w.heap.size w w' := by
  obtain ⟨A, c, rfl, hc1, hc2⟩ := hR.val
  unfold maxLen at hc2
  have HI := ty_strs
  have H1 := hidden h1
  have HX := hidden (hR.alloc (.cells #[] 9))
  have hb := (Below.refl w.heap.size w).alloc (Nat.le_refl _) (.cells #[] 9)
  have hbz := hb.size
  have HM : Hid (Mine (w.alloc (.cells #[] 9)) w.heap.size 9 1 (.slice (some ⟨w.heap.size, 0, none⟩) 0 0) 0 []) := hidden (.inr ⟨rfl, rfl, _, rfl⟩)
  have q22 : ∀ (w : World) (a : Option Addr) (n c n' c' : Nat), (binOp .eql 23 (.slice a n c) (.slice none n' c')).run Try.prog w = .ok (.bool a.isNone) w := fun w a n c n' c' => Lib.run_eql_slice_nil w _ 9 a n c n' c' (by kernel_rfl)
  cases A with
  | none =>
    obtain ⟨rfl, rfl⟩ := hR.none_nil' (by decide)
    clear hR HX
    go_enter Try.func74, Try.ntmps74
    go_wp2
    go_ret
    exact ⟨⟨_, rfl, hidden (Mine.nil _ _ _ _), hidden (fun q hq => by cases hq)⟩, Below.refl _ _⟩
  | some p =>
    clear hR h1
    go_enter Try.func74, Try.ntmps74
    go_wp2_with (at_builtin; refine wpList_append_all rfl _ _ 23 9 rfl (by kernel_rfl) HI rfl (by decide) w.heap.size _ _ _ HM _ _ _ HX H1 rfl rfl (by omega) (by decide) hbz ?_; intro v' w' hA)
    go_ret
    refine ⟨⟨_, rfl, ?_, hidden (fun q hq => ?_)⟩, hb.trans hA.out.below⟩
    · have := hA.out.mine
      rw [Nat.zero_add] at this
      exact hidden this
    · have hq : v'.ownBlock = some q := hq
      rcases hA.out.at_ with h | ⟨g, h, hg, hg2⟩
      · rw [h] at hq; simp [Value.ownBlock] at hq
        have := hA.out.below.size
        have h3 := hA.out.keeps.size
        simp at h3
        omega
      · rw [h] at hq; cases hq; exact ⟨Nat.le_trans hbz hg, by assumption⟩

theorem ty_prods : Hid (TyInfo Try.prog 77 (.agg #[.int .i64 0, .slice none 0 0]) 2 32) :=
  hidden (info_parts (show (Try.prog.info? 77).map (fun i => (i.zero, i.size, i.bytes)) = some (some (.agg #[.int .i64 0, .slice none 0 0]), 2, 32) by kernel_rfl))
set_option maxRecDepth 20000 in
set_option maxHeartbeats 2000000 in
theorem clone_prods (v : Value) (n : Nat) (cs : List Value) (T : Nat → Prop) (w : World) (hR : Rd w T 2 v n cs) (h1 : ∀ u ∈ cs, u.oneCell' = true) (hn : n * 32 ≤ 140737488355328) :
    Calls Try.prog 75 #[v] w fun r w' => (∃ u, r = .returned u ∧ Hid (Mine w' w.heap.size 77 2 u n cs) ∧ Hid (∀ q, u.ownBlock = some q → w.heap.size ≤ q ∧ q < w'.heap.size)) ∧ Below w.heap.size w w' := by
  obtain ⟨A, c, rfl, hc1, hc2⟩ := hR.val
  unfold maxLen at hc2
  have HI := ty_prods
  have H1 := hidden h1
  have HX := hidden (hR.alloc (.cells #[] 77))
  have hb := (Below.refl w.heap.size w).alloc (Nat.le_refl _) (.cells #[] 77)
  have hbz := hb.size
  have HM : Hid (Mine (w.alloc (.cells #[] 77)) w.heap.size 77 2 (.slice (some ⟨w.heap.size, 0, none⟩) 0 0) 0 []) := hidden (.inr ⟨rfl, rfl, _, rfl⟩)
  have q22 : ∀ (w : World) (a : Option Addr) (n c n' c' : Nat), (binOp .eql 24 (.slice a n c) (.slice none n' c')).run Try.prog w = .ok (.bool a.isNone) w := fun w a n c n' c' => Lib.run_eql_slice_nil w _ 77 a n c n' c' (by kernel_rfl)
  cases A with
  | none =>
    obtain ⟨rfl, rfl⟩ := hR.none_nil' (by decide)
    clear hR HX
    go_enter Try.func75, Try.ntmps75
    go_wp2
    go_ret
    exact ⟨⟨_, rfl, hidden (Mine.nil _ _ _ _), hidden (fun q hq => by cases hq)⟩, Below.refl _ _⟩
  | some p =>
    clear hR h1
    go_enter Try.func75, Try.ntmps75
    go_wp2_with (at_builtin; refine wpList_append_all rfl _ _ 24 77 rfl (by kernel_rfl) HI rfl (by decide) w.heap.size _ _ _ HM _ _ _ HX H1 rfl rfl (by omega) (by decide) hbz ?_; intro v' w' hA)
    go_ret
    refine ⟨⟨_, rfl, ?_, hidden (fun q hq => ?_)⟩, hb.trans hA.out.below⟩
    · have := hA.out.mine
      rw [Nat.zero_add] at this
      exact hidden this
    · have hq : v'.ownBlock = some q := hq
      rcases hA.out.at_ with h | ⟨g, h, hg, hg2⟩
      · rw [h] at hq; simp [Value.ownBlock] at hq
        have := hA.out.below.size
        have h3 := hA.out.keeps.size
        simp at h3
        omega
      · rw [h] at hq; cases hq; exact ⟨Nat.le_trans hbz hg, by assumption⟩

theorem ty_items : Hid (TyInfo Try.prog 80 (.agg #[.bool false, .int .i64 0, .int .i64 0, .int .i64 0]) 4 32) :=
  hidden (info_parts (show (Try.prog.info? 80).map (fun i => (i.zero, i.size, i.bytes)) = some (some (.agg #[.bool false, .int .i64 0, .int .i64 0, .int .i64 0]), 4, 32) by kernel_rfl))
set_option maxRecDepth 20000 in
set_option maxHeartbeats 2000000 in
theorem clone_items (v : Value) (n : Nat) (cs : List Value) (T : Nat → Prop) (w : World) (hR : Rd w T 4 v n cs) (h1 : ∀ u ∈ cs, u.oneCell' = true) (hn : n * 32 ≤ 140737488355328) :
    Calls Try.prog 76 #[v] w fun r w' => (∃ u, r = .returned u ∧ Hid (Mine w' w.heap.size 80 4 u n cs) ∧ Hid (∀ q, u.ownBlock = some q → w.heap.size ≤ q ∧ q < w'.heap.size)) ∧ Below w.heap.size w w' := by
  obtain ⟨A, c, rfl, hc1, hc2⟩ := hR.val
  unfold maxLen at hc2
  have HI := ty_items
  have H1 := hidden h1
  have HX := hidden (hR.alloc (.cells #[] 80))
  have hb := (Below.refl w.heap.size w).alloc (Nat.le_refl _) (.cells #[] 80)
  have hbz := hb.size
  have HM : Hid (Mine (w.alloc (.cells #[] 80)) w.heap.size 80 4 (.slice (some ⟨w.heap.size, 0, none⟩) 0 0) 0 []) := hidden (.inr ⟨rfl, rfl, _, rfl⟩)
  have q22 : ∀ (w : World) (a : Option Addr) (n c n' c' : Nat), (binOp .eql 75 (.slice a n c) (.slice none n' c')).run Try.prog w = .ok (.bool a.isNone) w := fun w a n c n' c' => Lib.run_eql_slice_nil w _ 80 a n c n' c' (by kernel_rfl)
  cases A with
  | none =>
    obtain ⟨rfl, rfl⟩ := hR.none_nil' (by decide)
    clear hR HX
    go_enter Try.func76, Try.ntmps76
    go_wp2
    go_ret
    exact ⟨⟨_, rfl, hidden (Mine.nil _ _ _ _), hidden (fun q hq => by cases hq)⟩, Below.refl _ _⟩
  | some p =>
    clear hR h1
    go_enter Try.func76, Try.ntmps76
    go_wp2_with (at_builtin; refine wpList_append_all rfl _ _ 75 80 rfl (by kernel_rfl) HI rfl (by decide) w.heap.size _ _ _ HM _ _ _ HX H1 rfl rfl (by omega) (by decide) hbz ?_; intro v' w' hA)
    go_ret
    refine ⟨⟨_, rfl, ?_, hidden (fun q hq => ?_)⟩, hb.trans hA.out.below⟩
    · have := hA.out.mine
      rw [Nat.zero_add] at this
      exact hidden this
    · have hq : v'.ownBlock = some q := hq
      rcases hA.out.at_ with h | ⟨g, h, hg, hg2⟩
      · rw [h] at hq; simp [Value.ownBlock] at hq
        have := hA.out.below.size
        have h3 := hA.out.keeps.size
        simp at h3
        omega
      · rw [h] at hq; cases hq; exact ⟨Nat.le_trans hbz hg, by assumption⟩

end Go.Proofs.Ytbjheaiiajpifaa
