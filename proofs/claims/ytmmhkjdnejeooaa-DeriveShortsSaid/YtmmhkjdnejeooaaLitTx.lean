/-
  The document's expression of a text of one byte (a, b), as it is laid by a law's examples.
-/
import Derived.Test.YtmmhkjdnejeooaaFlat
import Derived.Test.YtmmhkjdnejeooaaLits
namespace Go.Proofs.Ytmmhkjdnejeooaa
open Go.RowKit Go.Shelf

theorem rxLit_info : Hid (TyInfo Try.prog 110 (.agg #[.int .i64 0, .int .u64 0, .int .u64 0, .int .u64 0, .int .u64 0]) 5 40) := hidden (info_parts (show (Try.prog.info? 110).map (fun i => (i.zero, i.size, i.bytes)) = some (some (.agg #[.int .i64 0, .int .u64 0, .int .u64 0, .int .u64 0, .int .u64 0]), 5, 40) by kernel_rfl))

theorem rxs_info : Hid (TyInfo Try.prog 66 (.slice none 0 0) 1 24) := hidden (info_parts (show (Try.prog.info? 66).map (fun i => (i.zero, i.size, i.bytes)) = some (some (.slice none 0 0), 1, 24) by kernel_rfl))
theorem Rd.cell0 {w : World} {T : Nat → Prop} {A : Option Addr} {c : Nat} {u : Value} (h : Rd w T 1 (.slice A 1 c) 1 [u]) : ∃ b off, A = some ⟨b, off, none⟩ ∧ T b ∧ w.cell? ⟨b, off, none⟩ = some u := by
  obtain ⟨hl, A', c', hv, h1, h2, h3⟩ := h
  simp only [Value.slice.injEq] at hv
  obtain ⟨rfl, _, rfl⟩ := hv
  obtain ⟨b, off, e, hT, hc⟩ := h3 (by simp)
  exact ⟨b, off, e, hT, hc 0 u rfl⟩
theorem below_lit {w w1 w2 : World} (h : Below w.heap.size w w1) (k : Below w1.heap.size w1 w2) : Below w.heap.size w w2 := h.trans (k.mono h.size)

def rxA : Rx := ⟨1, 0, 8589934592, 0, 0⟩
set_option maxRecDepth 20000 in
theorem with_A (w : World) : Calls Try.prog 70 #[.agg #[.int .u64 0, .int .u64 0, .int .u64 0, .int .u64 0], .int .i64 97] w fun r w' => r = .returned (.agg #[.int .u64 0, .int .u64 8589934592, .int .u64 0, .int .u64 0]) ∧ Below w.heap.size w w' := by
  have hq : bits BinOp.or IntKind.u64 0 8589934592 = 8589934592 := by kernel_rfl
  go_enter Try.func70, Try.ntmps70
  go_wp2
  refine bodyPost_ret (v := .agg #[.int .u64 0, .int .u64 8589934592, .int .u64 0, .int .u64 0]) (by simp [results, Try.results70, go_sem]) rfl ⟨rfl, (by repeat (first | (with_reducible exact Below.refl _ _) | (with_reducible assumption) | (with_reducible refine Below.drew ?_) | (with_reducible refine below_drewN ?_ _) | ((with_reducible refine below_alloc ?_ ?_); (focus (first | omega | (simp; done) | (simp; omega)))) | ((with_reducible refine below_set ?_ ?_); (focus (first | omega | (simp; done) | (simp; omega))))))⟩
set_option maxRecDepth 20000 in
theorem one_A (w : World) : Calls Try.prog 53 #[.int .u8 97] w fun r w' => r = .returned (.agg #[.int .u64 0, .int .u64 8589934592, .int .u64 0, .int .u64 0]) ∧ Below w.heap.size w w' := by
  have HW := hidden with_A
  have HH := hidden (Holds.new w 92 #[.int .u64 0, .int .u64 0, .int .u64 0, .int .u64 0])
  have hb := (Below.refl w.heap.size w).alloc (Nat.le_refl _) (.cells #[.int .u64 0, .int .u64 0, .int .u64 0, .int .u64 0] 92)
  go_enter Try.func53, Try.ntmps53
  go_wp2_with fail
  refine (HW.out _).mono ?_
  rintro r w2 ⟨rfl, hb2⟩
  have H2 := HH.out.below hb2 HH.out.lt
  have hbw := below_lit hb hb2
  have o0 : w2.cell? ⟨w.heap.size, 0, none⟩ = some (.int .u64 0) := H2.cell 0
  have o1 : w2.cell? ⟨w.heap.size, 1, none⟩ = some (.int .u64 0) := H2.cell 1
  have o2 : w2.cell? ⟨w.heap.size, 2, none⟩ = some (.int .u64 0) := H2.cell 2
  have o3 : w2.cell? ⟨w.heap.size, 3, none⟩ = some (.int .u64 0) := H2.cell 3
  have f0 := H2.frozen 0; have f1 := H2.frozen 1; have f2 := H2.frozen 2; have f3 := H2.frozen 3; have hl := H2.lt
  clear hb2 HW HH hb H2
  go_wp2
  refine bodyPost_ret (v := .agg #[.int .u64 0, .int .u64 8589934592, .int .u64 0, .int .u64 0]) (by simp [results, Try.results53, go_sem, o0, o1, o2, o3]) rfl ⟨rfl, (by repeat (first | (with_reducible exact Below.refl _ _) | (with_reducible assumption) | (with_reducible refine Below.drew ?_) | (with_reducible refine below_drewN ?_ _) | ((with_reducible refine below_alloc ?_ ?_); (focus (first | omega | (simp; done) | (simp; omega)))) | ((with_reducible refine below_set ?_ ?_); (focus (first | omega | (simp; done) | (simp; omega))))))⟩
set_option maxRecDepth 20000 in
theorem set_A (w : World) : Calls Try.prog 52 #[.agg #[.int .u64 0, .int .u64 8589934592, .int .u64 0, .int .u64 0]] w fun r w' => (∃ B, r = .returned (.slice (some ⟨B, 0, none⟩) 1 1) ∧ w.heap.size ≤ B ∧ Hid (Holds w' B 110 (rxCells rxA).toArray)) ∧ Below w.heap.size w w' := by
  go_enter Try.func52, Try.ntmps52
  go_wp2
  go_ret
  exact ⟨⟨_, rfl, by simp, hidden (Holds.new_at (by simp))⟩, (by repeat (first | (with_reducible exact Below.refl _ _) | (with_reducible assumption) | (with_reducible refine Below.drew ?_) | (with_reducible refine below_drewN ?_ _) | ((with_reducible refine below_alloc ?_ ?_); (focus (first | omega | (simp; done) | (simp; omega)))) | ((with_reducible refine below_set ?_ ?_); (focus (first | omega | (simp; done) | (simp; omega))))))⟩
set_option maxRecDepth 20000 in
theorem many_A (B L o c : Nat) (w : World) (h1 : Holds w B 110 (rxCells rxA).toArray) (l0 : w.cell? ⟨L, o, none⟩ = some (.slice (some ⟨B, 0, none⟩) 1 1)) : Calls Try.prog 72 #[.slice (some ⟨L, o, none⟩) 1 c, .int .i64 3] w fun r w' => (∃ u, r = .returned u ∧ Hid (FlatM rxCells 5 110 w' w.heap.size u [rxA])) ∧ Below w.heap.size w w' := by
  have hb := (Below.refl w.heap.size w).alloc (Nat.le_refl _) (.cells #[] 110)
  have HM : Hid (Mine (w.alloc (.cells #[] 110)) w.heap.size 110 5 (.slice (some ⟨w.heap.size, 0, none⟩) 0 0) 0 []) := hidden (.inr ⟨rfl, rfl, _, rfl⟩)
  have HX : Hid (Rd (w.alloc (.cells #[] 110)) (fun _ => True) 5 (.slice (some ⟨B, 0, none⟩) 1 1) 1 (rxCells rxA)) := hidden (rd_lit' (h1.alloc _) trivial rfl rfl (by decide))
  have l1 : L < w.heap.size := World.block_lt_of_cell? _ _ l0
  have H1 : Hid (∀ u ∈ rxCells rxA, u.oneCell' = true) := hidden (by intro u hu; simp only [rxCells, rxA, List.mem_cons, List.not_mem_nil, or_false] at hu; rcases hu with rfl | rfl | rfl | rfl | rfl <;> rfl)
  clear h1
  go_enter Try.func72, Try.ntmps72
  go_wp2
  go_loopg [5, 6] 1 (fun gh oo kk wr => (gh = 1 ∧ kk = .int .i64 0 ∧ oo = .slice (some ⟨w.heap.size, 0, none⟩) 0 0 ∧ wr = w.alloc (.cells #[] 110)) ∨ (gh = 0 ∧ kk = .int .i64 1 ∧ Hid (FlatM rxCells 5 110 wr w.heap.size oo [rxA]) ∧ Below w.heap.size w wr))
  case atStart => exact .inl ⟨rfl, rfl, rfl, rfl⟩
  case round =>
    rcases hrel with ⟨rfl, rfl, rfl, rfl⟩ | ⟨rfl, rfl, HF, hb9⟩
    · go_wp2_with (at_builtin; refine wpList_append_all rfl _ _ 66 110 rfl (by kernel_rfl) rxLit_info rfl (by decide) w.heap.size _ 0 [] HM _ 1 (rxCells rxA) HX H1 rfl rfl (by decide) (by decide) (by simp) ?_; intro v' w' hA)
      go_roundg 0
      case measure => omega
      case rel => exact .inr ⟨rfl, rfl, hidden hA.out.mine, hb.trans hA.out.below⟩
    · go_wp2
      go_ret
      exact ⟨⟨_, rfl, HF⟩, hb9⟩
set_option maxRecDepth 20000 in
theorem cat_A (B L o c : Nat) (w : World) (h1 : Holds w B 110 (rxCells rxA).toArray) (l0 : w.cell? ⟨L, o, none⟩ = some (.slice (some ⟨B, 0, none⟩) 1 1)) : Calls Try.prog 54 #[.slice (some ⟨L, o, none⟩) 1 c] w fun r w' => (∃ u, r = .returned u ∧ Hid (FlatM rxCells 5 110 w' w.heap.size u [rxA])) ∧ Below w.heap.size w w' := by
  have HM := hidden (many_A B L o c w h1 l0)
  clear h1 l0
  go_enter Try.func54, Try.ntmps54
  go_wp2_with fail
  refine HM.out.mono ?_
  rintro r w2 ⟨⟨u, rfl, HF⟩, hb⟩
  go_wp2
  go_ret
  exact ⟨⟨u, rfl, HF⟩, hb⟩
set_option maxRecDepth 20000 in
set_option maxHeartbeats 4000000 in
theorem text_A (w : World) : Calls Try.prog 37 #[.string ⟨#[97]⟩] w fun r w' => (∃ u, r = .returned u ∧ Hid (FlatM rxCells 5 110 w' w.heap.size u [rxA])) ∧ Below w.heap.size w w' := by
  have HO := hidden one_A
  have HS := hidden set_A
  have hb := (Below.refl w.heap.size w).alloc (Nat.le_refl _) (.cells #[] 66)
  have HM0 : Hid (Mine (w.alloc (.cells #[] 66)) w.heap.size 66 1 (.slice (some ⟨w.heap.size, 0, none⟩) 0 0) 0 []) := hidden (.inr ⟨rfl, rfl, _, rfl⟩)
  go_enter Try.func37, Try.ntmps37
  go_wp2
  go_loopg [3, 4] 1 (fun gh oo kk wr => (gh = 1 ∧ kk = .int .i64 0 ∧ oo = .slice (some ⟨w.heap.size, 0, none⟩) 0 0 ∧ wr = w.alloc (.cells #[] 66)) ∨ (gh = 0 ∧ kk = .int .i64 1 ∧ Below w.heap.size w wr ∧ ∃ B : Nat, Hid (Holds wr B 110 (rxCells rxA).toArray) ∧ Hid (Mine wr w.heap.size 66 1 oo 1 [.slice (some ⟨B, 0, none⟩) 1 1])))
  case atStart => exact .inl ⟨rfl, rfl, rfl, rfl⟩
  case round =>
    rcases hrel with ⟨rfl, rfl, rfl, rfl⟩ | ⟨rfl, rfl, hb9, B, HB, HL⟩
    · go_wp2_with fail
      refine (HO.out _).mono ?_
      rintro r w2 ⟨rfl, hb2⟩
      replace HM0 := hidden (HM0.out.below hb2)
      have hb3 := below_lit hb hb2
      have hz2 := hb2.size
      simp only [World.size_alloc] at hz2
      clear hb2
      go_wp2_with fail
      refine (HS.out _).mono ?_
      rintro r w4 ⟨⟨B, rfl, hB, HB⟩, hb4⟩
      replace HM0 := hidden (HM0.out.below hb4)
      have hb5 := below_lit hb3 hb4
      clear hb4 hb3
      have hz := hb5.size
      have HM4 : Hid (Mine (w4.alloc (.cells #[.slice (some ⟨B, 0, none⟩) 1 1] 66)) w.heap.size 66 1 (.slice (some ⟨w.heap.size, 0, none⟩) 0 0) 0 []) := hidden (HM0.out.alloc _)
      have HX : Hid (Rd (w4.alloc (.cells #[.slice (some ⟨B, 0, none⟩) 1 1] 66)) (fun _ => True) 1 (.slice (some ⟨w4.heap.size, 0, none⟩) 1 1) 1 [.slice (some ⟨B, 0, none⟩) 1 1]) := hidden (rd_lit' (Holds.new _ _ _) trivial rfl rfl (by decide))
      have H1 : Hid (∀ u ∈ [Value.slice (some ⟨B, 0, none⟩) 1 1], u.oneCell' = true) := hidden (by intro u hu; simp at hu; subst hu; rfl)
      go_wp2_with (at_builtin; refine wpList_append_all rfl _ _ 88 66 rfl (by kernel_rfl) rxs_info rfl (by decide) w.heap.size _ 0 [] HM4 _ 1 _ HX H1 rfl rfl (by decide) (by decide) (by simp; omega) ?_; intro v' w' hA)
      go_roundg 0
      case measure => omega
      case rel => exact .inr ⟨rfl, rfl, (hb5.alloc hz _).trans hA.out.below, B, hidden (hA.out.keeps.holds (fun e => by simp [Value.ownBlock] at e; omega) (HB.out.alloc _)), hidden hA.out.mine⟩
    · obtain ⟨A, c, rfl⟩ := HL.out.value
      obtain ⟨L, o, rfl, _, l0⟩ := HL.out.rd (T := fun _ => True) (fun _ _ _ _ => trivial) |>.cell0
      have HC := hidden (cat_A B L o c wr HB.out l0)
      clear l0
      go_wp2_with fail
      refine HC.out.mono ?_
      rintro r w2 ⟨⟨u, rfl, HF⟩, hb8⟩
      go_wp2
      go_ret
      have hF : FlatM rxCells 5 110 w2 w.heap.size u [rxA] := Mine.base HF.out hb9.size
      exact ⟨⟨u, rfl, hidden hF⟩, below_lit hb9 hb8⟩

def rxB : Rx := ⟨1, 0, 17179869184, 0, 0⟩
set_option maxRecDepth 20000 in
theorem with_B (w : World) : Calls Try.prog 70 #[.agg #[.int .u64 0, .int .u64 0, .int .u64 0, .int .u64 0], .int .i64 98] w fun r w' => r = .returned (.agg #[.int .u64 0, .int .u64 17179869184, .int .u64 0, .int .u64 0]) ∧ Below w.heap.size w w' := by
  have hq : bits BinOp.or IntKind.u64 0 17179869184 = 17179869184 := by kernel_rfl
  go_enter Try.func70, Try.ntmps70
  go_wp2
  refine bodyPost_ret (v := .agg #[.int .u64 0, .int .u64 17179869184, .int .u64 0, .int .u64 0]) (by simp [results, Try.results70, go_sem]) rfl ⟨rfl, (by repeat (first | (with_reducible exact Below.refl _ _) | (with_reducible assumption) | (with_reducible refine Below.drew ?_) | (with_reducible refine below_drewN ?_ _) | ((with_reducible refine below_alloc ?_ ?_); (focus (first | omega | (simp; done) | (simp; omega)))) | ((with_reducible refine below_set ?_ ?_); (focus (first | omega | (simp; done) | (simp; omega))))))⟩
set_option maxRecDepth 20000 in
theorem one_B (w : World) : Calls Try.prog 53 #[.int .u8 98] w fun r w' => r = .returned (.agg #[.int .u64 0, .int .u64 17179869184, .int .u64 0, .int .u64 0]) ∧ Below w.heap.size w w' := by
  have HW := hidden with_B
  have HH := hidden (Holds.new w 92 #[.int .u64 0, .int .u64 0, .int .u64 0, .int .u64 0])
  have hb := (Below.refl w.heap.size w).alloc (Nat.le_refl _) (.cells #[.int .u64 0, .int .u64 0, .int .u64 0, .int .u64 0] 92)
  go_enter Try.func53, Try.ntmps53
  go_wp2_with fail
  refine (HW.out _).mono ?_
  rintro r w2 ⟨rfl, hb2⟩
  have H2 := HH.out.below hb2 HH.out.lt
  have hbw := below_lit hb hb2
  have o0 : w2.cell? ⟨w.heap.size, 0, none⟩ = some (.int .u64 0) := H2.cell 0
  have o1 : w2.cell? ⟨w.heap.size, 1, none⟩ = some (.int .u64 0) := H2.cell 1
  have o2 : w2.cell? ⟨w.heap.size, 2, none⟩ = some (.int .u64 0) := H2.cell 2
  have o3 : w2.cell? ⟨w.heap.size, 3, none⟩ = some (.int .u64 0) := H2.cell 3
  have f0 := H2.frozen 0; have f1 := H2.frozen 1; have f2 := H2.frozen 2; have f3 := H2.frozen 3; have hl := H2.lt
  clear hb2 HW HH hb H2
  go_wp2
  refine bodyPost_ret (v := .agg #[.int .u64 0, .int .u64 17179869184, .int .u64 0, .int .u64 0]) (by simp [results, Try.results53, go_sem, o0, o1, o2, o3]) rfl ⟨rfl, (by repeat (first | (with_reducible exact Below.refl _ _) | (with_reducible assumption) | (with_reducible refine Below.drew ?_) | (with_reducible refine below_drewN ?_ _) | ((with_reducible refine below_alloc ?_ ?_); (focus (first | omega | (simp; done) | (simp; omega)))) | ((with_reducible refine below_set ?_ ?_); (focus (first | omega | (simp; done) | (simp; omega))))))⟩
set_option maxRecDepth 20000 in
theorem set_B (w : World) : Calls Try.prog 52 #[.agg #[.int .u64 0, .int .u64 17179869184, .int .u64 0, .int .u64 0]] w fun r w' => (∃ B, r = .returned (.slice (some ⟨B, 0, none⟩) 1 1) ∧ w.heap.size ≤ B ∧ Hid (Holds w' B 110 (rxCells rxB).toArray)) ∧ Below w.heap.size w w' := by
  go_enter Try.func52, Try.ntmps52
  go_wp2
  go_ret
  exact ⟨⟨_, rfl, by simp, hidden (Holds.new_at (by simp))⟩, (by repeat (first | (with_reducible exact Below.refl _ _) | (with_reducible assumption) | (with_reducible refine Below.drew ?_) | (with_reducible refine below_drewN ?_ _) | ((with_reducible refine below_alloc ?_ ?_); (focus (first | omega | (simp; done) | (simp; omega)))) | ((with_reducible refine below_set ?_ ?_); (focus (first | omega | (simp; done) | (simp; omega))))))⟩
set_option maxRecDepth 20000 in
theorem many_B (B L o c : Nat) (w : World) (h1 : Holds w B 110 (rxCells rxB).toArray) (l0 : w.cell? ⟨L, o, none⟩ = some (.slice (some ⟨B, 0, none⟩) 1 1)) : Calls Try.prog 72 #[.slice (some ⟨L, o, none⟩) 1 c, .int .i64 3] w fun r w' => (∃ u, r = .returned u ∧ Hid (FlatM rxCells 5 110 w' w.heap.size u [rxB])) ∧ Below w.heap.size w w' := by
  have hb := (Below.refl w.heap.size w).alloc (Nat.le_refl _) (.cells #[] 110)
  have HM : Hid (Mine (w.alloc (.cells #[] 110)) w.heap.size 110 5 (.slice (some ⟨w.heap.size, 0, none⟩) 0 0) 0 []) := hidden (.inr ⟨rfl, rfl, _, rfl⟩)
  have HX : Hid (Rd (w.alloc (.cells #[] 110)) (fun _ => True) 5 (.slice (some ⟨B, 0, none⟩) 1 1) 1 (rxCells rxB)) := hidden (rd_lit' (h1.alloc _) trivial rfl rfl (by decide))
  have l1 : L < w.heap.size := World.block_lt_of_cell? _ _ l0
  have H1 : Hid (∀ u ∈ rxCells rxB, u.oneCell' = true) := hidden (by intro u hu; simp only [rxCells, rxB, List.mem_cons, List.not_mem_nil, or_false] at hu; rcases hu with rfl | rfl | rfl | rfl | rfl <;> rfl)
  clear h1
  go_enter Try.func72, Try.ntmps72
  go_wp2
  go_loopg [5, 6] 1 (fun gh oo kk wr => (gh = 1 ∧ kk = .int .i64 0 ∧ oo = .slice (some ⟨w.heap.size, 0, none⟩) 0 0 ∧ wr = w.alloc (.cells #[] 110)) ∨ (gh = 0 ∧ kk = .int .i64 1 ∧ Hid (FlatM rxCells 5 110 wr w.heap.size oo [rxB]) ∧ Below w.heap.size w wr))
  case atStart => exact .inl ⟨rfl, rfl, rfl, rfl⟩
  case round =>
    rcases hrel with ⟨rfl, rfl, rfl, rfl⟩ | ⟨rfl, rfl, HF, hb9⟩
    · go_wp2_with (at_builtin; refine wpList_append_all rfl _ _ 66 110 rfl (by kernel_rfl) rxLit_info rfl (by decide) w.heap.size _ 0 [] HM _ 1 (rxCells rxB) HX H1 rfl rfl (by decide) (by decide) (by simp) ?_; intro v' w' hA)
      go_roundg 0
      case measure => omega
      case rel => exact .inr ⟨rfl, rfl, hidden hA.out.mine, hb.trans hA.out.below⟩
    · go_wp2
      go_ret
      exact ⟨⟨_, rfl, HF⟩, hb9⟩
set_option maxRecDepth 20000 in
theorem cat_B (B L o c : Nat) (w : World) (h1 : Holds w B 110 (rxCells rxB).toArray) (l0 : w.cell? ⟨L, o, none⟩ = some (.slice (some ⟨B, 0, none⟩) 1 1)) : Calls Try.prog 54 #[.slice (some ⟨L, o, none⟩) 1 c] w fun r w' => (∃ u, r = .returned u ∧ Hid (FlatM rxCells 5 110 w' w.heap.size u [rxB])) ∧ Below w.heap.size w w' := by
  have HM := hidden (many_B B L o c w h1 l0)
  clear h1 l0
  go_enter Try.func54, Try.ntmps54
  go_wp2_with fail
  refine HM.out.mono ?_
  rintro r w2 ⟨⟨u, rfl, HF⟩, hb⟩
  go_wp2
  go_ret
  exact ⟨⟨u, rfl, HF⟩, hb⟩
set_option maxRecDepth 20000 in
set_option maxHeartbeats 4000000 in
theorem text_B (w : World) : Calls Try.prog 37 #[.string ⟨#[98]⟩] w fun r w' => (∃ u, r = .returned u ∧ Hid (FlatM rxCells 5 110 w' w.heap.size u [rxB])) ∧ Below w.heap.size w w' := by
  have HO := hidden one_B
  have HS := hidden set_B
  have hb := (Below.refl w.heap.size w).alloc (Nat.le_refl _) (.cells #[] 66)
  have HM0 : Hid (Mine (w.alloc (.cells #[] 66)) w.heap.size 66 1 (.slice (some ⟨w.heap.size, 0, none⟩) 0 0) 0 []) := hidden (.inr ⟨rfl, rfl, _, rfl⟩)
  go_enter Try.func37, Try.ntmps37
  go_wp2
  go_loopg [3, 4] 1 (fun gh oo kk wr => (gh = 1 ∧ kk = .int .i64 0 ∧ oo = .slice (some ⟨w.heap.size, 0, none⟩) 0 0 ∧ wr = w.alloc (.cells #[] 66)) ∨ (gh = 0 ∧ kk = .int .i64 1 ∧ Below w.heap.size w wr ∧ ∃ B : Nat, Hid (Holds wr B 110 (rxCells rxB).toArray) ∧ Hid (Mine wr w.heap.size 66 1 oo 1 [.slice (some ⟨B, 0, none⟩) 1 1])))
  case atStart => exact .inl ⟨rfl, rfl, rfl, rfl⟩
  case round =>
    rcases hrel with ⟨rfl, rfl, rfl, rfl⟩ | ⟨rfl, rfl, hb9, B, HB, HL⟩
    · go_wp2_with fail
      refine (HO.out _).mono ?_
      rintro r w2 ⟨rfl, hb2⟩
      replace HM0 := hidden (HM0.out.below hb2)
      have hb3 := below_lit hb hb2
      have hz2 := hb2.size
      simp only [World.size_alloc] at hz2
      clear hb2
      go_wp2_with fail
      refine (HS.out _).mono ?_
      rintro r w4 ⟨⟨B, rfl, hB, HB⟩, hb4⟩
      replace HM0 := hidden (HM0.out.below hb4)
      have hb5 := below_lit hb3 hb4
      clear hb4 hb3
      have hz := hb5.size
      have HM4 : Hid (Mine (w4.alloc (.cells #[.slice (some ⟨B, 0, none⟩) 1 1] 66)) w.heap.size 66 1 (.slice (some ⟨w.heap.size, 0, none⟩) 0 0) 0 []) := hidden (HM0.out.alloc _)
      have HX : Hid (Rd (w4.alloc (.cells #[.slice (some ⟨B, 0, none⟩) 1 1] 66)) (fun _ => True) 1 (.slice (some ⟨w4.heap.size, 0, none⟩) 1 1) 1 [.slice (some ⟨B, 0, none⟩) 1 1]) := hidden (rd_lit' (Holds.new _ _ _) trivial rfl rfl (by decide))
      have H1 : Hid (∀ u ∈ [Value.slice (some ⟨B, 0, none⟩) 1 1], u.oneCell' = true) := hidden (by intro u hu; simp at hu; subst hu; rfl)
      go_wp2_with (at_builtin; refine wpList_append_all rfl _ _ 88 66 rfl (by kernel_rfl) rxs_info rfl (by decide) w.heap.size _ 0 [] HM4 _ 1 _ HX H1 rfl rfl (by decide) (by decide) (by simp; omega) ?_; intro v' w' hA)
      go_roundg 0
      case measure => omega
      case rel => exact .inr ⟨rfl, rfl, (hb5.alloc hz _).trans hA.out.below, B, hidden (hA.out.keeps.holds (fun e => by simp [Value.ownBlock] at e; omega) (HB.out.alloc _)), hidden hA.out.mine⟩
    · obtain ⟨A, c, rfl⟩ := HL.out.value
      obtain ⟨L, o, rfl, _, l0⟩ := HL.out.rd (T := fun _ => True) (fun _ _ _ _ => trivial) |>.cell0
      have HC := hidden (cat_B B L o c wr HB.out l0)
      clear l0
      go_wp2_with fail
      refine HC.out.mono ?_
      rintro r w2 ⟨⟨u, rfl, HF⟩, hb8⟩
      go_wp2
      go_ret
      have hF : FlatM rxCells 5 110 w2 w.heap.size u [rxB] := Mine.base HF.out hb9.size
      exact ⟨⟨u, rfl, hidden hF⟩, below_lit hb9 hb8⟩
end Go.Proofs.Ytmmhkjdnejeooaa
