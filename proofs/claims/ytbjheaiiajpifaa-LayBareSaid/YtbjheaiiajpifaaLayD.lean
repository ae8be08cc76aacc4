/-
  The item of a production that a node stands for (the document's item), plainly; its walk where there is none.
-/
import Derived.Test.YtbjheaiiajpifaaSameL
import Derived.Test.YtbjheaiiajpifaaLayC
namespace Go.Proofs.Ytbjheaiiajpifaa.T
open Go.RowKit Go.Shelf

def badAt (t : List Node) (i : Nat) : Bool := match t[i]? with | some x => decide (x.kind = 4) | none => false
/-- How many of the first k are not bad. -/
def cntTo (t : List Node) (L : List Nat) (k : Nat) : Nat := ((L.take k).filter fun x => !badAt t x).length
theorem cntTo_succ {t : List Node} {L : List Nat} {k x : Nat} (h : L[k]? = some x) : cntTo t L (k + 1) = cntTo t L k + if badAt t x = true then 0 else 1 := by
  obtain ⟨hk, e⟩ := List.getElem?_eq_some_iff.1 h
  unfold cntTo
  rw [List.take_succ_eq_append_getElem hk, List.filter_append, List.length_append, e, List.filter_cons]
  cases badAt t x <;> rfl
/-- The production that the node at u is made by. -/
def prodAt (g : Gram) (t : List Node) (u : Nat) : Option Prod := match t[u]? with
  | some x => if x.kind = 2 ∧ 0 ≤ x.n then g.prods[x.n.toNat]? else none
  | none => none
def itemOf (g : Gram) (t : List Node) (i : Nat) : Option Item :=
  if upN t i i < 0 ∨ badAt t i = true then none else match prodAt g t (upN t i i).toNat with
    | some p => p.right[cntTo t (kidsL t (upN t i i).toNat) ((kidsL t (upN t i i).toNat).idxOf i)]?
    | none => none
def itemD (o : Option Item) : Item := match o with | some x => x | none => zeroIt

set_option maxRecDepth 20000 in
set_option maxHeartbeats 8000000 in
theorem ref_item_top (v a' b' c' : Value) (g : Gram) (t : List Node) (w : World) (h4 : t.length ≤ 140737488355) (hT : Tree t) (HG : GramIs w (Old w) a' b' c' g) (hN : Nds w (Old w) v t) :
    Calls Try.prog 64 #[.agg (gramCells a' b' c' g), v, .int .i64 0] w fun r w' => r = .returned (.tuple #[.agg #[.bool false, .int .i64 0, .int .i64 0, .int .i64 0], .bool false]) ∧ Below w.heap.size w w' := by
  have hlen := tree_len hT
  have HU := hidden (fun (w' : World) (hb : Below w.heap.size w w') => ref_up v t 0 w' h4 (hN.old hb))
  rw [show upOf t 0 = -1 from upOf_in hT (k := 0) hlen] at HU
  obtain ⟨A1, k1, rfl, _, _⟩ := HG.1.value
  obtain ⟨A2, k2, rfl, _, _⟩ := HG.2.1.val
  obtain ⟨A3, k3, rfl, _, _⟩ := HG.2.2.value
  obtain ⟨A, c, rfl, hc1, hc2⟩ := hN.value
  unfold maxLen at hc2
  clear HG hN hT
  unfold gramCells
  have hb0 : Below w.heap.size w ((w.alloc (.cells #[.slice A1 g.toks.length k1, .slice A2 g.rules.length k2, .slice A3 g.prods.length k3, .int .i64 g.start, .int .i64 g.states, .int .i64 g.text, .int .i64 g.nodes, .int .i64 g.pairs] 26)).alloc (.cells #[.bool false, .int .i64 0, .int .i64 0, .int .i64 0] 80)) := (by repeat (first | (with_reducible exact Below.refl _ _) | (with_reducible assumption) | (with_reducible refine Below.drew ?_) | (with_reducible refine below_drewN ?_ _) | ((with_reducible refine below_alloc ?_ ?_); (focus (first | omega | (simp; done) | (simp; omega)))) | ((with_reducible refine below_set ?_ ?_); (focus (first | omega | (simp; done) | (simp; omega))))))
  have HB0 : Hid (Holds ((w.alloc (.cells #[.slice A1 g.toks.length k1, .slice A2 g.rules.length k2, .slice A3 g.prods.length k3, .int .i64 g.start, .int .i64 g.states, .int .i64 g.text, .int .i64 g.nodes, .int .i64 g.pairs] 26)).alloc (.cells #[.bool false, .int .i64 0, .int .i64 0, .int .i64 0] 80)) (w.heap.size + 1) 80 #[.bool false, .int .i64 0, .int .i64 0, .int .i64 0]) := hidden (Holds.new_at (by simp))
  go_enter Try.func64, Try.ntmps64
  go_wp2_with fail
  refine (HU.out _ hb0).mono ?_
  rintro r w2 ⟨rfl, hb2⟩
  have hzl := HB0.out.lt
  replace HB0 := hidden (HB0.out.below hb2 hzl)
  replace hb0 := below_more hb0 hb2
  clear hb2 HU
  go_wp2_with fail
  refine wp_region_ext (by kernel_rfl) (by kernel_rfl) ?_
  repeat (go_big_quiet_step (fail))
  refine wpQuiet_nil ?_
  intro w3 hb3
  replace HB0 := hidden (HB0.out.below hb3 HB0.out.lt)
  replace hb0 := below_more hb0 hb3
  have hz3 := HB0.out.lt
  have o0 : w3.cell? ⟨w.heap.size + 1, 0, none⟩ = some (.bool false) := HB0.out.cell 0
  have o1 : w3.cell? ⟨w.heap.size + 1, 1, none⟩ = some (.int .i64 0) := HB0.out.cell 1
  have o2 : w3.cell? ⟨w.heap.size + 1, 2, none⟩ = some (.int .i64 0) := HB0.out.cell 2
  have o3 : w3.cell? ⟨w.heap.size + 1, 3, none⟩ = some (.int .i64 0) := HB0.out.cell 3
  have f0 := HB0.out.frozen 0; have f1 := HB0.out.frozen 1; have f2 := HB0.out.frozen 2; have f3 := HB0.out.frozen 3
  clear hb3 HB0 hzl
  go_wp2
  refine bodyPost_ret (v := .tuple #[.agg #[.bool false, .int .i64 0, .int .i64 0, .int .i64 0], .bool false]) (by simp [results, Try.results64, go_sem, o0, o1, o2, o3]) rfl ⟨rfl, (by repeat (first | (with_reducible exact Below.refl _ _) | (with_reducible assumption) | (with_reducible refine Below.drew ?_) | (with_reducible refine below_drewN ?_ _) | ((with_reducible refine below_alloc ?_ ?_); (focus (first | omega | (simp; done) | (simp; omega)))) | ((with_reducible refine below_set ?_ ?_); (focus (first | omega | (simp; done) | (simp; omega))))))⟩

set_option maxRecDepth 20000 in
set_option maxHeartbeats 8000000 in
theorem ref_item_none (v a' b' c' : Value) (g : Gram) (t : List Node) (i a : Nat) (x y : Node) (hi : i < t.length) (hup : upN t i i = (a : Int)) (hx : t[a]? = some x) (hy : t[i]? = some y) (hor : x.kind ≠ 2 ∨ x.n < 0 ∨ (g.prods.length : Int) ≤ x.n ∨ y.kind = 4) (w : World) (h4 : t.length ≤ 140737488355) (hT : Tree t) (HG : GramIs w (Old w) a' b' c' g) (hN : Nds w (Old w) v t) :
    Calls Try.prog 64 #[.agg (gramCells a' b' c' g), v, .int .i64 (i : Int)] w fun r w' => r = .returned (.tuple #[.agg #[.bool false, .int .i64 0, .int .i64 0, .int .i64 0], .bool false]) ∧ Below w.heap.size w w' := by
  have hlen := tree_len hT
  have HU := hidden (fun (w' : World) (hb : Below w.heap.size w w') => ref_up v t i w' h4 (hN.old hb))
  rw [upOf_in hT hi, hup] at HU
  have ha : a < t.length := (List.getElem?_eq_some_iff.1 hx).1
  obtain ⟨A1, k1, rfl, _, _⟩ := HG.1.value
  obtain ⟨A2, k2, rfl, _, _⟩ := HG.2.1.val
  obtain ⟨A3, k3, rfl, _, _⟩ := HG.2.2.value
  have HN := hidden (fun (w' : World) (hb : Below w.heap.size w w') => hN.old hb)
  obtain ⟨A, c, rfl, hc1, hc2⟩ := hN.value
  unfold maxLen at hc2
  clear HG hN hT hup
  unfold gramCells
  have hb0 : Below w.heap.size w ((w.alloc (.cells #[.slice A1 g.toks.length k1, .slice A2 g.rules.length k2, .slice A3 g.prods.length k3, .int .i64 g.start, .int .i64 g.states, .int .i64 g.text, .int .i64 g.nodes, .int .i64 g.pairs] 26)).alloc (.cells #[.bool false, .int .i64 0, .int .i64 0, .int .i64 0] 80)) := (by repeat (first | (with_reducible exact Below.refl _ _) | (with_reducible assumption) | (with_reducible refine Below.drew ?_) | (with_reducible refine below_drewN ?_ _) | ((with_reducible refine below_alloc ?_ ?_); (focus (first | omega | (simp; done) | (simp; omega)))) | ((with_reducible refine below_set ?_ ?_); (focus (first | omega | (simp; done) | (simp; omega))))))
  have HGb : Hid (Holds ((w.alloc (.cells #[.slice A1 g.toks.length k1, .slice A2 g.rules.length k2, .slice A3 g.prods.length k3, .int .i64 g.start, .int .i64 g.states, .int .i64 g.text, .int .i64 g.nodes, .int .i64 g.pairs] 26)).alloc (.cells #[.bool false, .int .i64 0, .int .i64 0, .int .i64 0] 80)) w.heap.size 26 #[.slice A1 g.toks.length k1, .slice A2 g.rules.length k2, .slice A3 g.prods.length k3, .int .i64 g.start, .int .i64 g.states, .int .i64 g.text, .int .i64 g.nodes, .int .i64 g.pairs]) := hidden ((Holds.new w _ _).alloc _)
  have HB0 : Hid (Holds ((w.alloc (.cells #[.slice A1 g.toks.length k1, .slice A2 g.rules.length k2, .slice A3 g.prods.length k3, .int .i64 g.start, .int .i64 g.states, .int .i64 g.text, .int .i64 g.nodes, .int .i64 g.pairs] 26)).alloc (.cells #[.bool false, .int .i64 0, .int .i64 0, .int .i64 0] 80)) (w.heap.size + 1) 80 #[.bool false, .int .i64 0, .int .i64 0, .int .i64 0]) := hidden (Holds.new_at (by simp))
  go_enter Try.func64, Try.ntmps64
  go_wp2_with fail
  refine (HU.out _ hb0).mono ?_
  rintro r w2 ⟨rfl, hb2⟩
  have hzl := HB0.out.lt
  replace HB0 := hidden (HB0.out.below hb2 hzl)
  replace HGb := hidden (HGb.out.below hb2 (by simp; omega))
  replace hb0 := below_more hb0 hb2
  clear hb2 HU
  have hg2 : w2.cell? ⟨w.heap.size, 2, none⟩ = some (.slice A3 g.prods.length k3) := HGb.out.cell 2
  obtain ⟨b1, o1', c1', hv1, _, _, _, hat⟩ := (HN.out _ hb0).open_ (by intro e; subst e; simp at hi)
  simp only [Value.slice.injEq] at hv1
  obtain ⟨rfl, _, rfl⟩ := hv1
  obtain ⟨_, x0, x1, _, _, _, _⟩ := hat a _ hx
  obtain ⟨_, y0, _, _, _, _, _⟩ := hat i _ hy
  have z0 := Ext.cell x0; have z1 := Ext.cell x1; have z2 := Ext.cell y0; have z3 := Ext.cell hg2
  clear x0 x1 y0 hat HN hx hy hg2 HGb
  have hcs : x.kind ≠ 2 ∨ (x.kind = 2 ∧ x.n < 0) ∨ (x.kind = 2 ∧ ¬ x.n < 0 ∧ (g.prods.length : Int) ≤ x.n) ∨ (x.kind = 2 ∧ ¬ x.n < 0 ∧ ¬ (g.prods.length : Int) ≤ x.n ∧ y.kind = 4) := by omega
  clear hor
  have q0 : decide ((a : Int) < 0) = false := by simp
  rcases hcs with h1 | ⟨h1, h2⟩ | ⟨h1, h2, h3⟩ | ⟨h1, h2, h3, h4'⟩
  · have q1 : (x.kind != 2) = true := by simpa using h1
    go_wp2_with fail
    refine wp_region_ext (by kernel_rfl) (by kernel_rfl) ?_
    repeat (go_big_quiet_step (fail))
    refine wpQuiet_nil ?_
    intro w3 hb3
    replace HB0 := hidden (HB0.out.below hb3 HB0.out.lt)
    replace hb0 := below_more hb0 hb3
    have hz3 := HB0.out.lt
    have o0 : w3.cell? ⟨w.heap.size + 1, 0, none⟩ = some (.bool false) := HB0.out.cell 0
    have o1 : w3.cell? ⟨w.heap.size + 1, 1, none⟩ = some (.int .i64 0) := HB0.out.cell 1
    have o2 : w3.cell? ⟨w.heap.size + 1, 2, none⟩ = some (.int .i64 0) := HB0.out.cell 2
    have o3 : w3.cell? ⟨w.heap.size + 1, 3, none⟩ = some (.int .i64 0) := HB0.out.cell 3
    have f0 := HB0.out.frozen 0; have f1 := HB0.out.frozen 1; have f2 := HB0.out.frozen 2; have f3 := HB0.out.frozen 3
    clear hb3 HB0 hzl z0 z1 z2 z3
    go_wp2
    refine bodyPost_ret (v := .tuple #[.agg #[.bool false, .int .i64 0, .int .i64 0, .int .i64 0], .bool false]) (by simp [results, Try.results64, go_sem, o0, o1, o2, o3]) rfl ⟨rfl, (by repeat (first | (with_reducible exact Below.refl _ _) | (with_reducible assumption) | (with_reducible refine Below.drew ?_) | (with_reducible refine below_drewN ?_ _) | ((with_reducible refine below_alloc ?_ ?_); (focus (first | omega | (simp; done) | (simp; omega)))) | ((with_reducible refine below_set ?_ ?_); (focus (first | omega | (simp; done) | (simp; omega))))))⟩
  · have q1 : (x.kind != 2) = false := by simp [h1]
    have q2 : decide (x.n < 0) = true := by simp [h2]
    go_wp2_with fail
    refine wp_region_ext (by kernel_rfl) (by kernel_rfl) ?_
    repeat (go_big_quiet_step (fail))
    refine wpQuiet_nil ?_
    intro w3 hb3
    replace HB0 := hidden (HB0.out.below hb3 HB0.out.lt)
    replace hb0 := below_more hb0 hb3
    have hz3 := HB0.out.lt
    have o0 : w3.cell? ⟨w.heap.size + 1, 0, none⟩ = some (.bool false) := HB0.out.cell 0
    have o1 : w3.cell? ⟨w.heap.size + 1, 1, none⟩ = some (.int .i64 0) := HB0.out.cell 1
    have o2 : w3.cell? ⟨w.heap.size + 1, 2, none⟩ = some (.int .i64 0) := HB0.out.cell 2
    have o3 : w3.cell? ⟨w.heap.size + 1, 3, none⟩ = some (.int .i64 0) := HB0.out.cell 3
    have f0 := HB0.out.frozen 0; have f1 := HB0.out.frozen 1; have f2 := HB0.out.frozen 2; have f3 := HB0.out.frozen 3
    clear hb3 HB0 hzl z0 z1 z2 z3
    go_wp2
    refine bodyPost_ret (v := .tuple #[.agg #[.bool false, .int .i64 0, .int .i64 0, .int .i64 0], .bool false]) (by simp [results, Try.results64, go_sem, o0, o1, o2, o3]) rfl ⟨rfl, (by repeat (first | (with_reducible exact Below.refl _ _) | (with_reducible assumption) | (with_reducible refine Below.drew ?_) | (with_reducible refine below_drewN ?_ _) | ((with_reducible refine below_alloc ?_ ?_); (focus (first | omega | (simp; done) | (simp; omega)))) | ((with_reducible refine below_set ?_ ?_); (focus (first | omega | (simp; done) | (simp; omega))))))⟩
  · have q1 : (x.kind != 2) = false := by simp [h1]
    have q2 : decide (x.n < 0) = false := by simp [h2]
    have q3 : decide ((g.prods.length : Int) ≤ x.n) = true := by simp [h3]
    go_wp2_with fail
    refine wp_region_ext (by kernel_rfl) (by kernel_rfl) ?_
    repeat (go_big_quiet_step (fail))
    refine wpQuiet_nil ?_
    intro w3 hb3
    replace HB0 := hidden (HB0.out.below hb3 HB0.out.lt)
    replace hb0 := below_more hb0 hb3
    have hz3 := HB0.out.lt
    have o0 : w3.cell? ⟨w.heap.size + 1, 0, none⟩ = some (.bool false) := HB0.out.cell 0
    have o1 : w3.cell? ⟨w.heap.size + 1, 1, none⟩ = some (.int .i64 0) := HB0.out.cell 1
    have o2 : w3.cell? ⟨w.heap.size + 1, 2, none⟩ = some (.int .i64 0) := HB0.out.cell 2
    have o3 : w3.cell? ⟨w.heap.size + 1, 3, none⟩ = some (.int .i64 0) := HB0.out.cell 3
    have f0 := HB0.out.frozen 0; have f1 := HB0.out.frozen 1; have f2 := HB0.out.frozen 2; have f3 := HB0.out.frozen 3
    clear hb3 HB0 hzl z0 z1 z2 z3
    go_wp2
    refine bodyPost_ret (v := .tuple #[.agg #[.bool false, .int .i64 0, .int .i64 0, .int .i64 0], .bool false]) (by simp [results, Try.results64, go_sem, o0, o1, o2, o3]) rfl ⟨rfl, (by repeat (first | (with_reducible exact Below.refl _ _) | (with_reducible assumption) | (with_reducible refine Below.drew ?_) | (with_reducible refine below_drewN ?_ _) | ((with_reducible refine below_alloc ?_ ?_); (focus (first | omega | (simp; done) | (simp; omega)))) | ((with_reducible refine below_set ?_ ?_); (focus (first | omega | (simp; done) | (simp; omega))))))⟩
  · have q1 : (x.kind != 2) = false := by simp [h1]
    have q2 : decide (x.n < 0) = false := by simp [h2]
    have q3 : decide ((g.prods.length : Int) ≤ x.n) = false := by simp [h3]
    have q4 : (y.kind == 4) = true := by simp [h4']
    go_wp2_with fail
    refine wp_region_ext (by kernel_rfl) (by kernel_rfl) ?_
    repeat (go_big_quiet_step (fail))
    refine wpQuiet_nil ?_
    intro w3 hb3
    replace HB0 := hidden (HB0.out.below hb3 HB0.out.lt)
    replace hb0 := below_more hb0 hb3
    have hz3 := HB0.out.lt
    have o0 : w3.cell? ⟨w.heap.size + 1, 0, none⟩ = some (.bool false) := HB0.out.cell 0
    have o1 : w3.cell? ⟨w.heap.size + 1, 1, none⟩ = some (.int .i64 0) := HB0.out.cell 1
    have o2 : w3.cell? ⟨w.heap.size + 1, 2, none⟩ = some (.int .i64 0) := HB0.out.cell 2
    have o3 : w3.cell? ⟨w.heap.size + 1, 3, none⟩ = some (.int .i64 0) := HB0.out.cell 3
    have f0 := HB0.out.frozen 0; have f1 := HB0.out.frozen 1; have f2 := HB0.out.frozen 2; have f3 := HB0.out.frozen 3
    clear hb3 HB0 hzl z0 z1 z2 z3
    go_wp2
    refine bodyPost_ret (v := .tuple #[.agg #[.bool false, .int .i64 0, .int .i64 0, .int .i64 0], .bool false]) (by simp [results, Try.results64, go_sem, o0, o1, o2, o3]) rfl ⟨rfl, (by repeat (first | (with_reducible exact Below.refl _ _) | (with_reducible assumption) | (with_reducible refine Below.drew ?_) | (with_reducible refine below_drewN ?_ _) | ((with_reducible refine below_alloc ?_ ?_); (focus (first | omega | (simp; done) | (simp; omega)))) | ((with_reducible refine below_set ?_ ?_); (focus (first | omega | (simp; done) | (simp; omega))))))⟩
end Go.Proofs.Ytbjheaiiajpifaa.T
