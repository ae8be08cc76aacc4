/-
  slices.Clone at nodes and at pieces. Nodes in memory of the call's own. arena.owned: nodes cloned, leads too. arena.owned, walked. Own nodes put behind own nodes; arena.join. arena.One. Are whole numbers the same (the document's answer of layer 11)? And the chapter's example, plainly. law27.knows: the chapter's example. A part of nodes, as a slice of the slice. arena.Sub. Parts of trees: plain laws. Are pieces, are nodes the same (the document's answers of layers 16 and 27)? Are nodes the same (the document's answer of layer 27)? arena.Same: slices.EqualFunc at nodes, slices.Equal at pieces.
-/
import Derived.Test.YtmmhkjdnejeooaaB1
import Derived.Test.YtmmhkjdnejeooaaT2
import Derived.Lib.SliceRun
import Derived.Laws.OwnMore
import Derived.Laws.StructEq
namespace Go.Proofs.Ytmmhkjdnejeooaa.T
open Go.RowKit Go.Shelf

theorem node_info : Hid (TyInfo Try.prog 37 (.agg #[.int .i64 0, .int .i64 0, .int .i64 0, .slice none 0 0, .string ⟨#[]⟩]) 5 64) :=
  hidden (info_parts (show (Try.prog.info? 37).map (fun i => (i.zero, i.size, i.bytes)) = some (some (.agg #[.int .i64 0, .int .i64 0, .int .i64 0, .slice none 0 0, .string ⟨#[]⟩]), 5, 64) by kernel_rfl))
theorem piece_info : Hid (TyInfo Try.prog 85 (.agg #[.int .i64 0, .string ⟨#[]⟩]) 2 24) :=
  hidden (info_parts (show (Try.prog.info? 85).map (fun i => (i.zero, i.size, i.bytes)) = some (some (.agg #[.int .i64 0, .string ⟨#[]⟩]), 2, 24) by kernel_rfl))

/-- All of another slice is put behind the call's own. -/
theorem wpList_append_all {P : Program} {w : World} {ops : Array Oper} {rest : List Oper} {o : Oper} {a : Act} {Q : Exit → Act → World → Prop} (hgd : o.guard = none) (s x : Operand) (t e : TypeId)
    (ho : o.op = .call { callee := .builtin .append, args := #[s, x], argTypes := #[t, t] }) (ht : P.underlying t = some (.slice e)) {z : Value} {size bytes : Nat} (HI : Hid (TyInfo P e z size bytes)) (hzs : z.cells.size = size) (hsz : 0 < size)
    (base : Nat) (v : Value) (n : Nat) (xs : List Value) (HM : Hid (Mine w base e size v n xs)) {T : Nat → Prop} (y : Value) (m : Nat) (news : List Value) (HX : Hid (Rd w T size y m news)) (H1 : Hid (∀ u ∈ news, u.oneCell' = true))
    (hs : a.eval s = v) (hx : a.eval x = y) (hbytes : (n + m) * bytes ≤ 140737488355328) (hb1 : 0 < bytes) (hb : base ≤ w.heap.size)
    (h : ∀ v' w', Hid (Appended w base e size v (n + m) (xs ++ news) v' w') → wpList P ops Q rest (a.put o.dst v') w') : wpList P ops Q (o :: rest) a w := by
  obtain ⟨i, hi, hz, hs', hby⟩ := HI.out
  exact wpList_append_rd hgd s x t ho base e i z size bytes ht hi hz hs' hby hzs hsz v n xs hs HM.out (T := T) y m news hx HX.out H1.out hbytes hb1 hb (fun v' w' hA => h v' w' (hidden hA))

theorem _root_.Go.Proofs.Ytmmhkjdnejeooaa.Rd.none_nil {w : World} {T : Nat → Prop} {size n c : Nat} {cs : List Value} (h : Rd w T size (.slice none n c) n cs) (hs : 0 < size) : n = 0 ∧ cs = [] := by
  obtain ⟨hl, A, c', hv, h1, h2, h3⟩ := h
  simp only [Value.slice.injEq] at hv
  obtain ⟨rfl, _, _⟩ := hv
  by_cases h0 : 0 < cs.length
  · obtain ⟨b, off, e, _⟩ := h3 h0
    cases e
  · have : cs = [] := List.eq_nil_of_length_eq_zero (by omega)
    subst this
    refine ⟨?_, rfl⟩
    rcases Nat.mul_eq_zero.1 (show n * size = 0 from hl.symm) with h | h <;> omega

set_option maxRecDepth 20000 in
set_option maxHeartbeats 2000000 in
theorem clone_nodes (v : Value) (n : Nat) (cs : List Value) (T : Nat → Prop) (w : World) (hR : Rd w T 5 v n cs) (h1 : ∀ u ∈ cs, u.oneCell' = true) (hn : n * 64 ≤ 140737488355328) :
    Calls Try.prog 86 #[v] w fun r w' => (∃ u, r = .returned u ∧ Hid (Mine w' w.heap.size 37 5 u n cs) ∧ Hid (∀ q, u.ownBlock = some q → w.heap.size ≤ q ∧ q < w'.heap.size)) ∧ Below w.heap.size w w' := by
  obtain ⟨A, c, rfl, hc1, hc2⟩ := hR.val
  unfold maxLen at hc2
  have HI := node_info
  have H1 := hidden h1
  have HX := hidden (hR.alloc (.cells #[] 37))
  have hb := (Below.refl w.heap.size w).alloc (Nat.le_refl _) (.cells #[] 37)
  have hbz := hb.size
  have HM : Hid (Mine (w.alloc (.cells #[] 37)) w.heap.size 37 5 (.slice (some ⟨w.heap.size, 0, none⟩) 0 0) 0 []) := hidden (.inr ⟨rfl, rfl, _, rfl⟩)
  have q22 : ∀ (w : World) (a : Option Addr) (n c n' c' : Nat), (binOp .eql 27 (.slice a n c) (.slice none n' c')).run Try.prog w = .ok (.bool a.isNone) w := fun w a n c n' c' => Lib.run_eql_slice_nil w _ 37 a n c n' c' (by kernel_rfl)
  cases A with
  | none =>
    obtain ⟨rfl, rfl⟩ := hR.none_nil (by decide)
    clear hR HX
    go_enter Try.func86, Try.ntmps86
    go_wp2
    go_ret
    exact ⟨⟨_, rfl, hidden (Mine.nil _ _ _ _), hidden (fun q hq => by cases hq)⟩, Below.refl _ _⟩
  | some p =>
    clear hR h1
    go_enter Try.func86, Try.ntmps86
    go_wp2_with (at_builtin; refine wpList_append_all rfl _ _ 27 37 rfl (by kernel_rfl) HI rfl (by decide) w.heap.size _ _ _ HM _ _ _ HX H1 rfl rfl (by omega) (by decide) hbz ?_; intro v' w' hA)
    go_ret
    refine ⟨⟨_, rfl, ?_, hidden (fun q hq => ?_)⟩, hb.trans hA.out.below⟩
    · have := hA.out.mine
      rw [Nat.zero_add] at this
      exact hidden this
    · have hq : v'.ownBlock = some q := hq
      rcases hA.out.at_ with h | ⟨g, h, hg, hg2⟩
      · rw [h] at hq; simp [Value.ownBlock] at hq
        have := hA.out.below.size
        have h3 := hA.out.keeps.size
        simp at h3
        omega
      · rw [h] at hq; cases hq; exact ⟨Nat.le_trans hbz hg, by assumption⟩

set_option maxRecDepth 20000 in
set_option maxHeartbeats 2000000 in
theorem clone_pieces (v : Value) (n : Nat) (cs : List Value) (T : Nat → Prop) (w : World) (hR : Rd w T 2 v n cs) (h1 : ∀ u ∈ cs, u.oneCell' = true) (hn : n * 24 ≤ 140737488355328) :
    Calls Try.prog 87 #[v] w fun r w' => (∃ u, r = .returned u ∧ Hid (Mine w' w.heap.size 85 2 u n cs) ∧ Hid (∀ q, u.ownBlock = some q → w.heap.size ≤ q ∧ q < w'.heap.size)) ∧ Below w.heap.size w w' := by
  obtain ⟨A, c, rfl, hc1, hc2⟩ := hR.val
  unfold maxLen at hc2
  have HI := piece_info
  have H1 := hidden h1
  have HX := hidden (hR.alloc (.cells #[] 85))
  have hb := (Below.refl w.heap.size w).alloc (Nat.le_refl _) (.cells #[] 85)
  have hbz := hb.size
  have HM : Hid (Mine (w.alloc (.cells #[] 85)) w.heap.size 85 2 (.slice (some ⟨w.heap.size, 0, none⟩) 0 0) 0 []) := hidden (.inr ⟨rfl, rfl, _, rfl⟩)
  have q22 : ∀ (w : World) (a : Option Addr) (n c n' c' : Nat), (binOp .eql 35 (.slice a n c) (.slice none n' c')).run Try.prog w = .ok (.bool a.isNone) w := fun w a n c n' c' => Lib.run_eql_slice_nil w _ 85 a n c n' c' (by kernel_rfl)
  cases A with
  | none =>
    obtain ⟨rfl, rfl⟩ := hR.none_nil (by decide)
    clear hR HX
    go_enter Try.func87, Try.ntmps87
    go_wp2
    go_ret
    exact ⟨⟨_, rfl, hidden (Mine.nil _ _ _ _), hidden (fun q hq => by cases hq)⟩, Below.refl _ _⟩
  | some p =>
    clear hR h1
    go_enter Try.func87, Try.ntmps87
    go_wp2_with (at_builtin; refine wpList_append_all rfl _ _ 35 85 rfl (by kernel_rfl) HI rfl (by decide) w.heap.size _ _ _ HM _ _ _ HX H1 rfl rfl (by omega) (by decide) hbz ?_; intro v' w' hA)
    go_ret
    refine ⟨⟨_, rfl, ?_, hidden (fun q hq => ?_)⟩, hb.trans hA.out.below⟩
    · have := hA.out.mine
      rw [Nat.zero_add] at this
      exact hidden this
    · have hq : v'.ownBlock = some q := hq
      rcases hA.out.at_ with h | ⟨g, h, hg, hg2⟩
      · rw [h] at hq; simp [Value.ownBlock] at hq
        have := hA.out.below.size
        have h3 := hA.out.keeps.size
        simp at h3
        omega
      · rw [h] at hq; cases hq; exact ⟨Nat.le_trans hbz hg, by assumption⟩
end Go.Proofs.Ytmmhkjdnejeooaa.T

namespace Go.Proofs.Ytmmhkjdnejeooaa.T
open Go.RowKit Go.Shelf

theorem _root_.Go.Proofs.Ytmmhkjdnejeooaa.Mine.stored {w : World} {base : Nat} {e : TypeId} {size g n cap : Nat} {xs : List Value} (h : Mine w base e size (.slice (some ⟨g, 0, none⟩) n cap) n xs) (hn : 0 < n) (j : Nat) (u : Value) :
    Mine (w.setCell ⟨g, j, none⟩ u) base e size (.slice (some ⟨g, 0, none⟩) n cap) n (xs.set j u) := .inl ((h.own hn).stored j u).1

/-- v reads as the nodes t, in blocks from B on that are the call's own: the row, and each lead apart from it. -/
def Own (w : World) (B : Nat) (v : Value) (t : List Node) : Prop :=
  ∃ ls : List Value, ls.length = t.length ∧ Mine w B 37 5 v t.length (allCells t ls) ∧
    ∀ (i : Nat) (x : Node) (l : Value), t[i]? = some x → ls[i]? = some l → Mine w B 85 2 l x.lead.length (x.lead.flatMap pcCells) ∧ ∀ g, l.ownBlock = some g → v.ownBlock ≠ some g ∧ B ≤ g ∧ g < w.heap.size

theorem allCells_set (t : List Node) (ls : List Value) (k : Nat) (l : Value) (h : ls.length = t.length) (hk : k < t.length) : allCells t (ls.set k l) = (allCells t ls).set (k * 5 + 3) l := by
  apply List.ext_getElem?
  intro m
  have hl : (allCells t (ls.set k l)).length = t.length * 5 := allCells_len _ _ (by simp [h])
  have hl2 := allCells_len t ls h
  by_cases hm : m < t.length * 5
  · obtain ⟨i, j, hj, rfl⟩ : ∃ i j, j < 5 ∧ m = i * 5 + j := ⟨m / 5, m % 5, Nat.mod_lt _ (by decide), by omega⟩
    have hi : i < t.length := by omega
    have hat : ∀ (ls : List Value) (hl : ls.length = t.length) , (allCells t ls)[i * 5 + j]? = (ndCells t[i] (ls[i]'(by omega)))[j]? := by
      intro ls hl
      have hz : (t.zip ls)[i]? = some (t[i], ls[i]'(by omega)) := by
        rw [List.getElem?_zip_eq_some]
        exact ⟨List.getElem?_eq_getElem hi, List.getElem?_eq_getElem _⟩
      exact flat_at (fun x : Node × Value => ndCells x.1 x.2) 5 (fun _ => rfl) (t.zip ls) i j _ hz hj
    rw [hat _ (by simp [h])]
    by_cases e : i * 5 + j = k * 5 + 3
    · obtain rfl : i = k := by omega
      obtain rfl : j = 3 := by omega
      rw [List.getElem?_set_self (by omega)]
      simp [ndCells]
    · rw [List.getElem?_set_ne (by omega), hat ls h]
      by_cases ei : i = k
      · subst ei
        rw [List.getElem_set_self]
        have : j ≠ 3 := by omega
        obtain rfl | rfl | rfl | rfl : j = 0 ∨ j = 1 ∨ j = 2 ∨ j = 4 := by omega
        all_goals simp [ndCells]
      · rw [List.getElem_set_ne (by omega)]
  · rw [List.getElem?_eq_none (by omega), List.getElem?_eq_none (by rw [List.length_set]; omega)]

section
variable {w w' : World} {B : Nat} {v : Value} {t : List Node}
theorem Own.below (h : Own w B v t) (hb : Below w.heap.size w w') : Own w' B v t := by
  obtain ⟨ls, h1, h2, h3⟩ := h
  exact ⟨ls, h1, h2.below hb, fun i x l a b => ⟨(h3 i x l a b).1.below hb, fun g hg => by have := (h3 i x l a b).2 g hg; have := hb.size; exact ⟨((h3 i x l a b).2 g hg).1, by omega, by omega⟩⟩⟩
theorem Own.calm {C : Nat} (h : Own w B v t) (hc : Calm C w w') : Own w' B v t := by
  obtain ⟨ls, h1, h2, h3⟩ := h
  exact ⟨ls, h1, h2.calm hc, fun i x l a b => ⟨(h3 i x l a b).1.calm hc, fun g hg => by have := (h3 i x l a b).2 g hg; have := hc.size; exact ⟨((h3 i x l a b).2 g hg).1, by omega, by omega⟩⟩⟩
theorem Own.base {B' : Nat} (h : Own w B v t) (hb : B' ≤ B) : Own w B' v t := by
  obtain ⟨ls, h1, h2, h3⟩ := h
  exact ⟨ls, h1, h2.base hb, fun i x l a b => ⟨(h3 i x l a b).1.base hb, fun g hg => by have := (h3 i x l a b).2 g hg; exact ⟨((h3 i x l a b).2 g hg).1, by omega, by omega⟩⟩⟩
theorem _root_.Go.Proofs.Ytmmhkjdnejeooaa.Mine.at_lt {e : TypeId} {size n : Nat} {xs : List Value} (h : Mine w B e size v n xs) (hn : 0 < n) : ∀ g, v.ownBlock = some g → g < w.heap.size := by
  intro g hg
  rcases (h.own hn).2 with ⟨rfl, _⟩ | ⟨g', cap, cur, rfl, hb, hgg, _⟩
  · cases hg
  · cases hg; exact (Array.getElem?_eq_some_iff.1 hgg).1
/-- They read as the nodes. -/
theorem Own.nds (h : Own w B v t) : Nds w (Old w) v t := by
  obtain ⟨ls, h1, h2, h3⟩ := h
  exact ⟨ls, h1, h2.rd (fun g _ _ h => h), fun i x l a b => (h3 i x l a b).1.rd (fun g _ _ h => h)⟩
end
theorem nd_oneCell (t : List Node) (ls : List Value) (h : ∀ l ∈ ls, l.oneCell' = true) : ∀ u ∈ allCells t ls, u.oneCell' = true := by
  intro u hu
  unfold allCells at hu
  rw [List.mem_flatMap] at hu
  obtain ⟨⟨x, l⟩, hx, hu⟩ := hu
  have hl := (List.of_mem_zip hx).2
  simp only [ndCells, List.mem_cons, List.not_mem_nil, or_false] at hu
  rcases hu with rfl | rfl | rfl | rfl | rfl <;> first | rfl | exact h _ hl
theorem pc_oneCell (ps : List Piece) : ∀ u ∈ ps.flatMap pcCells, u.oneCell' = true := by
  intro u hu
  rw [List.mem_flatMap] at hu
  obtain ⟨x, _, hu⟩ := hu
  simp only [pcCells, List.mem_cons, List.not_mem_nil, or_false] at hu
  rcases hu with rfl | rfl <;> rfl
end Go.Proofs.Ytmmhkjdnejeooaa.T

namespace Go.Proofs.Ytmmhkjdnejeooaa.T
open Go.RowKit Go.Shelf

/-- The first k leads are the call's own, the others lie where they lay. -/
def OwnTo (w0 w : World) (v : Value) (t : List Node) (k : Nat) : Prop :=
  ∃ ls : List Value, ls.length = t.length ∧ Mine w w0.heap.size 37 5 v t.length (allCells t ls) ∧
    ∀ (i : Nat) (x : Node) (l : Value), t[i]? = some x → ls[i]? = some l →
      (i < k → Mine w w0.heap.size 85 2 l x.lead.length (x.lead.flatMap pcCells) ∧ ∀ g, l.ownBlock = some g → v.ownBlock ≠ some g ∧ w0.heap.size ≤ g ∧ g < w.heap.size) ∧ (k ≤ i → Pcs w (Old w0) l x.lead)

theorem OwnTo.start {w0 w : World} {v' : Value} {t : List Node} {ls : List Value} (hl : ls.length = t.length) (hM : Mine w w0.heap.size 37 5 v' t.length (allCells t ls)) (hp : ∀ (i : Nat) (x : Node) (l : Value), t[i]? = some x → ls[i]? = some l → Pcs w0 (Old w0) l x.lead) (hb : Below w0.heap.size w0 w) : OwnTo w0 w v' t 0 :=
  ⟨ls, hl, hM, fun i x l a b => ⟨fun h => by omega, fun _ => Rd.below (hp i x l a b) hb (fun _ h => h)⟩⟩
theorem OwnTo.done {w0 w : World} {v : Value} {t : List Node} (h : OwnTo w0 w v t t.length) : Own w w0.heap.size v t := by
  obtain ⟨ls, h1, h2, h3⟩ := h
  exact ⟨ls, h1, h2, fun i x l a b => (h3 i x l a b).1 (List.getElem?_eq_some_iff.1 a).1⟩
/-- What is read of the k-th lead, and what is written in its place. -/
theorem OwnTo.step {w0 w : World} {v : Value} {t : List Node} {k : Nat} (h : OwnTo w0 w v t k) (hk : k < t.length) (hb : Below w0.heap.size w0 w) : ∃ g cap l, v = .slice (some ⟨g, 0, none⟩) t.length cap ∧ t.length ≤ cap ∧ cap ≤ maxLen ∧ w0.heap.size ≤ g ∧ g < w.heap.size ∧
    w.cell? ⟨g, k * 5 + 3, none⟩ = some l ∧ w.frozen? ⟨g, k * 5 + 3, none⟩ = false ∧ Pcs w (Old w0) l t[k].lead ∧
    ∀ (w1 : World) (l' : Value), Below w.heap.size w w1 → Mine w1 w.heap.size 85 2 l' t[k].lead.length (t[k].lead.flatMap pcCells) → (∀ q, l'.ownBlock = some q → w.heap.size ≤ q ∧ q < w1.heap.size) → OwnTo w0 (w1.setCell ⟨g, k * 5 + 3, none⟩ l') v t (k + 1) := by
  obtain ⟨ls, h1, h2, h3⟩ := h
  have h0 : 0 < t.length := by omega
  obtain ⟨g, cap, rfl, c1, c2, c3, c4, c5⟩ := h2.open_ h0
  have hx := List.getElem?_eq_getElem hk
  have hl : ls[k]? = some (ls[k]'(by omega)) := List.getElem?_eq_getElem _
  have hz : (t.zip ls)[k]? = some (t[k], ls[k]'(by omega)) := by rw [List.getElem?_zip_eq_some]; exact ⟨hx, hl⟩
  have hcell : (allCells t ls)[k * 5 + 3]? = some (ls[k]'(by omega)) := by
    unfold allCells
    rw [flat_at (fun x : Node × Value => ndCells x.1 x.2) 5 (fun _ => rfl) (t.zip ls) k 3 _ hz (by omega)]
    rfl
  have hfz : w.frozen? ⟨g, k * 5 + 3, none⟩ = false := by
    rcases (h2.own h0).2 with ⟨_, e⟩ | ⟨g', cap', cur, hv, _, hg, _⟩
    · omega
    · simp only [Value.slice.injEq, Option.some.injEq, Addr.mk.injEq] at hv
      obtain ⟨⟨rfl, _⟩, _, _⟩ := hv
      exact Holds.frozen hg _
  refine ⟨g, cap, _, rfl, c1, c2, c3, c4, c5 _ _ hcell, hfz, (h3 k _ _ hx hl).2 (Nat.le_refl _), fun w1 l' hb1 hm hq => ?_⟩
  have hg1 : ∀ q, l'.ownBlock = some q → q ≠ g := fun q e => by have := hq q e; omega
  refine ⟨ls.set k l', by simp [h1], ?_, fun i x l a b => ?_⟩
  · rw [allCells_set t ls k l' h1 hk]
    exact (h2.below hb1).stored h0 _ _
  · by_cases e : i = k
    · subst e
      rw [hx] at a; cases a
      rw [List.getElem?_set_self (by omega)] at b; cases b
      refine ⟨fun _ => ⟨((hm.base (Nat.le_trans hb.size (Nat.le_refl _))).set (p := ⟨g, i * 5 + 3, none⟩) (fun e => hg1 _ e rfl) _), fun q e1 => ⟨fun e2 => ?_, ?_, ?_⟩⟩, fun h => by omega⟩
      · simp [Value.ownBlock] at e2
        exact hg1 q e1 e2.symm
      · have := (hq q e1).1; have := hb.size; omega
      · have := (hq q e1).2; simp [World.setCell]; omega
    · rw [List.getElem?_set_ne (fun h => e h.symm)] at b
      obtain ⟨p1, p2⟩ := h3 i x l a b
      refine ⟨fun hi => ?_, fun hi => ?_⟩
      · obtain ⟨q1, q2⟩ := p1 (by omega)
        exact ⟨(q1.below hb1).set (p := ⟨g, k * 5 + 3, none⟩) (fun e => (q2 _ e).1 rfl) _, fun q hq => ⟨(q2 q hq).1, (q2 q hq).2.1, by have := (q2 q hq).2.2; have := hb1.size; simp [World.setCell]; omega⟩⟩
      · refine Rd.set (Rd.below (B := w0.heap.size) (p2 (by omega)) (hb1.mono (Nat.le_trans hb.size (Nat.le_refl _))) (fun _ h => h)) (fun h => ?_) _
        have : g < w0.heap.size := h
        omega
end Go.Proofs.Ytmmhkjdnejeooaa.T

namespace Go.Proofs.Ytmmhkjdnejeooaa.T
open Go.RowKit Go.Shelf

/-- No lead is too long to be copied. -/
def Fit (t : List Node) : Prop := ∀ x ∈ t, x.lead.length * 24 ≤ 140737488355328

set_option maxRecDepth 20000 in
set_option maxHeartbeats 4000000 in
theorem arena_owned (v : Value) (t : List Node) (w : World) (h4 : t.length ≤ 140737488355) (hF : Fit t) (hN : Nds w (Old w) v t) :
    Calls Try.prog 69 #[v] w fun r w' => (∃ u, r = .returned u ∧ Hid (Own w' w.heap.size u t)) ∧ Below w.heap.size w w' := by
  obtain ⟨ls, hl, hR, hp⟩ := hN
  have hone : ∀ l ∈ ls, l.oneCell' = true := by
    intro l hl'
    obtain ⟨i, hi, e⟩ := List.mem_iff_getElem.1 hl'
    have hx := List.getElem?_eq_getElem (show i < t.length by omega)
    obtain ⟨A, c, rfl, _⟩ := (hp i _ l hx (by rw [List.getElem?_eq_getElem hi, e])).value
    rfl
  have HC := hidden (clone_nodes v t.length (allCells t ls) (Old w) w hR (nd_oneCell t ls hone) (by omega))
  have HS : Hid (∀ v' w', Mine w' w.heap.size 37 5 v' t.length (allCells t ls) → Below w.heap.size w w' → OwnTo w w' v' t 0) := hidden (fun v' w' hM hb => OwnTo.start hl hM hp hb)
  have HF := hidden hF
  obtain ⟨A, c, rfl, hc1, hc2⟩ := hR.val
  unfold maxLen at hc2
  clear hR hp hone hF hl
  go_enter Try.func69, Try.ntmps69
  go_wp2_with fail
  refine HC.out.mono ?_
  rintro r w1 ⟨⟨u, rfl, HM, _⟩, hb⟩
  have HO := hidden (HS.out u w1 HM.out hb)
  obtain ⟨A1, c1, rfl⟩ := HM.out.value
  have hrd := HM.out.rd (T := fun _ => True) (fun _ _ _ _ => trivial)
  obtain ⟨A9, c9, hv1, hd1, hd2⟩ := hrd.val
  simp only [Value.slice.injEq] at hv1
  obtain ⟨e91, _, e92⟩ := hv1
  subst e91 e92
  unfold maxLen at hd2
  clear HC HS HM hrd
  go_wp2
  go_loopw [8] (fun ii wr => ∃ k : Nat, k ≤ t.length ∧ ii = .int .i64 k ∧ Hid (OwnTo w wr (.slice A1 t.length c1) t k) ∧ Below w.heap.size w wr) (fun ii _ => t.length - (intOf ii).toNat)
  case atStart => exact ⟨0, by omega, rfl, HO, hb⟩
  case round =>
    clear HO hb
    obtain ⟨k, hk, rfl, HO, hb⟩ := hrel
    have hbz := hb.size
    by_cases hlt : k < t.length
    · obtain ⟨g, cap, l, hv, e1, e2, e3, e4, x3, xf, hpl, hnext⟩ := HO.out.step hlt hb
      simp only [Value.slice.injEq] at hv
      obtain ⟨rfl, _, rfl⟩ := hv
      have hfit := HF.out _ (List.getElem_mem hlt)
      have HC2 := hidden (clone_pieces l t[k].lead.length (t[k].lead.flatMap pcCells) (Old w) wr hpl (pc_oneCell _) hfit)
      obtain ⟨A2, c2, rfl, f1, f2⟩ := hpl.value
      unfold maxLen at f2
      have HX := hidden hnext
      clear hpl hnext hfit HF
      generalize t[k].lead = ld at *
      go_wp2_with fail
      refine HC2.out.mono ?_
      rintro r w2 ⟨⟨u, rfl, HM, HQ⟩, hb2⟩
      have y3 := (hb2.cell (p := ⟨g, k * 5 + 3, none⟩) e4).trans x3
      have yf := (hb2.frozen (p := ⟨g, k * 5 + 3, none⟩) e4).trans xf
      have HO2 := hidden (HX.out w2 u hb2 HM.out HQ.out)
      obtain ⟨A3, c3, rfl⟩ := HM.out.value
      replace hb := hb.trans (hb2.mono hb.size)
      go_wp2
      go_roundw
      case rel => exact ⟨k + 1, by omega, by go_num, HO2, hb.setCell (p := ⟨g, _, none⟩) e3 _⟩
      case measure => simp [intOf]; omega
    · obtain rfl : k = t.length := by omega
      go_wp2
      go_ret
      exact ⟨⟨_, rfl, hidden HO.out.done⟩, hb⟩
end Go.Proofs.Ytmmhkjdnejeooaa.T

namespace Go.Proofs.Ytmmhkjdnejeooaa.T
open Go.RowKit Go.Shelf

theorem allCells_append (t1 t2 : List Node) (l1 l2 : List Value) (h : l1.length = t1.length) : allCells (t1 ++ t2) (l1 ++ l2) = allCells t1 l1 ++ allCells t2 l2 := by
  unfold allCells
  rw [List.zip_append (by omega), List.flatMap_append]

theorem Own.append {w : World} {B B2 : Nat} {v u : Value} {t1 t2 : List Node} (h1 : Own w B v t1) (h2 : Own w B2 u t2) (hB : B ≤ B2) (hv : ∀ g, v.ownBlock = some g → g < B2) :
    ∃ xs news, Mine w B 37 5 v t1.length xs ∧ Rd w (Old w) 5 u t2.length news ∧ (∀ x ∈ news, x.oneCell' = true) ∧
      ∀ v' w', Appended w B 37 5 v (t1.length + t2.length) (xs ++ news) v' w' → Own w' B v' (t1 ++ t2) := by
  obtain ⟨l1, a1, a2, a3⟩ := h1
  obtain ⟨l2, b1, b2, b3⟩ := h2
  have hone : ∀ l ∈ l2, l.oneCell' = true := by
    intro l hl
    obtain ⟨i, hi, e⟩ := List.mem_iff_getElem.1 hl
    have hx := List.getElem?_eq_getElem (show i < t2.length by omega)
    obtain ⟨A, c, rfl⟩ := (b3 i _ l hx (by rw [List.getElem?_eq_getElem hi, e])).1.value
    rfl
  refine ⟨_, _, a2, b2.rd (fun g _ _ h => h), nd_oneCell t2 l2 hone, fun v' w' hA => ⟨l1 ++ l2, by simp [a1, b1], ?_, fun i x l hx hl => ?_⟩⟩
  · rw [allCells_append _ _ _ _ a1, List.length_append]
    exact hA.mine
  · have key : ∀ (b : Nat) (l : Value), B ≤ b → Mine w b 85 2 l x.lead.length (x.lead.flatMap pcCells) → (∀ g, l.ownBlock = some g → v.ownBlock ≠ some g ∧ b ≤ g ∧ g < w.heap.size) →
        Mine w' B 85 2 l x.lead.length (x.lead.flatMap pcCells) ∧ ∀ g, l.ownBlock = some g → v'.ownBlock ≠ some g ∧ B ≤ g ∧ g < w'.heap.size := by
      intro b l hb hm hg
      refine ⟨(hm.base hb).keep fun g e _ hlt => hA.keeps.block g (hg g e).1 hlt, fun g e => ?_⟩
      obtain ⟨q1, q2, q3⟩ := hg g e
      have := hA.keeps.size
      refine ⟨fun e2 => ?_, by omega, by omega⟩
      rcases hA.at_ with h | ⟨g', h, hge, _⟩
      · rw [h] at e2; exact q1 e2
      · rw [h] at e2; cases e2; omega
    by_cases hi : i < t1.length
    · rw [List.getElem?_append_left hi] at hx
      rw [List.getElem?_append_left (by omega)] at hl
      obtain ⟨p1, p2⟩ := a3 i x l hx hl
      exact key B l (Nat.le_refl _) p1 p2
    · rw [List.getElem?_append_right (by omega)] at hx
      rw [List.getElem?_append_right (by omega), a1] at hl
      obtain ⟨p1, p2⟩ := b3 _ x l hx hl
      exact key B2 l hB p1 (fun g e => by
        obtain ⟨q1, q2, q3⟩ := p2 g e
        exact ⟨fun e2 => by have := hv g e2; omega, q2, q3⟩)
theorem Own.nil (w : World) (B : Nat) : Own w B (.slice none 0 0) [] := ⟨[], rfl, Mine.nil _ _ _ _, fun i x l h => by simp at h⟩

/-- v reads as slices that read as the lists of nodes. -/
def Parts (w : World) (T : Nat → Prop) (v : Value) (ts : List (List Node)) : Prop :=
  ∃ vs : List Value, vs.length = ts.length ∧ Rd w T 1 v ts.length vs ∧ ∀ (i : Nat) (t : List Node) (u : Value), ts[i]? = some t → vs[i]? = some u → Nds w T u t
theorem Parts.below {w w' : World} {B : Nat} {v : Value} {ts : List (List Node)} (h : Parts w (fun k => k < B) v ts) (hb : Below B w w') : Parts w' (fun k => k < B) v ts := by
  obtain ⟨vs, h1, h2, h3⟩ := h
  exact ⟨vs, h1, h2.below hb (fun _ h => h), fun i t u a b => (h3 i t u a b).below hb (fun _ h => h)⟩
theorem Parts.at_ {w : World} {T : Nat → Prop} {A : Option Addr} {n c : Nat} {ts : List (List Node)} (h : Parts w T (.slice A n c) ts) {k : Nat} (hk : k < ts.length) : ∃ b off u, A = some ⟨b, off, none⟩ ∧ w.cell? ⟨b, off + k, none⟩ = some u ∧ Nds w T u ts[k] := by
  obtain ⟨vs, h1, ⟨hl, A', c', hv, h2, h3, h4⟩, h5⟩ := h
  simp only [Value.slice.injEq] at hv
  obtain ⟨rfl, rfl, rfl⟩ := hv
  obtain ⟨b, off, e, hT, hc⟩ := h4 (by omega)
  have hu := List.getElem?_eq_getElem (show k < vs.length by omega)
  exact ⟨b, off, _, e, hc k _ hu, h5 k _ _ (List.getElem?_eq_getElem hk) hu⟩

set_option maxRecDepth 20000 in
set_option maxHeartbeats 4000000 in
theorem arena_join (v : Value) (ts : List (List Node)) (w : World) (hlen : ts.length ≤ 140737488355) (hall : ts.flatten.length ≤ 1000000000) (hF : ∀ t ∈ ts, Fit t) (hN : Parts w (fun k => k < w.heap.size) v ts) :
    Calls Try.prog 49 #[v] w fun r w' => (∃ u, r = .returned u ∧ Hid (Own w' w.heap.size u ts.flatten)) ∧ Below w.heap.size w w' := by
  have HN := hidden hN
  obtain ⟨vs, hvl, hR, _⟩ := hN
  obtain ⟨A, c, rfl, hc1, hc2⟩ := hR.val
  unfold maxLen at hc2
  have HF := hidden hF
  have HI := node_info
  have HL : Hid (∀ k (hk : k < ts.length), (ts.take (k + 1)).flatten = (ts.take k).flatten ++ ts[k] ∧ (ts.take k).flatten.length + ts[k].length ≤ 1000000000) := hidden (fun k hk => by
    have e : (ts.take (k + 1)).flatten = (ts.take k).flatten ++ ts[k] := by rw [List.take_succ_eq_append_getElem hk, List.flatten_append]; simp
    refine ⟨e, ?_⟩
    rw [← List.length_append, ← e]
    have : ts.flatten.length = (ts.take (k + 1)).flatten.length + (ts.drop (k + 1)).flatten.length := by rw [← List.length_append, ← List.flatten_append, List.take_append_drop]
    omega)
  clear hR hF hall
  go_enter Try.func49, Try.ntmps49
  go_wp2
  go_loopw [3, 8] (fun o ii wr => ∃ k : Nat, k ≤ ts.length ∧ ii = .int .i64 k ∧ Hid (Own wr w.heap.size o (ts.take k).flatten) ∧ Hid (∀ g, o.ownBlock = some g → g < wr.heap.size) ∧ Below w.heap.size w wr) (fun _ ii _ => ts.length - (intOf ii).toNat)
  case atStart => exact ⟨0, by omega, rfl, hidden (Own.nil _ _), hidden (fun g hg => by cases hg), Below.refl _ _⟩
  case round =>
    obtain ⟨k, hk, rfl, HO, HG, hb⟩ := hrel
    have hbz := hb.size
    by_cases hlt : k < ts.length
    · obtain ⟨b, off, u, rfl, x0, hnd⟩ := (HN.out.below hb).at_ hlt
      obtain ⟨hfl, hlen2⟩ := HL.out k hlt
      have HFL := hidden hfl
      have hft := HF.out _ (List.getElem_mem hlt)
      have HW := hidden (arena_owned u ts[k] wr (by omega) hft (hnd.mono (fun q hq => Nat.lt_of_lt_of_le hq hbz)))
      obtain ⟨A2, c2, rfl, f1, f2⟩ := hnd.value
      unfold maxLen at f2
      clear hnd hfl hft
      generalize ts[k] = t at *
      generalize (ts.take k).flatten = t0 at *
      go_wp2_with fail
      refine HW.out.mono ?_
      rintro r w1 ⟨⟨u, rfl, HU⟩, hb1⟩
      obtain ⟨xs, news, HM, HX, H1, hnext⟩ := (HO.out.below hb1).append HU.out hbz HG.out
      replace HM := hidden HM; replace HX := hidden HX; replace H1 := hidden H1; have HQ := hidden hnext
      replace hb := hb.trans (hb1.mono hbz)
      have hbz1 := hb.size
      clear hnext HW
      go_wp2_with (at_builtin; refine wpList_append_all rfl _ _ 27 37 rfl (by kernel_rfl) HI rfl (by decide) w.heap.size _ _ _ HM _ _ _ HX H1 rfl rfl (by omega) (by decide) hbz1 ?_; intro v' w' hA)
      go_roundw
      case rel =>
        refine ⟨k + 1, by omega, by go_num, by rw [HFL.out]; exact hidden (HQ.out _ _ hA.out), hidden (fun g hg => ?_), hb.trans hA.out.below⟩
        rcases hA.out.at_ with h | ⟨g', h, _, h2⟩
        · rw [h] at hg
          have := HG.out g hg
          have := hb1.size
          have := hA.out.keeps.size
          omega
        · rw [h] at hg; cases hg; exact h2
      case measure => simp [intOf]; omega
    · obtain rfl : k = ts.length := by omega
      rw [List.take_length] at HO
      go_wp2
      go_ret
      exact ⟨⟨_, rfl, HO⟩, hb⟩
end Go.Proofs.Ytmmhkjdnejeooaa.T

namespace Go.Proofs.Ytmmhkjdnejeooaa.T
open Go.RowKit Go.Shelf

def oneOf (x : Node) (ts : List (List Node)) : List Node := { x with size := (ts.flatten.length : Int) + 1 } :: ts.flatten

/-- The first node's size is written anew. -/
theorem Own.resize {w : World} {B : Nat} {v : Value} {x : Node} {t : List Node} (h : Own w B v (x :: t)) (s : Int) : ∃ g cap, v = .slice (some ⟨g, 0, none⟩) (t.length + 1) cap ∧ t.length + 1 ≤ cap ∧ cap ≤ maxLen ∧ B ≤ g ∧
    (∃ u, w.cell? ⟨g, 2, none⟩ = some u) ∧ w.frozen? ⟨g, 2, none⟩ = false ∧ Own (w.setCell ⟨g, 2, none⟩ (.int .i64 s)) B v ({ x with size := s } :: t) := by
  obtain ⟨ls, h1, h2, h3⟩ := h
  have h0 : 0 < (x :: t).length := by simp
  obtain ⟨g, cap, rfl, c1, c2, c3, c4, c5⟩ := h2.open_ h0
  obtain ⟨l, ls, rfl⟩ : ∃ l ls', ls = l :: ls' := by
    cases ls with
    | nil => simp at h1
    | cons l ls' => exact ⟨l, ls', rfl⟩
  have hcells : allCells (x :: t) (l :: ls) = ndCells x l ++ allCells t ls := by simp [allCells]
  have hcells' : allCells ({ x with size := s } :: t) (l :: ls) = (allCells (x :: t) (l :: ls)).set 2 (.int .i64 s) := by
    rw [hcells]; simp [allCells, ndCells]
  have hfz : w.frozen? ⟨g, 2, none⟩ = false := by
    rcases (h2.own h0).2 with ⟨_, e⟩ | ⟨g', cap', cur, hv, _, hg, _⟩
    · simp at e
    · simp only [Value.slice.injEq, Option.some.injEq, Addr.mk.injEq] at hv
      obtain ⟨⟨rfl, _⟩, _, _⟩ := hv
      exact Holds.frozen hg _
  refine ⟨g, cap, rfl, c1, c2, c3, ⟨_, c5 2 _ (by rw [hcells]; rfl)⟩, hfz, l :: ls, by simpa using h1, ?_, fun i y l' a b => ?_⟩
  · rw [hcells']
    exact h2.stored h0 2 _
  · obtain ⟨y', hy', hy2⟩ : ∃ y', (x :: t)[i]? = some y' ∧ y'.lead = y.lead := by
      cases i with
      | zero => simp at a; subst a; exact ⟨x, by simp, rfl⟩
      | succ i => exact ⟨y, by simpa using a, rfl⟩
    obtain ⟨p1, p2⟩ := h3 i y' l' hy' b
    rw [hy2] at p1
    exact ⟨p1.set (p := ⟨g, 2, none⟩) (fun e => (p2 _ e).1 rfl) _, fun q hq => ⟨(p2 q hq).1, (p2 q hq).2.1, by have := (p2 q hq).2.2; simpa [World.setCell] using this⟩⟩

theorem nodes_info : Hid (TyInfo Try.prog 27 (.slice none 0 0) 1 24) :=
  hidden (info_parts (show (Try.prog.info? 27).map (fun i => (i.zero, i.size, i.bytes)) = some (some (.slice none 0 0), 1, 24) by kernel_rfl))

theorem _root_.Go.Proofs.Ytmmhkjdnejeooaa.Mine.made_at (w : World) (o : Nat) (e : TypeId) (size n : Nat) (cs : List Value) (hl : cs.length = n * size) (hn : n ≤ maxLen) (ho : o = w.heap.size) {B : Nat} (hB : B ≤ o) : Mine (w.alloc (.cells cs.toArray e)) B e size (.slice (some ⟨o, 0, none⟩) n n) n cs := by
  subst ho
  exact (Mine.made w e size n cs hl hn).base hB
theorem one_nds (w : World) (x : Node) (l : Value) (o : Obj) (hl : Pcs w (Old w) l x.lead) :
    Nds ((w.alloc o).alloc (.cells #[.int .i64 x.kind, .int .i64 x.n, .int .i64 x.size, l, .string x.text] 37)) (fun k => k < w.heap.size + 1 + 1) (.slice (some ⟨w.heap.size + 1, 0, none⟩) 1 1) [x] := by
  refine ⟨[l], rfl, ?_, fun i y l' a b => ?_⟩
  · have e : allCells [x] [l] = [.int .i64 x.kind, .int .i64 x.n, .int .i64 x.size, l, .string x.text] := rfl
    rw [e]
    exact Rd.fresh (cs := [.int .i64 x.kind, .int .i64 x.n, .int .i64 x.size, l, .string x.text]) (n := 1) (size := 5) rfl (Nat.le_refl _) (by decide) (by simp) (by simp)
  · cases i with
    | zero =>
      simp at a b
      subst a b
      exact Rd.mono ((Rd.alloc (Rd.alloc hl o) _)) (fun k hk => by have : k < w.heap.size := hk; omega)
    | succ i => simp at a
theorem Nds.oneCell {w : World} {T : Nat → Prop} {v : Value} {t : List Node} (h : Nds w T v t) : v.oneCell' = true := by
  obtain ⟨A, c, rfl, _⟩ := h.value
  rfl

set_option maxRecDepth 20000 in
set_option maxHeartbeats 4000000 in
theorem arena_one (x : Node) (l v : Value) (ts : List (List Node)) (w : World) (hlen : ts.length ≤ 1000000000) (hall : ts.flatten.length ≤ 100000000) (hF : ∀ t ∈ ts, Fit t) (hx : x.lead.length * 24 ≤ 140737488355328) (hN : Parts w (fun k => k < w.heap.size) v ts) (hl : Pcs w (Old w) l x.lead) :
    Calls Try.prog 34 #[.agg #[.int .i64 x.kind, .int .i64 x.n, .int .i64 x.size, l, .string x.text], v] w fun r w' => (∃ u, r = .returned u ∧ Hid (Own w' w.heap.size u (oneOf x ts))) ∧ Below w.heap.size w w' := by
  obtain ⟨vs, hvl, hR, hvs⟩ := hN
  obtain ⟨A, c, rfl, hc1, hc2⟩ := hR.val
  obtain ⟨A2, c2, rfl, hd1, hd2⟩ := hl.value
  unfold maxLen at hc2 hd2
  unfold oneOf
  obtain ⟨F, hFl⟩ : ∃ F, ts.flatten = F := ⟨_, rfl⟩
  rw [hFl] at hall ⊢
  have HE : Hid (([x] :: ts).flatten = x :: F) := hidden (by rw [List.flatten_cons, hFl]; rfl)
  clear hFl
  have HI := nodes_info
  have hb : Below w.heap.size w (((w.alloc (.cells #[.int .i64 x.kind, .int .i64 x.n, .int .i64 x.size, .slice A2 x.lead.length c2, .string x.text] 37)).alloc (.cells #[.int .i64 x.kind, .int .i64 x.n, .int .i64 x.size, .slice A2 x.lead.length c2, .string x.text] 37)).alloc (.cells #[(.slice (some ⟨w.heap.size + 1, 0, none⟩) 1 1)] 27)) := (by repeat (first | (with_reducible exact Below.refl _ _) | (with_reducible assumption) | (with_reducible refine Below.drew ?_) | (with_reducible refine below_drewN ?_ _) | ((with_reducible refine below_alloc ?_ ?_); (focus (first | omega | (simp; done) | (simp; omega)))) | ((with_reducible refine below_set ?_ ?_); (focus (first | omega | (simp; done) | (simp; omega))))))
  have HM : Hid (Mine (((w.alloc (.cells #[.int .i64 x.kind, .int .i64 x.n, .int .i64 x.size, .slice A2 x.lead.length c2, .string x.text] 37)).alloc (.cells #[.int .i64 x.kind, .int .i64 x.n, .int .i64 x.size, .slice A2 x.lead.length c2, .string x.text] 37)).alloc (.cells #[(.slice (some ⟨w.heap.size + 1, 0, none⟩) 1 1)] 27)) w.heap.size 27 1 (.slice (some ⟨w.heap.size + 1 + 1, 0, none⟩) 1 1) 1 [(.slice (some ⟨w.heap.size + 1, 0, none⟩) 1 1)]) := hidden (Mine.made_at ((w.alloc (.cells #[.int .i64 x.kind, .int .i64 x.n, .int .i64 x.size, .slice A2 x.lead.length c2, .string x.text] 37)).alloc (.cells #[.int .i64 x.kind, .int .i64 x.n, .int .i64 x.size, .slice A2 x.lead.length c2, .string x.text] 37)) _ _ 1 1 [(.slice (some ⟨w.heap.size + 1, 0, none⟩) 1 1)] rfl (by decide) (by simp) (by omega))
  have HX : Hid (Rd (((w.alloc (.cells #[.int .i64 x.kind, .int .i64 x.n, .int .i64 x.size, .slice A2 x.lead.length c2, .string x.text] 37)).alloc (.cells #[.int .i64 x.kind, .int .i64 x.n, .int .i64 x.size, .slice A2 x.lead.length c2, .string x.text] 37)).alloc (.cells #[(.slice (some ⟨w.heap.size + 1, 0, none⟩) 1 1)] 27)) (fun k => k < w.heap.size) 1 (.slice A ts.length c) ts.length vs) := hidden (((hR.alloc _).alloc _).alloc _)
  have H1 : Hid (∀ u ∈ vs, u.oneCell' = true) := hidden (fun u hu => by
    obtain ⟨i, hi, e⟩ := List.mem_iff_getElem.1 hu
    exact (hvs i _ u (List.getElem?_eq_getElem (show i < ts.length by omega)) (by rw [List.getElem?_eq_getElem hi, e])).oneCell)
  have HP : Hid (∀ v' w', Appended (((w.alloc (.cells #[.int .i64 x.kind, .int .i64 x.n, .int .i64 x.size, .slice A2 x.lead.length c2, .string x.text] 37)).alloc (.cells #[.int .i64 x.kind, .int .i64 x.n, .int .i64 x.size, .slice A2 x.lead.length c2, .string x.text] 37)).alloc (.cells #[(.slice (some ⟨w.heap.size + 1, 0, none⟩) 1 1)] 27)) w.heap.size 27 1 (.slice (some ⟨w.heap.size + 1 + 1, 0, none⟩) 1 1) (1 + ts.length) ([(.slice (some ⟨w.heap.size + 1, 0, none⟩) 1 1)] ++ vs) v' w' → Parts w' (fun k => k < w'.heap.size) v' ([x] :: ts)) := hidden (fun v' w' hA => by
    have hs := hA.keeps.size
    simp at hs
    refine ⟨[(.slice (some ⟨w.heap.size + 1, 0, none⟩) 1 1)] ++ vs, by simp [hvl], ?_, fun i t u a b => ?_⟩
    · have := hA.mine.rd (T := fun k => k < w'.heap.size) (fun g _ _ h => h)
      rw [Nat.add_comm] at this
      exact this
    · cases i with
      | zero =>
        simp at a b
        subst a b
        exact (((one_nds w x _ _ hl).alloc _).keeps (hA.keeps.mono (fun k hk e => by simp [Value.ownBlock] at e; omega))).mono (fun k hk => by have : k < w.heap.size + 1 + 1 := hk; omega)
      | succ i =>
        simp at a b
        exact ((hvs i t u a b).below (hb.trans hA.below) (fun _ h => h)).mono (fun k hk => by have : k < w.heap.size := hk; omega))
  have HF : Hid (∀ t ∈ [x] :: ts, Fit t) := hidden (fun t ht => by
    rw [List.mem_cons] at ht
    rcases ht with rfl | ht
    · intro y hy; simp at hy; subst hy; exact hx
    · exact hF t ht)
  have hbz := hb.size
  clear hR hl hvs hF
  go_enter Try.func34, Try.ntmps34
  go_wp2_with (at_builtin; refine wpList_append_all rfl _ _ 62 27 rfl (by kernel_rfl) HI rfl (by decide) w.heap.size _ _ _ HM _ _ _ HX H1 rfl rfl (by omega) (by decide) hbz ?_; intro v' w' hA)
  have HPP := hidden (HP.out _ _ hA.out)
  have hb1 := hb.trans hA.out.below
  have hbz1 := hb1.size
  refine (arena_join v' ([x] :: ts) w' (by simp; omega) (by rw [HE.out]; simp; omega) HF.out HPP.out).mono ?_
  rintro r w2 ⟨⟨u, rfl, HO⟩, hb2⟩
  replace hb1 := hb1.trans (hb2.mono hbz1)
  rw [HE.out] at HO
  obtain ⟨g, cap, rfl, k1, k2, k3, ⟨u0, z⟩, zf, hO⟩ := (HO.out.base hbz1).resize ((F.length : Int) + 1)
  unfold maxLen at k2
  have HO2 := hidden hO
  clear hA HP HPP HO hO HM HX H1 HF
  go_wp2
  go_ret
  exact ⟨⟨_, rfl, HO2⟩, hb1.setCell (p := ⟨g, 2, none⟩) k3 _⟩
end Go.Proofs.Ytmmhkjdnejeooaa.T

namespace Go.Proofs.Ytmmhkjdnejeooaa.T
open Go.RowKit Go.Shelf

theorem list_eq_of {L M : List Nat} (hl : L.length = M.length) (h : ∀ k, k < L.length → L[k]? = M[k]?) : L = M := by
  apply List.ext_getElem?
  intro k
  by_cases hk : k < L.length
  · exact h k hk
  · rw [List.getElem?_eq_none (by omega), List.getElem?_eq_none (by omega)]

end Go.Proofs.Ytmmhkjdnejeooaa.T

namespace Go.Proofs.Ytmmhkjdnejeooaa.T
open Go.RowKit Go.Shelf

def leafOf (s : ByteArray) : Node := ⟨3, 0, 1, [], s⟩
def exT (a b : ByteArray) : List Node := [⟨2, 0, 3, [], ⟨#[]⟩⟩, leafOf a, leafOf b]
theorem exT_one (a b : ByteArray) : oneOf ⟨2, 0, 0, [], ⟨#[]⟩⟩ [[leafOf a], [leafOf b]] = exT a b := rfl
theorem exT_sz (a b : ByteArray) : sz (exT a b) 0 = 3 ∧ sz (exT a b) 1 = 1 ∧ sz (exT a b) 2 = 1 := ⟨rfl, rfl, rfl⟩
theorem exT_tree (a b : ByteArray) : Tree (exT a b) := by
  obtain ⟨s0, s1, s2⟩ := exT_sz a b
  refine ⟨⟨_, rfl, rfl⟩, by omega, by rw [s0]; exact Nat.le_refl 3, fun m _ hm => ?_⟩
  rw [s0] at hm ⊢
  have hl : ∀ s : ByteArray, Local (leafOf s) := fun s => by
    unfold Local leafOf openK textedK
    dsimp only
    refine ⟨by omega, by omega, by omega, fun _ => rfl, fun h => absurd (.inl rfl) h⟩
  obtain rfl | rfl | rfl : m = 0 ∨ m = 1 ∨ m = 2 := by omega
  · refine ⟨⟨⟨_, rfl, ?_⟩, fun k h1 h2 => ?_⟩, by omega⟩
    · unfold Local openK
      dsimp only
      exact ⟨by omega, by omega, by omega, fun h => absurd (.inr rfl) h, fun _ => ⟨rfl, rfl⟩⟩
    · rw [s0] at h2 ⊢
      obtain rfl | rfl : k = 1 ∨ k = 2 := by omega
      · omega
      · omega
  · exact ⟨⟨⟨_, rfl, hl a⟩, fun k h1 h2 => by rw [s1] at h2; omega⟩, by omega⟩
  · exact ⟨⟨⟨_, rfl, hl b⟩, fun k h1 h2 => by rw [s2] at h2; omega⟩, by omega⟩
theorem exT_treeB (a b : ByteArray) : treeB (exT a b) = true := treeB_iff.2 (exT_tree a b)
theorem exT_place (a b : ByteArray) (i : Int) (h0 : 0 ≤ i) (h : i < 3) : placeB (exT a b) i = true := placeB_iff.2 ⟨h0, h, exT_tree a b⟩
theorem exT_kids (a b : ByteArray) : kidsOf (exT a b) 0 = [1, 2] := by
  obtain ⟨s0, s1, s2⟩ := exT_sz a b
  unfold kidsOf
  rw [exT_place a b 0 (by omega) (by omega)]
  simp only [if_true, Int.toNat_zero]
  unfold kidsL
  rw [s0]
  rw [kidsFrom_lt (t := exT a b) (e := 0 + 3) (k := 0 + 1) (by decide) (by rw [show sz (exT a b) (0 + 1) = 1 from s1]; decide), show sz (exT a b) (0 + 1) = 1 from s1,
    kidsFrom_lt (t := exT a b) (e := 0 + 3) (k := 0 + 1 + 1) (by decide) (by rw [show sz (exT a b) (0 + 1 + 1) = 1 from s2]; decide), show sz (exT a b) (0 + 1 + 1) = 1 from s2, kidsFrom_ge (by decide)]
theorem exT_up (a b : ByteArray) : upOf (exT a b) 2 = 0 ∧ upOf (exT a b) 0 = -1 := by
  obtain ⟨s0, s1, s2⟩ := exT_sz a b
  unfold upOf
  rw [exT_place a b 0 (by omega) (by omega), exT_place a b 2 (by omega) (by omega)]
  simp only [if_true]
  refine ⟨?_, rfl⟩
  show upN (exT a b) 2 2 = 0
  unfold upN
  rw [s1, if_neg (show ¬ 2 < 1 + 1 by decide)]
  unfold upN
  rw [s0, if_pos (show 2 < 0 + 3 by decide)]
  rfl

theorem leaf_nds (W : World) (s : ByteArray) (o : Nat) (ho : o = W.heap.size) : Nds (W.alloc (.cells #[.int .i64 3, .int .i64 0, .int .i64 1, .slice none 0 0, .string s] 37)) (fun k => k = o) (.slice (some ⟨o, 0, none⟩) 1 1) [leafOf s] := by
  subst ho
  refine ⟨[.slice none 0 0], rfl, ?_, fun i y l a b => ?_⟩
  · exact Rd.fresh (cs := [.int .i64 3, .int .i64 0, .int .i64 1, .slice none 0 0, .string s]) (n := 1) (size := 5) rfl (Nat.le_refl _) (by decide) rfl rfl
  · cases i with
    | zero => simp at a b; subst a b; exact Rd.nil _ _ _
    | succ i => simp at a
theorem leaf_parts (w : World) : Parts (((w.alloc (.cells #[.int .i64 3, .int .i64 0, .int .i64 1, .slice none 0 0, .string ⟨#[97]⟩] 37)).alloc (.cells #[.int .i64 3, .int .i64 0, .int .i64 1, .slice none 0 0, .string ⟨#[98]⟩] 37)).alloc (.cells #[.slice (some ⟨w.heap.size, 0, none⟩) 1 1, .slice (some ⟨w.heap.size + 1, 0, none⟩) 1 1] 27)) (fun k => k < (((w.alloc (.cells #[.int .i64 3, .int .i64 0, .int .i64 1, .slice none 0 0, .string ⟨#[97]⟩] 37)).alloc (.cells #[.int .i64 3, .int .i64 0, .int .i64 1, .slice none 0 0, .string ⟨#[98]⟩] 37)).alloc (.cells #[.slice (some ⟨w.heap.size, 0, none⟩) 1 1, .slice (some ⟨w.heap.size + 1, 0, none⟩) 1 1] 27)).heap.size) (.slice (some ⟨w.heap.size + 1 + 1, 0, none⟩) 2 2) [[leafOf ⟨#[97]⟩], [leafOf ⟨#[98]⟩]] := by
  refine ⟨[.slice (some ⟨w.heap.size, 0, none⟩) 1 1, .slice (some ⟨w.heap.size + 1, 0, none⟩) 1 1], rfl, ?_, fun i t u a b => ?_⟩
  · exact Rd.fresh (cs := [.slice (some ⟨w.heap.size, 0, none⟩) 1 1, .slice (some ⟨w.heap.size + 1, 0, none⟩) 1 1]) (n := 2) (size := 1) rfl (Nat.le_refl _) (by decide) (by simp) (by simp)
  · obtain rfl | rfl | h : i = 0 ∨ i = 1 ∨ 2 ≤ i := by omega
    · simp at a b; subst a b
      exact (((leaf_nds w ⟨#[97]⟩ _ rfl).alloc _).alloc _).mono (fun k hk => by subst hk; simp; omega)
    · simp at a b; subst a b
      exact ((leaf_nds (w.alloc (.cells #[.int .i64 3, .int .i64 0, .int .i64 1, .slice none 0 0, .string ⟨#[97]⟩] 37)) ⟨#[98]⟩ (w.heap.size + 1) (by simp)).alloc _).mono (fun k hk => by subst hk; simp)
    · rw [List.getElem?_eq_none (by simpa using h)] at a; cases a

end Go.Proofs.Ytmmhkjdnejeooaa.T

namespace Go.Proofs.Ytmmhkjdnejeooaa.T
open Go.RowKit Go.Shelf

theorem Nds.part {w : World} {T : Nat → Prop} {b off c c' : Nat} {t : List Node} (h : Nds w T (.slice (some ⟨b, off, none⟩) t.length c) t) (i n : Nat) (hin : i + n ≤ t.length) (hc1 : n ≤ c') (hc2 : c' ≤ maxLen) (h0 : t ≠ []) :
    Nds w T (.slice (some ⟨b, off + i * 5, none⟩) n c') ((t.drop i).take n) := by
  obtain ⟨ls, h1, ⟨hl, A, c2, hv, _, _, h4⟩, h5⟩ := h
  simp only [Value.slice.injEq] at hv
  obtain ⟨rfl, _, rfl⟩ := hv
  have hp : 0 < t.length := List.length_pos_iff.2 h0
  obtain ⟨b', off', e, hT, hc⟩ := h4 (by rw [hl]; omega)
  simp only [Option.some.injEq, Addr.mk.injEq] at e
  obtain ⟨rfl, rfl, _⟩ := e
  have hlen : ((t.drop i).take n).length = n := by simp; omega
  have hlen2 : ((ls.drop i).take n).length = n := by simp; omega
  have hcells : allCells ((t.drop i).take n) ((ls.drop i).take n) = ((allCells t ls).drop (i * 5)).take (n * 5) := by
    apply List.ext_getElem?
    intro m
    have hal := allCells_len ((t.drop i).take n) ((ls.drop i).take n) (by omega)
    have hal2 := allCells_len t ls h1
    by_cases hm : m < n * 5
    · obtain ⟨k, j, hj, rfl⟩ : ∃ k j, j < 5 ∧ m = k * 5 + j := ⟨m / 5, m % 5, Nat.mod_lt _ (by decide), by omega⟩
      have hk : k < n := by omega
      have hat : ∀ (t : List Node) (ls : List Value) (i : Nat) (x : Node) (l : Value), t[i]? = some x → ls[i]? = some l → (allCells t ls)[i * 5 + j]? = (ndCells x l)[j]? := by
        intro t ls i x l hx hl
        exact flat_at (fun x : Node × Value => ndCells x.1 x.2) 5 (fun _ => rfl) (t.zip ls) i j (x, l) (by rw [List.getElem?_zip_eq_some]; exact ⟨hx, hl⟩) hj
      have hx := List.getElem?_eq_getElem (show i + k < t.length by omega)
      have hy := List.getElem?_eq_getElem (show i + k < ls.length by omega)
      rw [hat _ _ k _ _ (by rw [List.getElem?_take_of_lt hk, List.getElem?_drop]; exact hx) (by rw [List.getElem?_take_of_lt hk, List.getElem?_drop]; exact hy)]
      rw [List.getElem?_take_of_lt hm, List.getElem?_drop, show i * 5 + (k * 5 + j) = (i + k) * 5 + j by omega, hat _ _ _ _ _ hx hy]
    · rw [List.getElem?_eq_none (by omega), List.getElem?_eq_none (by simp; omega)]
  refine ⟨(ls.drop i).take n, by omega, ?_, fun k x l hx hl => ?_⟩
  · rw [hcells, hlen]
    refine ⟨by simp; omega, _, c', rfl, hc1, hc2, fun _ => ⟨b, _, rfl, hT, fun j u hu => ?_⟩⟩
    have hj : j < n * 5 := by
      have := (List.getElem?_eq_some_iff.1 hu).1
      simp at this; omega
    rw [List.getElem?_take_of_lt hj, List.getElem?_drop] at hu
    have := hc _ u hu
    rwa [show off + i * 5 + j = off + (i * 5 + j) by omega]
  · have hk : k < n := by
      have := (List.getElem?_eq_some_iff.1 hx).1
      omega
    rw [List.getElem?_take_of_lt hk, List.getElem?_drop] at hx hl
    exact h5 _ x l hx hl

noncomputable def subOf (t : List Node) (i : Int) : List Node := if placeB t i then (t.drop i.toNat).take (sz t i.toNat) else []

end Go.Proofs.Ytmmhkjdnejeooaa.T

namespace Go.Proofs.Ytmmhkjdnejeooaa.T
open Go.RowKit Go.Shelf

end Go.Proofs.Ytmmhkjdnejeooaa.T

namespace Go.Proofs.Ytmmhkjdnejeooaa.T

/-- The part of the node at i. -/
def subL (t : List Node) (i : Nat) : List Node := (t.drop i).take (sz t i)

theorem tree_good_at {t : List Node} (h : Tree t) {i : Nat} (hi : i < t.length) : Good t i t.length := by
  by_cases h0 : i = 0
  · subst h0; exact h.good
  · have h1 := tree_sz0 h
    have := h.good.inner (k := i) (by omega) (by omega)
    exact this.mono (by omega)
theorem subOf_in {t : List Node} (h : Tree t) {i : Nat} (hi : i < t.length) : subOf t (i : Int) = subL t i := by
  unfold subOf subL
  rw [if_pos (placeB_iff.2 ⟨by omega, by omega, h⟩)]
  rfl
theorem subL_len {t : List Node} (h : Tree t) {i : Nat} (hi : i < t.length) : (subL t i).length = sz t i := by
  have := tree_node h hi
  unfold subL
  simp
  omega
theorem subL_at {t : List Node} {i m : Nat} (hm : m < sz t i) : (subL t i)[m]? = t[i + m]? := by
  unfold subL
  rw [List.getElem?_take_of_lt hm, List.getElem?_drop]
theorem subL_sz {t : List Node} {i m : Nat} (hm : m < sz t i) : sz (subL t i) m = sz t (i + m) := by
  unfold sz
  rw [subL_at hm]
theorem sub_tree {t : List Node} (h : Tree t) {i : Nat} (hi : i < t.length) : Tree (subL t i) := by
  have hl := subL_len h hi
  obtain ⟨n1, n2, n3⟩ := tree_node h hi
  have hg := tree_good_at h hi
  have h0 : sz (subL t i) 0 = sz t i := by rw [subL_sz (by omega)]; rfl
  have hx : (subL t i)[0]? = some t[i] := by rw [subL_at (by omega)]; exact List.getElem?_eq_getElem hi
  refine ⟨⟨_, hx, by rw [n3, hl]⟩, ?_⟩
  rw [hl]
  refine ⟨by omega, by omega, fun m _ hm => ?_⟩
  rw [h0] at hm ⊢
  obtain ⟨⟨⟨x, hx2, hloc⟩, ho⟩, hle⟩ := hg.2.2 (i + m) (by omega) (by omega)
  have hm0 : m < sz t i := by omega
  refine ⟨⟨⟨x, by rw [subL_at hm0]; exact hx2, hloc⟩, fun k hk1 hk2 => ?_⟩, by rw [subL_sz hm0]; omega⟩
  rw [subL_sz hm0] at hk2 ⊢
  rw [subL_sz (by omega)]
  have := ho (i + k) (by omega) (by omega)
  omega
/-- The parts of the kids from k on are what lies from k on to the end. -/
theorem parts_flat {t : List Node} (h : Tree t) {i : Nat} (hi : i < t.length) : ∀ n k, i + sz t i - k ≤ n → i < k → k ≤ i + sz t i → ((kidsFrom t (i + sz t i) k).map (subL t)).flatten = (t.drop k).take (i + sz t i - k) := by
  have hn := tree_node h hi
  intro n
  induction n with
  | zero =>
    intro k h1 h2 h3
    rw [kidsFrom_ge (by omega), show i + sz t i - k = 0 by omega]
    simp
  | succ n ih =>
    intro k h1 h2 h3
    by_cases hk : k < i + sz t i
    · obtain ⟨a, b, c⟩ := tree_step h hi h2 hk
      rw [kidsFrom_lt hk b, List.map_cons, List.flatten_cons, ih (k + sz t k) (by omega) (by omega) c]
      unfold subL
      rw [show i + sz t i - k = sz t k + (i + sz t i - (k + sz t k)) by omega, List.take_add, List.drop_drop]
    · rw [kidsFrom_ge hk, show i + sz t i - k = 0 by omega]
      simp
/-- A tree is its first node, and the parts of its kids. -/
theorem one_parts {t : List Node} (h : Tree t) {i : Nat} (hi : i < t.length) : oneOf t[i] ((kidsL t i).map (subL t)) = subL t i := by
  obtain ⟨n1, n2, n3⟩ := tree_node h hi
  have hf := parts_flat h hi _ (i + 1) (Nat.le_refl _) (by omega) (by omega)
  unfold oneOf kidsL
  rw [hf]
  have e : ({ t[i] with size := (((t.drop (i + 1)).take (i + sz t i - (i + 1))).length : Int) + 1 } : Node) = t[i] := by
    have : (((t.drop (i + 1)).take (i + sz t i - (i + 1))).length : Int) + 1 = t[i].size := by
      rw [n3]; simp; omega
    rw [this]
  rw [e]
  unfold subL
  obtain ⟨m, hm⟩ : ∃ m, sz t i = m + 1 := ⟨sz t i - 1, by omega⟩
  rw [hm, List.drop_eq_getElem_cons hi, List.take_succ_cons, show i + (m + 1) - (i + 1) = m by omega]
theorem kid_up {t : List Node} (h : Tree t) {i : Nat} (hi : i < t.length) {k : Nat} (hk : k ∈ kidsL t i) : upOf t (k : Int) = i ∧ i < k ∧ k < i + sz t i := by
  obtain ⟨pre, r, e⟩ := List.append_of_mem hk
  have hp : (pre ++ [k]) <+: kidsL t i := ⟨r, by rw [e]; simp⟩
  have hu := up_found h hi hp
  have hq : i < k ∧ k < i + sz t i := by
    obtain ⟨_, a, b⟩ := past_all h hi pre (i + 1) ⟨r, e⟩ (by omega) (fun m a b => by omega)
    exact ⟨b, a⟩
  have hn := tree_node h hi
  refine ⟨?_, hq⟩
  rw [upOf_in h (by omega), hu]
theorem kidsOf_in {t : List Node} (h : Tree t) {i : Nat} (hi : i < t.length) : kidsOf t (i : Int) = kidsL t i := by
  unfold kidsOf
  rw [if_pos (placeB_iff.2 ⟨by omega, by omega, h⟩)]
  rfl
end Go.Proofs.Ytmmhkjdnejeooaa.T

namespace Go.Proofs.Ytmmhkjdnejeooaa.T
open Go.RowKit Go.Shelf

theorem eqB_true {α : Type} {a b : α} (h : a = b) : eqB a b = true := by unfold eqB; exact (@decide_eq_true_iff _ (Classical.propDecidable _)).2 h
set_option maxRecDepth 100000 in
theorem pieces_neq (w : World) (a b : Int) (s r : ByteArray) : (binOp .neq 85 (.agg #[.int .i64 a, .string s]) (.agg #[.int .i64 b, .string r])).run Try.prog w = .ok (.bool (!(eqB (⟨a, s⟩ : Piece) ⟨b, r⟩))) w := by
  have e : eqB (⟨a, s⟩ : Piece) ⟨b, r⟩ = (a == b && s.toList == r.toList) := by
    rw [Bool.eq_iff_iff, eqB_iff]
    simp only [Piece.mk.injEq, Bool.and_eq_true, beq_iff_eq]
    exact ⟨fun h => ⟨h.1, by rw [h.2]⟩, fun h => ⟨h.1, toList_inj h.2⟩⟩
  rw [e, run_neq_struct, run_equalIn_agg _ _ _ _ _ (by kernel_rfl) (by kernel_rfl)]
  have hu0 : Try.prog.underlying 3 = some (.int .i64) := by kernel_rfl
  have hu1 : Try.prog.underlying 9 = some .string := by kernel_rfl
  obtain ⟨f0, f1, hl, n0, n1, o0, o1, t0, t1⟩ : ∃ f0 f1 : Field, (Try.prog.fieldsOf 85).toList = [f0, f1] ∧ f0.name ≠ "_" ∧ f1.name ≠ "_" ∧ f0.offset = 0 ∧ f1.offset = 1 ∧ f0.type = 3 ∧ f1.type = 9 := ⟨_, _, rfl, by decide, by decide, rfl, rfl, rfl, rfl⟩
  rw [hl]
  simp only [Op.eqFields, n0, n1, o0, o1, t0, t1, ne_eq, not_false_eq_true, if_true]
  have p0 : ∀ (x y : Value), (part 3 #[x, y] 0).run Try.prog w = .ok x w := fun x y => by kernel_rfl
  have p1 : ∀ (x y : Value), (part 9 #[x, y] 1).run Try.prog w = .ok y w := fun x y => by kernel_rfl
  simp only [Sem.run_bind, p0, p1, Result.andThen_ok, run_equalIn_int w _ _ _ _ _ _ hu0, run_equalIn_string w _ _ _ _ hu1, Sem.run_ite, Sem.run_pure]
  cases a == b <;> cases s.toList == r.toList <;> simp

set_option maxRecDepth 20000 in
set_option maxHeartbeats 2000000 in
theorem same_pcs (a b : Value) (L M : List Piece) (w : World) (hA : Pcs w (Old w) a L) (hB : Pcs w (Old w) b M) :
    Calls Try.prog 35 #[a, b] w fun r w' => r = .returned (.bool (eqB L M)) ∧ Below w.heap.size w w' := by
  obtain ⟨A, c, rfl, hc1, hc2⟩ := hA.value
  obtain ⟨A2, c2, rfl, hd1, hd2⟩ := hB.value
  unfold maxLen at hc2 hd2
  have HA := hidden hA
  have HB := hidden hB
  clear hA hB
  by_cases hlen : L.length = M.length
  · have HT : Hid ((∀ k : Nat, k < L.length → L[k]? = M[k]?) → eqB L M = true) := hidden (fun h => eqB_true (list_ext_of hlen h))
    have HF : Hid ((∃ (k : Nat) (x y : Piece), L[k]? = some x ∧ M[k]? = some y ∧ x ≠ y) → eqB L M = false) := hidden (fun ⟨k, x, y, h1, h2, h3⟩ => eqB_false fun e => by
      subst e
      rw [h1] at h2
      exact h3 (Option.some.inj h2))
    generalize eqB L M = r at *
    have HLM := hidden hlen
    have hlm : L.length ≤ M.length := by omega
    have q0 : ((L.length : Int) != (M.length : Int)) = false := by simp; omega
    clear hlen
    go_enter Try.func35, Try.ntmps35
    go_wp2
    go_loopw [5] (fun kk wr => ∃ k : Nat, k ≤ L.length ∧ kk = .int .i64 k ∧ Hid (∀ j : Nat, j < k → L[j]? = M[j]?) ∧ Below w.heap.size w wr) (fun kk _ => L.length - (intOf kk).toNat)
    case atStart => exact ⟨0, by omega, rfl, hidden (fun j h => by omega), Below.refl _ _⟩
    case round =>
      obtain ⟨k, hk, rfl, HN, hb⟩ := hrel
      by_cases hlt : k < L.length
      · have hk2 : k < M.length := by omega
        obtain ⟨b1, o1, c1', hv1, _, _, _, hat1⟩ := Pcs.open_ (HA.out.below hb (fun _ h => h)) (by intro e; subst e; simp at hlt)
        obtain ⟨b2, o2, c2', hv2, _, _, _, hat2⟩ := Pcs.open_ (HB.out.below hb (fun _ h => h)) (by intro e; subst e; simp at hk2)
        simp only [Value.slice.injEq] at hv1 hv2
        obtain ⟨rfl, _, rfl⟩ := hv1
        obtain ⟨rfl, _, rfl⟩ := hv2
        have hx := List.getElem?_eq_getElem hlt
        have hy := List.getElem?_eq_getElem hk2
        obtain ⟨x0, x1⟩ := hat1 k _ hx
        obtain ⟨y0, y1⟩ := hat2 k _ hy
        generalize L[k] = x at *
        generalize M[k] = y at *
        have HX := hidden hx
        have HY := hidden hy
        clear hx hy hat1 hat2
        have z0 := Ext.cell x0; have z1 := Ext.cell x1
        have z2 := Ext.cell y0; have z3 := Ext.cell y1
        obtain ⟨xt, xs⟩ := x
        obtain ⟨yt, ys⟩ := y
        dsimp only at z0 z1 z2 z3 x0 x1 y0 y1
        have hq := pieces_neq
        go_wp2_with fail
        refine wp_region_ext (by kernel_rfl) (by kernel_rfl) ?_
        repeat (go_big_quiet_step (fail))
        refine wpQuiet_nil ?_
        intro w2 hb2
        clear z0 z1 z2 z3 hq
        clear x0 x1 y0 y1
        replace hb := hb.trans (hb2.mono hb.size)
        by_cases hxy : (⟨xt, xs⟩ : Piece) = ⟨yt, ys⟩
        · have HN2 : Hid (∀ j : Nat, j < k + 1 → L[j]? = M[j]?) := hidden (fun j hj => by
            by_cases e : j = k
            · subst e; rw [HX.out, HY.out, hxy]
            · exact HN.out j (by omega))
          rw [eqB_true hxy]
          clear hxy HN HX HY
          go_wp2
          go_roundw
          case rel => exact ⟨k + 1, by omega, by go_num, HN2, hb⟩
          case measure => simp [intOf]; omega
        · have HE := hidden (HF.out ⟨k, _, _, HX.out, HY.out, hxy⟩)
          rw [eqB_false hxy]
          clear hxy
          go_wp2
          go_ret
          exact ⟨by rw [HE.out]; rfl, hb⟩
      · obtain rfl : k = L.length := by omega
        have HE := hidden (HT.out HN.out)
        go_wp2
        go_ret
        exact ⟨by rw [HE.out]; rfl, hb⟩
  · have q1 : (((L.length : Nat) : Int) != (M.length : Int)) = true := by rw [bne_iff_ne]; omega
    have HE : Hid (eqB L M = false) := hidden (eqB_false (by
      intro e; rw [e] at hlen; exact hlen rfl))
    generalize eqB L M = r at *
    clear hlen
    go_enter Try.func35, Try.ntmps35
    go_wp2
    go_ret
    exact ⟨by rw [HE.out]; rfl, Below.refl _ _⟩
end Go.Proofs.Ytmmhkjdnejeooaa.T

namespace Go.Proofs.Ytmmhkjdnejeooaa.T
open Go.RowKit Go.Shelf

set_option maxRecDepth 20000 in
set_option maxHeartbeats 8000000 in
theorem ref_same (a b : Value) (L M : List Node) (w : World) (hA : Nds w (Old w) a L) (hB : Nds w (Old w) b M) :
    Calls Try.prog 18 #[a, b] w fun r w' => r = .returned (.bool (eqB L M)) ∧ Below w.heap.size w w' := by
  obtain ⟨A, c, rfl, hc1, hc2⟩ := hA.value
  obtain ⟨A2, c2, rfl, hd1, hd2⟩ := hB.value
  unfold maxLen at hc2 hd2
  have HA := hidden (fun (w' : World) (hw : Below w.heap.size w w') => hA.old hw)
  have HB := hidden (fun (w' : World) (hw : Below w.heap.size w w') => hB.old hw)
  clear hA hB
  by_cases hlen : L.length = M.length
  · have HT : Hid ((∀ k : Nat, k < L.length → L[k]? = M[k]?) → eqB L M = true) := hidden (fun h => eqB_true (list_ext_of hlen h))
    have HF : Hid ((∃ (k : Nat) (x y : Node), L[k]? = some x ∧ M[k]? = some y ∧ x ≠ y) → eqB L M = false) := hidden (fun ⟨k, x, y, h1, h2, h3⟩ => eqB_false fun e => by
      subst e
      rw [h1] at h2
      exact h3 (Option.some.inj h2))
    generalize eqB L M = r at *
    have HLM := hidden hlen
    have hlm : L.length ≤ M.length := by omega
    have q0 : ((L.length : Int) != (M.length : Int)) = false := by simp; omega
    clear hlen
    go_enter Try.func18, Try.ntmps18
    go_wp2
    go_loopw [5] (fun kk wr => ∃ k : Nat, k ≤ L.length ∧ kk = .int .i64 k ∧ Hid (∀ j : Nat, j < k → L[j]? = M[j]?) ∧ Below w.heap.size w wr) (fun kk _ => L.length - (intOf kk).toNat)
    case atStart => exact ⟨0, by omega, rfl, hidden (fun j h => by omega), Below.refl _ _⟩
    case round =>
      obtain ⟨k, hk, rfl, HN, hb⟩ := hrel
      by_cases hlt : k < L.length
      · have hk2 : k < M.length := by omega
        obtain ⟨b1, o1, c1', hv1, _, _, _, hat1⟩ := Nds.open_ (HA.out wr hb) (by intro e; subst e; simp at hlt)
        obtain ⟨b2, o2, c2', hv2, _, _, _, hat2⟩ := Nds.open_ (HB.out wr hb) (by intro e; subst e; simp at hk2)
        simp only [Value.slice.injEq] at hv1 hv2
        obtain ⟨rfl, _, rfl⟩ := hv1
        obtain ⟨rfl, _, rfl⟩ := hv2
        have hx := List.getElem?_eq_getElem hlt
        have hy := List.getElem?_eq_getElem hk2
        obtain ⟨l1, x0, x1, x2, x3, x4, x5⟩ := hat1 k _ hx
        obtain ⟨l2, y0, y1, y2, y3, y4, y5⟩ := hat2 k _ hy
        generalize L[k] = x at *
        generalize M[k] = y at *
        have HX := hidden hx
        have HY := hidden hy
        have HS := hidden (fun (w' : World) (hw : Below wr.heap.size wr w') => same_pcs l1 l2 _ _ w' (Rd.mono (Rd.below x5 hw (fun _ h => h)) (fun k hk => Nat.lt_of_lt_of_le hk hw.size)) (Rd.mono (Rd.below y5 hw (fun _ h => h)) (fun k hk => Nat.lt_of_lt_of_le hk hw.size)))
        obtain ⟨A3, c3, rfl, _, _⟩ := x5.value
        obtain ⟨A4, c4, rfl, _, _⟩ := y5.value
        clear hx hy hat1 hat2 x5 y5
        have z0 := Ext.cell x0; have z1 := Ext.cell x1; have z2 := Ext.cell x2; have z3 := Ext.cell x3; have z4 := Ext.cell x4
        have p0 := Ext.cell y0; have p1 := Ext.cell y1; have p2 := Ext.cell y2; have p3 := Ext.cell y3; have p4 := Ext.cell y4
        obtain ⟨xk, xn, xs, xl, xt⟩ := x
        obtain ⟨yk, yn, ys, yl, yt⟩ := y
        dsimp only at z0 z1 z2 z3 z4 p0 p1 p2 p3 p4
        clear x0 x1 x2 x3 x4 y0 y1 y2 y3 y4
        dsimp only at HS
        have HE : Hid (xk = yk ∧ xn = yn ∧ xs = ys ∧ xt = yt ∧ xl = yl ↔ (⟨xk, xn, xs, xl, xt⟩ : Node) = ⟨yk, yn, ys, yl, yt⟩) := hidden (by simp only [Node.mk.injEq]; exact ⟨fun ⟨h1, h2, h3, h4, h5⟩ => ⟨h1, h2, h3, h5, h4⟩, fun ⟨h1, h2, h3, h4, h5⟩ => ⟨h1, h2, h3, h5, h4⟩⟩)
        have hs := strs_eql xt yt
        have key : (∃ (q : Bool), ((xk != yk) = true ∧ q = false ∨ (xk != yk) = false ∧ ((xn != yn) = true ∧ q = false ∨ (xn != yn) = false ∧ ((xs != ys) = true ∧ q = false ∨ (xs != ys) = false ∧ ((xt.toList == yt.toList) = false ∧ q = false ∨ (xt.toList == yt.toList) = true ∧ eqB xl yl = q)))) ∧ Hid ((⟨xk, xn, xs, xl, xt⟩ : Node) = ⟨yk, yn, ys, yl, yt⟩ ↔ q = true)) := by
          by_cases e0 : xk = yk
          · by_cases e1 : xn = yn
            · by_cases e2 : xs = ys
              · by_cases e3 : xt = yt
                · refine ⟨eqB xl yl, .inr ⟨by simp [e0], .inr ⟨by simp [e1], .inr ⟨by simp [e2], .inr ⟨by rw [hs, eqB_true e3], rfl⟩⟩⟩⟩, hidden ?_⟩
                  rw [← HE.out, eqB_iff]; simp [e0, e1, e2, e3]
                · refine ⟨false, .inr ⟨by simp [e0], .inr ⟨by simp [e1], .inr ⟨by simp [e2], .inl ⟨by rw [hs, eqB_false e3], rfl⟩⟩⟩⟩, hidden ?_⟩
                  rw [← HE.out]; simp [e3]
              · refine ⟨false, .inr ⟨by simp [e0], .inr ⟨by simp [e1], .inl ⟨by simp [e2], rfl⟩⟩⟩, hidden ?_⟩
                rw [← HE.out]; simp [e2]
            · refine ⟨false, .inr ⟨by simp [e0], .inl ⟨by simp [e1], rfl⟩⟩, hidden ?_⟩
              rw [← HE.out]; simp [e1]
          · refine ⟨false, .inl ⟨by simp [e0], rfl⟩, hidden ?_⟩
            rw [← HE.out]; simp [e0]
        obtain ⟨q, hq, HQ⟩ := key
        clear hs HE
        have HN2 : q = true → Hid (∀ j : Nat, j < k + 1 → L[j]? = M[j]?) := fun h => hidden (fun j hj => by
          by_cases e : j = k
          · subst e; rw [HX.out, HY.out, HQ.out.2 h]
          · exact HN.out j (by omega))
        have HNo : q = false → Hid (r = false) := fun h => hidden (HF.out ⟨k, _, _, HX.out, HY.out, fun e => by rw [HQ.out.1 e] at h; cases h⟩)
        replace HN2 := hidden HN2
        replace HNo := hidden HNo
        clear HQ HX HY HN
        rcases hq with ⟨q1, rfl⟩ | ⟨q1, ⟨q2, rfl⟩ | ⟨q2, ⟨q3, rfl⟩ | ⟨q3, ⟨q4, rfl⟩ | ⟨q4, q5⟩⟩⟩⟩
        case inr.inr.inr.inr =>
          rw [q5] at HS
          clear q5
          go_wp2_with fail
          refine wp_region_ext (by kernel_rfl) (by kernel_rfl) ?_
          repeat (go_big_quiet_step ((go_at_call 35; exact Ext.call (HS.out _ (Ext.below _)))))
          refine wpQuiet_nil ?_
          intro w2 hb2
          clear z0 z1 z2 z3 z4 p0 p1 p2 p3 p4 HS
          replace hb := hb.trans (hb2.mono hb.size)
          cases q with
          | true =>
            have HN3 := HN2.out rfl
            go_wp2
            go_roundw
            case rel => exact ⟨k + 1, by omega, by go_num, HN3, hb⟩
            case measure => simp [intOf]; omega
          | false =>
            have HE := HNo.out rfl
            go_wp2
            go_ret
            exact ⟨by rw [HE.out]; rfl, hb⟩
        all_goals
          have HE := HNo.out rfl
          go_wp2_with fail
          refine wp_region_ext (by kernel_rfl) (by kernel_rfl) ?_
          repeat (go_big_quiet_step (fail))
          refine wpQuiet_nil ?_
          intro w2 hb2
          clear z0 z1 z2 z3 z4 p0 p1 p2 p3 p4
          replace hb := hb.trans (hb2.mono hb.size)
          go_wp2
          go_ret
          exact ⟨by rw [HE.out]; rfl, hb⟩
      · obtain rfl : k = L.length := by omega
        have HE := hidden (HT.out HN.out)
        go_wp2
        go_ret
        exact ⟨by rw [HE.out]; rfl, hb⟩
  · have q1 : (((L.length : Nat) : Int) != (M.length : Int)) = true := by rw [bne_iff_ne]; omega
    have HE : Hid (eqB L M = false) := hidden (eqB_false (by
      intro e; rw [e] at hlen; exact hlen rfl))
    generalize eqB L M = r at *
    clear hlen
    go_enter Try.func18, Try.ntmps18
    go_wp2
    go_ret
    exact ⟨by rw [HE.out]; rfl, Below.refl _ _⟩
end Go.Proofs.Ytmmhkjdnejeooaa.T

namespace Go.Proofs.Ytmmhkjdnejeooaa.T
open Go.RowKit Go.Shelf

/-- A node's value. -/
abbrev ndVal (x : Node) (l : Value) : Value := .agg #[.int .i64 x.kind, .int .i64 x.n, .int .i64 x.size, l, .string x.text]

end Go.Proofs.Ytmmhkjdnejeooaa.T
