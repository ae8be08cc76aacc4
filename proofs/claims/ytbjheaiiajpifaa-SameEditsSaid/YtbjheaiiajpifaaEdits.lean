/-
  Edits, as plain data; rows of them; compared (law40.sameEdits).
-/
import Derived.Test.YtbjheaiiajpifaaSamePl
namespace Go.Proofs.Ytbjheaiiajpifaa.T
open Go.RowKit Go.Shelf

structure Edit where
  op : Int
  path : List Nat
  sub : List Node
  lead : List Piece
/-- The three slices of an edit. -/
structure EdIn (w : World) (T : Nat → Prop) (x : Edit) (q : Value × Value × Value) : Prop where
  path : Rd w T 1 q.1 x.path.length (ints x.path)
  sub : Nds w T q.2.1 x.sub
  lead : Pcs w T q.2.2 x.lead
def edCells (y : Edit × (Value × Value × Value)) : List Value := [.int .i64 y.1.op, y.2.1, y.2.2.1, y.2.2.2]
/-- v reads as the edits. -/
def Eds (w : World) (T : Nat → Prop) (v : Value) (es : List Edit) : Prop :=
  ∃ qs : List (Value × Value × Value), qs.length = es.length ∧ Rd w T 4 v es.length ((es.zip qs).flatMap edCells) ∧ ∀ (i : Nat) (x : Edit) (q : Value × Value × Value), es[i]? = some x → qs[i]? = some q → EdIn w T x q
section
variable {w w' : World} {T T' : Nat → Prop} {v : Value} {es : List Edit} {x : Edit} {q : Value × Value × Value}
theorem EdIn.mono (h : EdIn w T x q) (hT : ∀ k, T k → T' k) : EdIn w T' x q := ⟨h.path.mono hT, h.sub.mono hT, Rd.mono h.lead hT⟩
theorem EdIn.keeps (h : EdIn w T x q) (hk : Keeps T w w') : EdIn w' T x q := ⟨h.path.keeps hk, h.sub.keeps hk, Rd.keeps h.lead hk⟩
theorem EdIn.one (h : EdIn w T x q) : ∀ u ∈ edCells (x, q), u.oneCell' = true := by
  obtain ⟨A1, c1, e1, _⟩ := h.path.val
  obtain ⟨A2, c2, e2, _⟩ := h.sub.value
  obtain ⟨A3, c3, e3, _⟩ := h.lead.value
  intro u hu
  simp only [edCells, List.mem_cons, List.not_mem_nil, or_false] at hu
  rcases hu with rfl | rfl | rfl | rfl
  · rfl
  · rw [e1]; rfl
  · rw [e2]; rfl
  · rw [e3]; rfl
theorem Eds.old (h : Eds w (Old w) v es) (hb : Below w.heap.size w w') : Eds w' (Old w') v es := by
  obtain ⟨qs, h1, h2, h3⟩ := h
  exact ⟨qs, h1, h2.old hb, fun i x q a b => ((h3 i x q a b).keeps ⟨hb.size, fun k hk _ => hb.block k hk⟩).mono (fun k hk => Nat.lt_of_lt_of_le hk hb.size)⟩
theorem Eds.value (h : Eds w T v es) : ∃ A c, v = .slice A es.length c ∧ es.length ≤ c ∧ c ≤ maxLen := by
  obtain ⟨qs, _, h2, _⟩ := h
  exact h2.val
theorem Eds.at_ {A : Option Addr} {n c : Nat} (h : Eds w T (.slice A n c) es) {i : Nat} (hx : es[i]? = some x) :
    ∃ b off p s l, A = some ⟨b, off, none⟩ ∧ w.cell? ⟨b, off + i * 4, none⟩ = some (.int .i64 x.op) ∧ w.cell? ⟨b, off + i * 4 + 1, none⟩ = some p ∧ w.cell? ⟨b, off + i * 4 + 2, none⟩ = some s ∧ w.cell? ⟨b, off + i * 4 + 3, none⟩ = some l ∧ EdIn w T x (p, s, l) := by
  obtain ⟨qs, h1, h2, h3⟩ := h
  have hi := (List.getElem?_eq_some_iff.1 hx).1
  have hl : qs[i]? = some (qs[i]'(by omega)) := List.getElem?_eq_getElem _
  have hz : (es.zip qs)[i]? = some (x, qs[i]'(by omega)) := by rw [List.getElem?_zip_eq_some]; exact ⟨hx, hl⟩
  obtain ⟨A', c', hv, _, _⟩ := h2.val
  simp only [Value.slice.injEq] at hv
  obtain ⟨rfl, rfl, rfl⟩ := hv
  obtain ⟨b, off, rfl, _, hc⟩ := Rd.flat_at (f := edCells) h2 (fun _ => rfl) (by decide) hz
  exact ⟨b, off, _, _, _, rfl, hc 0 _ rfl, hc 1 _ rfl, hc 2 _ rfl, hc 3 _ rfl, h3 i x _ hx hl⟩
end

set_option maxRecDepth 20000 in
set_option maxHeartbeats 8000000 in
theorem same_edits_self (va vb : Value) (es : List Edit) (w : World) (hA : Eds w (Old w) va es) (hB : Eds w (Old w) vb es) (hp : ∀ x ∈ es, x.path.length ≤ 140737488355) :
    Calls Try.prog 25 #[va, vb] w fun r w' => r = .returned (.bool true) ∧ Below w.heap.size w w' := by
  have HA := hidden (fun (w' : World) (hb : Below w.heap.size w w') => hA.old hb)
  have HB := hidden (fun (w' : World) (hb : Below w.heap.size w w') => hB.old hb)
  have HPh := hidden hp
  obtain ⟨A1, c1, rfl, d1, e1⟩ := hA.value
  obtain ⟨A2, c2, rfl, d2, e2⟩ := hB.value
  unfold maxLen at e1 e2
  have q0 : ((es.length : Int) != (es.length : Int)) = false := by simp
  clear hA hB hp
  go_enter Try.func25, Try.ntmps25
  go_wp2
  go_loopg [5] es.length (fun gh kk wr => ∃ k : Nat, k ≤ es.length ∧ gh = es.length - k ∧ kk = .int .i64 k ∧ Below w.heap.size w wr)
  case atStart => exact ⟨0, by omega, rfl, by go_num, Below.refl _ _⟩
  case round =>
    obtain ⟨k, hk, rfl, rfl, hb⟩ := hrel
    by_cases hlt : k < es.length
    · have hx := List.getElem?_eq_getElem hlt
      have hpl := HPh.out _ (List.getElem_mem hlt)
      obtain ⟨b1, o1, p1, s1, l1, rfl, x0, x1, x2, x3, hi1⟩ := (HA.out _ hb).at_ hx
      obtain ⟨b2, o2, p2, s2, l2, rfl, y0, y1, y2, y3, hi2⟩ := (HB.out _ hb).at_ hx
      generalize es[k] = x at *
      obtain ⟨A3, c3, rfl, _, _⟩ := hi1.path.val
      obtain ⟨A4, c4, rfl, _, _⟩ := hi2.path.val
      obtain ⟨A5, c5, rfl, _, _⟩ := hi1.sub.value
      obtain ⟨A6, c6, rfl, _, _⟩ := hi2.sub.value
      obtain ⟨A7, c7, rfl, _, _⟩ := hi1.lead.value
      obtain ⟨A8, c8, rfl, _, _⟩ := hi2.lead.value
      have C1 := hidden (fun y : Ext wr => ints_self _ _ x.path y.w hpl (Rd.old hi1.path y.below) (Rd.old hi2.path y.below))
      have C2 := hidden (fun y : Ext wr => ref_same _ _ x.sub x.sub y.w (hi1.sub.old y.below) (hi2.sub.old y.below))
      have C3 := hidden (fun y : Ext wr => same_pcs _ _ x.lead x.lead y.w (Rd.old hi1.lead y.below) (Rd.old hi2.lead y.below))
      rw [eqB_self] at C2 C3
      have z0 := Ext.cell x0; have z1 := Ext.cell x1; have z2 := Ext.cell x2; have z3 := Ext.cell x3
      have u0 := Ext.cell y0; have u1 := Ext.cell y1; have u2 := Ext.cell y2; have u3 := Ext.cell y3
      have q1 : (x.op != x.op) = false := by simp
      clear x0 x1 x2 x3 y0 y1 y2 y3 hi1 hi2 hx hpl
      go_wp2_with fail
      refine wp_region_ext (by kernel_rfl) (by kernel_rfl) ?_
      repeat (go_big_quiet_step (first | (go_at_call 17; exact Ext.call (C1.out _)) | (go_at_call 21; exact Ext.call (C2.out _)) | (go_at_call 50; exact Ext.call (C3.out _))))
      refine wpQuiet_nil ?_
      intro w2 hb2
      replace hb := below_more hb hb2
      clear hb2 z0 z1 z2 z3 u0 u1 u2 u3 C1 C2 C3
      go_wp2
      go_roundg (es.length - (k + 1))
      case measure => omega
      case rel => exact ⟨k + 1, by omega, rfl, by go_num, hb⟩
    · obtain rfl : k = es.length := by omega
      go_wp2
      go_ret
      exact ⟨rfl, hb⟩

/-- Edits of the call's own, each slice of theirs apart from the row. -/
def EdsM (w : World) (base : Nat) (v : Value) (es : List Edit) : Prop :=
  ∃ qs : List (Value × Value × Value), qs.length = es.length ∧ Mine w base 55 4 v es.length ((es.zip qs).flatMap edCells) ∧ (∀ g, v.ownBlock = some g → base ≤ g ∧ g < w.heap.size) ∧
    ∀ (i : Nat) (x : Edit) (q : Value × Value × Value), es[i]? = some x → qs[i]? = some q → EdIn w (fun k => k < w.heap.size ∧ v.ownBlock ≠ some k) x q
section
variable {w w' : World} {base : Nat} {v : Value} {es : List Edit} {x : Edit} {q : Value × Value × Value}
theorem EdsM.below (h : EdsM w base v es) (hb : Below w.heap.size w w') : EdsM w' base v es := by
  obtain ⟨qs, h1, h2, h3, h4⟩ := h
  have := hb.size
  exact ⟨qs, h1, h2.below hb, fun g hg => ⟨(h3 g hg).1, by have := (h3 g hg).2; omega⟩, fun i x q a b => ((h4 i x q a b).keeps ⟨hb.size, fun k hk _ => hb.block k hk.1⟩).mono (fun k hk => ⟨by omega, hk.2⟩)⟩
theorem EdsM.eds (h : EdsM w base v es) : Eds w (Old w) v es := by
  obtain ⟨qs, h1, h2, h3, h4⟩ := h
  exact ⟨qs, h1, h2.rd (fun g _ _ h => h), fun i x q a b => (h4 i x q a b).mono (fun k hk => hk.1)⟩
theorem EdsM.value (h : EdsM w base v es) : ∃ A c, v = .slice A es.length c := by
  obtain ⟨A, c, e, _⟩ := h.eds.value
  exact ⟨A, c, e⟩
theorem edit_info : Hid (TyInfo Try.prog 55 (.agg #[.int .i64 0, .slice none 0 0, .slice none 0 0, .slice none 0 0]) 4 80) :=
  hidden (info_parts (show (Try.prog.info? 55).map (fun i => (i.zero, i.size, i.bytes)) = some (some (.agg #[.int .i64 0, .slice none 0 0, .slice none 0 0, .slice none 0 0]), 4, 80) by kernel_rfl))
/-- One edit is put behind the call's own. -/
theorem wpList_append_ed {w W0 : World} {ops : Array Oper} {rest : List Oper} {o : Oper} {a : Act} {Q : Exit → Act → World → Prop} (hgd : o.guard = none) (s y : Operand)
    (ho : o.op = .call { callee := .builtin .append, args := #[s, y], argTypes := #[46, 46] }) (HM : Hid (EdsM W0 base v es)) (HX : Hid (EdIn W0 (fun k => k < W0.heap.size ∧ v.ownBlock ≠ some k) x q)) {e' : TypeId} (hw : w = W0.alloc (.cells #[.int .i64 x.op, q.1, q.2.1, q.2.2] e')) (hs : a.eval s = v) {g : Nat}
    (hx : a.eval y = .slice (some ⟨g, 0, none⟩) 1 1) (hg : g = W0.heap.size) (hn : es.length ≤ 1000000000) (hb : base ≤ W0.heap.size)
    (h : ∀ v' w', Hid (EdsM w' base v' (es ++ [x])) → Below base W0 w' → Hid (Keeps (fun k => v.ownBlock ≠ some k) W0 w') → wpList Try.prog ops Q rest (a.put o.dst v') w') : wpList Try.prog ops Q (o :: rest) a w := by
  obtain ⟨qs, h1, h2, h3, h4⟩ := HM.out
  obtain ⟨i, hi, hz, hsz, hby⟩ := edit_info.out
  subst hw hg
  refine wpList_append_rd hgd s y 46 ho base 55 i _ 4 80 (by kernel_rfl) hi hz hsz hby rfl (by decide) v es.length _ hs (h2.alloc _) (T := fun _ => True) _ 1 (edCells (x, q)) hx ?_ HX.out.one (by omega) (by decide) (Nat.le_trans hb (by simp)) (fun v' w' hA => h v' w' ?_ (((Below.refl _ _).alloc hb _).trans hA.below) (hidden (((Keeps.refl _ _).alloc _).trans hA.keeps)))
  · exact Rd.fresh (cs := edCells (x, q)) (n := 1) (size := 4) rfl (Nat.le_refl _) (by decide) trivial rfl
  · have hsw := hA.keeps.size
    simp at hsw
    have hown : ∀ k, k < W0.heap.size → v.ownBlock ≠ some k → v'.ownBlock ≠ some k := fun k hk hv e => by
      rcases hA.at_ with h | ⟨g, h, h5, _⟩
      · rw [h] at e; exact hv e
      · rw [h] at e; cases e; simp at h5; omega
    have hkp : Keeps (fun k => k < W0.heap.size ∧ v.ownBlock ≠ some k) W0 w' := (((Keeps.refl _ _).alloc _).trans hA.keeps).mono (fun k hk => hk.2)
    refine hidden ⟨qs ++ [q], by simp [h1], ?_, fun g hg => ?_, fun j y r ha hb' => ?_⟩
    · have := hA.mine
      rw [List.zip_append (by omega), List.flatMap_append, List.length_append]
      simpa using this
    · rcases hA.at_ with h | ⟨g', h, h5, h6⟩
      · have := h3 g (by rw [← h]; exact hg)
        omega
      · rw [h] at hg; cases hg
        simp at h5
        omega
    · rcases Nat.lt_or_ge j es.length with h | h
      · rw [List.getElem?_append_left h] at ha
        rw [List.getElem?_append_left (by omega)] at hb'
        exact ((h4 j y r ha hb').keeps hkp).mono (fun k hk => ⟨by omega, hown k hk.1 hk.2⟩)
      · rw [List.getElem?_append_right h] at ha
        rw [List.getElem?_append_right (by omega), h1] at hb'
        have e : j - es.length = 0 := by
          have := (List.getElem?_eq_some_iff.1 ha).1
          simp at this; omega
        rw [e] at ha hb'
        simp at ha hb'; subst ha hb'
        exact (HX.out.keeps hkp).mono (fun k hk => ⟨by omega, hown k hk.1 hk.2⟩)
end
end Go.Proofs.Ytbjheaiiajpifaa.T
