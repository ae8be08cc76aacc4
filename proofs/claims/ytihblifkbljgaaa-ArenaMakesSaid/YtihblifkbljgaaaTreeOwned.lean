/-
  arena.owned: nodes cloned, leads too.
-/
import Derived.Test.YtihblifkbljgaaaTreeOwn
namespace Go.Proofs.Ytihblifkbljgaaa
open Go.RowKit Go.Shelf

/-- The first k leads are the call's own, the others lie where they lay. -/
def OwnTo (w0 w : World) (v : Value) (t : List Node) (k : Nat) : Prop :=
  ∃ ls : List Value, ls.length = t.length ∧ Mine w w0.heap.size 29 5 v t.length (allCells t ls) ∧
    ∀ (i : Nat) (x : Node) (l : Value), t[i]? = some x → ls[i]? = some l →
      (i < k → Mine w w0.heap.size 59 2 l x.lead.length (x.lead.flatMap pcCells) ∧ ∀ g, l.ownBlock = some g → v.ownBlock ≠ some g ∧ w0.heap.size ≤ g ∧ g < w.heap.size) ∧ (k ≤ i → Pcs w (Old w0) l x.lead)

theorem OwnTo.start {w0 w : World} {v' : Value} {t : List Node} {ls : List Value} (hl : ls.length = t.length) (hM : Mine w w0.heap.size 29 5 v' t.length (allCells t ls)) (hp : ∀ (i : Nat) (x : Node) (l : Value), t[i]? = some x → ls[i]? = some l → Pcs w0 (Old w0) l x.lead) (hb : Below w0.heap.size w0 w) : OwnTo w0 w v' t 0 :=
  ⟨ls, hl, hM, fun i x l a b => ⟨fun h => by omega, fun _ => Rd.below (hp i x l a b) hb (fun _ h => h)⟩⟩
theorem OwnTo.done {w0 w : World} {v : Value} {t : List Node} (h : OwnTo w0 w v t t.length) : Own w w0.heap.size v t := by
  obtain ⟨ls, h1, h2, h3⟩ := h
  exact ⟨ls, h1, h2, fun i x l a b => (h3 i x l a b).1 (List.getElem?_eq_some_iff.1 a).1⟩
/-- What is read of the k-th lead, and what is written in its place. -/
theorem OwnTo.step {w0 w : World} {v : Value} {t : List Node} {k : Nat} (h : OwnTo w0 w v t k) (hk : k < t.length) (hb : Below w0.heap.size w0 w) : ∃ g cap l, v = .slice (some ⟨g, 0, none⟩) t.length cap ∧ t.length ≤ cap ∧ cap ≤ maxLen ∧ w0.heap.size ≤ g ∧ g < w.heap.size ∧
    w.cell? ⟨g, k * 5 + 3, none⟩ = some l ∧ w.frozen? ⟨g, k * 5 + 3, none⟩ = false ∧ Pcs w (Old w0) l t[k].lead ∧
    ∀ (w1 : World) (l' : Value), Below w.heap.size w w1 → Mine w1 w.heap.size 59 2 l' t[k].lead.length (t[k].lead.flatMap pcCells) → (∀ q, l'.ownBlock = some q → w.heap.size ≤ q ∧ q < w1.heap.size) → OwnTo w0 (w1.setCell ⟨g, k * 5 + 3, none⟩ l') v t (k + 1) := by
  obtain ⟨ls, h1, h2, h3⟩ := h
  have h0 : 0 < t.length := by omega
  obtain ⟨g, cap, rfl, c1, c2, c3, c4, c5⟩ := h2.open_ h0
  have hx := List.getElem?_eq_getElem hk
  have hl : ls[k]? = some (ls[k]'(by omega)) := List.getElem?_eq_getElem _
  have hz : (t.zip ls)[k]? = some (t[k], ls[k]'(by omega)) := by rw [List.getElem?_zip_eq_some]; exact ⟨hx, hl⟩
  have hcell : (allCells t ls)[k * 5 + 3]? = some (ls[k]'(by omega)) := by
    unfold allCells
    rw [flat_at (fun x : Node × Value => ndCells x.1 x.2) 5 (fun _ => rfl) (t.zip ls) k 3 _ hz (by omega)]
    rfl
  have hfz : w.frozen? ⟨g, k * 5 + 3, none⟩ = false := by
    rcases (h2.own h0).2 with ⟨_, e⟩ | ⟨g', cap', cur, hv, _, hg, _⟩
    · omega
    · simp only [Value.slice.injEq, Option.some.injEq, Addr.mk.injEq] at hv
      obtain ⟨⟨rfl, _⟩, _, _⟩ := hv
      exact Holds.frozen hg _
  refine ⟨g, cap, _, rfl, c1, c2, c3, c4, c5 _ _ hcell, hfz, (h3 k _ _ hx hl).2 (Nat.le_refl _), fun w1 l' hb1 hm hq => ?_⟩
  have hg1 : ∀ q, l'.ownBlock = some q → q ≠ g := fun q e => by have := hq q e; omega
  refine ⟨ls.set k l', by simp [h1], ?_, fun i x l a b => ?_⟩
  · rw [allCells_set t ls k l' h1 hk]
    exact (h2.below hb1).stored h0 _ _
  · by_cases e : i = k
    · subst e
      rw [hx] at a; cases a
      rw [List.getElem?_set_self (by omega)] at b; cases b
      refine ⟨fun _ => ⟨((hm.base (Nat.le_trans hb.size (Nat.le_refl _))).set (p := ⟨g, i * 5 + 3, none⟩) (fun e => hg1 _ e rfl) _), fun q e1 => ⟨fun e2 => ?_, ?_, ?_⟩⟩, fun h => by omega⟩
      · simp [Value.ownBlock] at e2
        exact hg1 q e1 e2.symm
      · have := (hq q e1).1; have := hb.size; omega
      · have := (hq q e1).2; simp [World.setCell]; omega
    · rw [List.getElem?_set_ne (fun h => e h.symm)] at b
      obtain ⟨p1, p2⟩ := h3 i x l a b
      refine ⟨fun hi => ?_, fun hi => ?_⟩
      · obtain ⟨q1, q2⟩ := p1 (by omega)
        exact ⟨(q1.below hb1).set (p := ⟨g, k * 5 + 3, none⟩) (fun e => (q2 _ e).1 rfl) _, fun q hq => ⟨(q2 q hq).1, (q2 q hq).2.1, by have := (q2 q hq).2.2; have := hb1.size; simp [World.setCell]; omega⟩⟩
      · refine Rd.set (Rd.below (B := w0.heap.size) (p2 (by omega)) (hb1.mono (Nat.le_trans hb.size (Nat.le_refl _))) (fun _ h => h)) (fun h => ?_) _
        have : g < w0.heap.size := h
        omega
end Go.Proofs.Ytihblifkbljgaaa
