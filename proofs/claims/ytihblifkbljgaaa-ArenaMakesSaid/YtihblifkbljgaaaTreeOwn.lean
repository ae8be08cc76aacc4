/-
  Nodes in memory of the call's own.
-/
import Derived.Test.YtihblifkbljgaaaTreeClone
import Derived.Laws.OwnMore
namespace Go.Proofs.Ytihblifkbljgaaa
open Go.RowKit Go.Shelf

theorem Mine.stored {w : World} {base : Nat} {e : TypeId} {size g n cap : Nat} {xs : List Value} (h : Mine w base e size (.slice (some ⟨g, 0, none⟩) n cap) n xs) (hn : 0 < n) (j : Nat) (u : Value) :
    Mine (w.setCell ⟨g, j, none⟩ u) base e size (.slice (some ⟨g, 0, none⟩) n cap) n (xs.set j u) := .inl ((h.own hn).stored j u).1

/-- v reads as the nodes t, in blocks from B on that are the call's own: the row, and each lead apart from it. -/
def Own (w : World) (B : Nat) (v : Value) (t : List Node) : Prop :=
  ∃ ls : List Value, ls.length = t.length ∧ Mine w B 29 5 v t.length (allCells t ls) ∧
    ∀ (i : Nat) (x : Node) (l : Value), t[i]? = some x → ls[i]? = some l → Mine w B 59 2 l x.lead.length (x.lead.flatMap pcCells) ∧ ∀ g, l.ownBlock = some g → v.ownBlock ≠ some g ∧ B ≤ g ∧ g < w.heap.size

theorem allCells_set (t : List Node) (ls : List Value) (k : Nat) (l : Value) (h : ls.length = t.length) (hk : k < t.length) : allCells t (ls.set k l) = (allCells t ls).set (k * 5 + 3) l := by
  apply List.ext_getElem?
  intro m
  have hl : (allCells t (ls.set k l)).length = t.length * 5 := allCells_len _ _ (by simp [h])
  have hl2 := allCells_len t ls h
  by_cases hm : m < t.length * 5
  · obtain ⟨i, j, hj, rfl⟩ : ∃ i j, j < 5 ∧ m = i * 5 + j := ⟨m / 5, m % 5, Nat.mod_lt _ (by decide), by omega⟩
    have hi : i < t.length := by omega
    have hat : ∀ (ls : List Value) (hl : ls.length = t.length) , (allCells t ls)[i * 5 + j]? = (ndCells t[i] (ls[i]'(by omega)))[j]? := by
      intro ls hl
      have hz : (t.zip ls)[i]? = some (t[i], ls[i]'(by omega)) := by
        rw [List.getElem?_zip_eq_some]
        exact ⟨List.getElem?_eq_getElem hi, List.getElem?_eq_getElem _⟩
      exact flat_at (fun x : Node × Value => ndCells x.1 x.2) 5 (fun _ => rfl) (t.zip ls) i j _ hz hj
    rw [hat _ (by simp [h])]
    by_cases e : i * 5 + j = k * 5 + 3
    · obtain rfl : i = k := by omega
      obtain rfl : j = 3 := by omega
      rw [List.getElem?_set_self (by omega)]
      simp [ndCells]
    · rw [List.getElem?_set_ne (by omega), hat ls h]
      by_cases ei : i = k
      · subst ei
        rw [List.getElem_set_self]
        have : j ≠ 3 := by omega
        obtain rfl | rfl | rfl | rfl : j = 0 ∨ j = 1 ∨ j = 2 ∨ j = 4 := by omega
        all_goals simp [ndCells]
      · rw [List.getElem_set_ne (by omega)]
  · rw [List.getElem?_eq_none (by omega), List.getElem?_eq_none (by rw [List.length_set]; omega)]

section
variable {w w' : World} {B : Nat} {v : Value} {t : List Node}
theorem Own.below (h : Own w B v t) (hb : Below w.heap.size w w') : Own w' B v t := by
  obtain ⟨ls, h1, h2, h3⟩ := h
  exact ⟨ls, h1, h2.below hb, fun i x l a b => ⟨(h3 i x l a b).1.below hb, fun g hg => by have := (h3 i x l a b).2 g hg; have := hb.size; exact ⟨((h3 i x l a b).2 g hg).1, by omega, by omega⟩⟩⟩
theorem Own.calm {C : Nat} (h : Own w B v t) (hc : Calm C w w') : Own w' B v t := by
  obtain ⟨ls, h1, h2, h3⟩ := h
  exact ⟨ls, h1, h2.calm hc, fun i x l a b => ⟨(h3 i x l a b).1.calm hc, fun g hg => by have := (h3 i x l a b).2 g hg; have := hc.size; exact ⟨((h3 i x l a b).2 g hg).1, by omega, by omega⟩⟩⟩
theorem Own.base {B' : Nat} (h : Own w B v t) (hb : B' ≤ B) : Own w B' v t := by
  obtain ⟨ls, h1, h2, h3⟩ := h
  exact ⟨ls, h1, h2.base hb, fun i x l a b => ⟨(h3 i x l a b).1.base hb, fun g hg => by have := (h3 i x l a b).2 g hg; exact ⟨((h3 i x l a b).2 g hg).1, by omega, by omega⟩⟩⟩
theorem Mine.at_lt {e : TypeId} {size n : Nat} {xs : List Value} (h : Mine w B e size v n xs) (hn : 0 < n) : ∀ g, v.ownBlock = some g → g < w.heap.size := by
  intro g hg
  rcases (h.own hn).2 with ⟨rfl, _⟩ | ⟨g', cap, cur, rfl, hb, hgg, _⟩
  · cases hg
  · cases hg; exact (Array.getElem?_eq_some_iff.1 hgg).1
/-- They read as the nodes. -/
theorem Own.nds (h : Own w B v t) : Nds w (Old w) v t := by
  obtain ⟨ls, h1, h2, h3⟩ := h
  exact ⟨ls, h1, h2.rd (fun g _ _ h => h), fun i x l a b => (h3 i x l a b).1.rd (fun g _ _ h => h)⟩
end
theorem nd_oneCell (t : List Node) (ls : List Value) (h : ∀ l ∈ ls, l.oneCell' = true) : ∀ u ∈ allCells t ls, u.oneCell' = true := by
  intro u hu
  unfold allCells at hu
  rw [List.mem_flatMap] at hu
  obtain ⟨⟨x, l⟩, hx, hu⟩ := hu
  have hl := (List.of_mem_zip hx).2
  simp only [ndCells, List.mem_cons, List.not_mem_nil, or_false] at hu
  rcases hu with rfl | rfl | rfl | rfl | rfl <;> first | rfl | exact h _ hl
theorem pc_oneCell (ps : List Piece) : ∀ u ∈ ps.flatMap pcCells, u.oneCell' = true := by
  intro u hu
  rw [List.mem_flatMap] at hu
  obtain ⟨x, _, hu⟩ := hu
  simp only [pcCells, List.mem_cons, List.not_mem_nil, or_false] at hu
  rcases hu with rfl | rfl <;> rfl
end Go.Proofs.Ytihblifkbljgaaa
