/-
  facsimilelaw27.spoil: other texts in pieces of the call's own.
-/
import Derived.Test.YtihblifkbljgaaaTreePut2
namespace Go.Proofs.Ytihblifkbljgaaa
open Go.RowKit Go.Shelf

/-- From w to w' only blocks from lo on, below hi, other than b have turned; a text is longer by one byte at most. -/
structure Spoilt (lo hi b M : Nat) (w w' : World) : Prop where
  below : Below lo w w'
  size : w'.heap.size = w.heap.size
  block : ∀ q, hi ≤ q ∨ q = b → w'.heap[q]? = w.heap[q]?
  frozen : ∀ p, w'.frozen? p = w.frozen? p
  str : ∀ p s, w.cell? p = some (.string s) → s.size ≤ M → ∃ s', w'.cell? p = some (.string s') ∧ s'.size ≤ M + 1

/-- A lead in the call's own blocks, apart from b; its texts have at most M bytes. -/
def LeadAt (w : World) (lo hi b M : Nat) (l : Value) : Prop :=
  ∃ A m c, l = .slice A m c ∧ m ≤ c ∧ c ≤ maxLen ∧ (0 < m → ∃ g, A = some ⟨g, 0, none⟩ ∧ lo ≤ g ∧ g < hi ∧ g ≠ b ∧
    ∀ j, j < m → (∃ s, w.cell? ⟨g, j * 2 + 1, none⟩ = some (.string s) ∧ s.size ≤ M) ∧ w.frozen? ⟨g, j * 2 + 1, none⟩ = false)

theorem LeadAt.spoilt {w w' : World} {lo hi b M : Nat} {l : Value} (h : LeadAt w lo hi b M l) (hs : Spoilt lo hi b M w w') : LeadAt w' lo hi b (M + 1) l := by
  obtain ⟨A, m, c, rfl, h1, h2, h3⟩ := h
  refine ⟨A, m, c, rfl, h1, h2, fun h0 => ?_⟩
  obtain ⟨g, rfl, g1, g2, g3, h4⟩ := h3 h0
  refine ⟨g, rfl, g1, g2, g3, fun j hj => ?_⟩
  obtain ⟨⟨s, h5, h6⟩, h7⟩ := h4 j hj
  exact ⟨hs.str _ s h5 h6, (hs.frozen _).trans h7⟩
theorem LeadAt.keep {w w' : World} {lo hi b M M' : Nat} {l : Value} (h : LeadAt w lo hi b M l) (hM : M ≤ M') (hk : ∀ q, lo ≤ q → q < hi → q ≠ b → w'.heap[q]? = w.heap[q]?) : LeadAt w' lo hi b M' l := by
  obtain ⟨A, m, c, rfl, h1, h2, h3⟩ := h
  refine ⟨A, m, c, rfl, h1, h2, fun h0 => ?_⟩
  obtain ⟨g, rfl, g1, g2, g3, h4⟩ := h3 h0
  refine ⟨g, rfl, g1, g2, g3, fun j hj => ?_⟩
  obtain ⟨⟨s, h5, h6⟩, h7⟩ := h4 j hj
  have hb := hk g g1 g2 g3
  exact ⟨⟨s, (World.cell?_of_block (w := w) (a := ⟨g, j * 2 + 1, none⟩) hb).trans h5, by omega⟩, (World.frozen?_of_block (w := w) (a := ⟨g, j * 2 + 1, none⟩) hb).trans h7⟩
theorem Spoilt.refl (lo hi b M : Nat) (w : World) : Spoilt lo hi b M w w := ⟨Below.refl _ _, rfl, fun _ _ => rfl, fun _ => rfl, fun p s h1 h2 => ⟨s, h1, by omega⟩⟩
/-- One text is written anew. -/
theorem Spoilt.set {lo hi b M : Nat} {w w' : World} (h : Spoilt lo hi b M w w') {g i : Nat} (h1 : lo ≤ g) (h2 : g < hi) (h3 : g ≠ b) {s : ByteArray} (hs : s.size ≤ M + 1) (hc : ∃ u, w'.cell? ⟨g, i, none⟩ = some u) : Spoilt lo hi b M w (w'.setCell ⟨g, i, none⟩ (.string s)) := by
  refine ⟨h.below.setCell (p := ⟨g, i, none⟩) h1 _, by rw [World.size_setCell]; exact h.size, fun q hq => ?_, fun p => by rw [World.frozen?_setCell]; exact h.frozen p, fun p t hp ht => ?_⟩
  · rw [Below.heap_setCell _ _ _ _ (by rcases hq with hq | hq <;> (dsimp only; omega))]
    exact h.block q hq
  · by_cases e : (⟨g, i, none⟩ : Addr) = p
    · subst e
      obtain ⟨u, hc⟩ := hc
      exact ⟨s, World.cell?_setCell_same _ _ _ hc, hs⟩
    · obtain ⟨s', h5, h6⟩ := h.str p t hp ht
      exact ⟨s', (World.cell?_setCell_other _ _ _ _ e).trans h5, h6⟩

set_option maxHeartbeats 2000000 in
theorem spoil (l : Value) (lo hi b M : Nat) (w : World) (hM : M ≤ 4611686018427387904) (hl : LeadAt w lo hi b M l) :
    Calls Try.prog 35 #[l] w fun e w' => e = .returned (.tuple #[]) ∧ Spoilt lo hi b M w w' := by
  obtain ⟨A, m, c, rfl, hc1, hc2, hA⟩ := hl
  unfold maxLen at hc2
  have HA := hidden hA
  clear hA
  go_enter Try.func35, Try.ntmps35
  go_wp2
  go_loopw [2] (fun ii wr => ∃ k : Nat, k ≤ m ∧ ii = .int .i64 k ∧ Hid (∀ j g, k ≤ j → wr.cell? ⟨g, j * 2 + 1, none⟩ = w.cell? ⟨g, j * 2 + 1, none⟩) ∧ Spoilt lo hi b M w wr) (fun ii _ => m - (intOf ii).toNat)
  case atStart => exact ⟨0, by omega, rfl, hidden (fun _ _ _ => rfl), Spoilt.refl _ _ _ _ _⟩
  case round =>
    obtain ⟨k, hk, rfl, HC, hb⟩ := hrel
    by_cases hlt : k < m
    · obtain ⟨g, rfl, g1, g2, g3, h4⟩ := HA.out (by omega)
      obtain ⟨⟨s, x1, x2⟩, x3⟩ := h4 k hlt
      have y1 := (HC.out k g (Nat.le_refl _)).trans x1
      have yf := (hb.frozen ⟨g, k * 2 + 1, none⟩).trans x3
      clear h4 x3 x1
      go_wp2
      go_roundw
      case rel =>
        refine ⟨k + 1, by omega, by go_num, hidden (fun j g' hj => ?_), hb.set g1 g2 g3 ?_ ⟨_, y1⟩⟩
        · rw [World.cell?_setCell_other _ _ _ _ (by intro e; simp only [Addr.mk.injEq] at e; omega)]
          exact HC.out j g' (by omega)
        · have h1 : ({ data := #[33] } : ByteArray).size = 1 := rfl
          rw [ByteArray.size_append]; omega
      case measure => simp [intOf]; omega
    · obtain rfl : k = m := by omega
      go_wp2
      refine bodyPost_end (results_none rfl _ _ _) rfl ?_
      exact ⟨rfl, hb⟩
end Go.Proofs.Ytihblifkbljgaaa
