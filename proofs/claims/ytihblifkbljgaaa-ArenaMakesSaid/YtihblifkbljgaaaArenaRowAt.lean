/-
  A row of nodes of the call's own, whose leads are spoilt one behind the other.
-/
import Derived.Test.YtihblifkbljgaaaArenaSpoil
namespace Go.Proofs.Ytihblifkbljgaaa
open Go.RowKit Go.Shelf

/-- No text of a lead has more than M bytes. -/
def Txt (M : Nat) (t : List Node) : Prop := ∀ y ∈ t, ∀ p ∈ y.lead, p.text.size ≤ M

/-- What is written to of the k-th node. -/
def NdAt (w : World) (lo hi b M k : Nat) : Prop :=
  (∃ u, w.cell? ⟨b, k * 5 + 2, none⟩ = some u) ∧ w.frozen? ⟨b, k * 5 + 2, none⟩ = false ∧ ∃ l, w.cell? ⟨b, k * 5 + 3, none⟩ = some l ∧ LeadAt w lo hi b M l
def RowAt (w : World) (lo hi : Nat) (v : Value) (n M : Nat) : Prop :=
  ∃ A c, v = .slice A n c ∧ n ≤ c ∧ c ≤ maxLen ∧ (0 < n → ∃ b, A = some ⟨b, 0, none⟩ ∧ lo ≤ b ∧ b < hi ∧ ∀ k, k < n → NdAt w lo hi b M k)

theorem Own.row {w : World} {lo M : Nat} {v : Value} {t : List Node} (h : Own w lo v t) (hM : Txt M t) : RowAt w lo w.heap.size v t.length M := by
  obtain ⟨A, c, hv, hc1, hc2⟩ := h.nds.value
  obtain ⟨ls, h1, h2, h3⟩ := h
  refine ⟨A, c, hv, hc1, hc2, fun h0 => ?_⟩
  obtain ⟨g, cap, hv2, _, _, g1, g2, g3⟩ := h2.open_ h0
  have hfz : ∀ j, w.frozen? ⟨g, j, none⟩ = false := fun j => by
    rcases (h2.own h0).2 with ⟨_, e⟩ | ⟨g', cap', cur, hv3, _, hg, _⟩
    · omega
    · rw [hv2] at hv3
      simp only [Value.slice.injEq, Option.some.injEq, Addr.mk.injEq] at hv3
      obtain ⟨⟨rfl, _⟩, _, _⟩ := hv3
      exact Holds.frozen hg _
  rw [hv] at hv2
  simp only [Value.slice.injEq] at hv2
  obtain ⟨rfl, _, rfl⟩ := hv2
  refine ⟨g, rfl, g1, g2, fun k hk => ?_⟩
  have hx := List.getElem?_eq_getElem hk
  have hl : ls[k]? = some (ls[k]'(by omega)) := List.getElem?_eq_getElem _
  have hz : (t.zip ls)[k]? = some (t[k], ls[k]'(by omega)) := by rw [List.getElem?_zip_eq_some]; exact ⟨hx, hl⟩
  have hcell : ∀ j u, j < 5 → (ndCells t[k] (ls[k]'(by omega)))[j]? = some u → w.cell? ⟨g, k * 5 + j, none⟩ = some u := fun j u hj hu => g3 _ u (by
    unfold allCells
    rw [flat_at (fun x : Node × Value => ndCells x.1 x.2) 5 (fun _ => rfl) (t.zip ls) k j _ hz hj]
    exact hu)
  refine ⟨⟨_, hcell 2 _ (by omega) rfl⟩, hfz _, _, hcell 3 _ (by omega) rfl, ?_⟩
  obtain ⟨q1, q2⟩ := h3 k _ _ hx hl
  obtain ⟨A3, c3, e3, f1, f2⟩ := (q1.rd (T := fun _ => True) (fun _ _ _ _ => trivial)).val
  refine ⟨A3, t[k].lead.length, c3, e3, f1, f2, fun hl0 => ?_⟩
  obtain ⟨g', cap', hv4, _, _, r1, r2, r3⟩ := q1.open_ hl0
  have hfz2 : ∀ j, w.frozen? ⟨g', j, none⟩ = false := fun j => by
    rcases (q1.own hl0).2 with ⟨_, e⟩ | ⟨g'', cap'', cur, hv3, _, hg, _⟩
    · omega
    · rw [hv4] at hv3
      simp only [Value.slice.injEq, Option.some.injEq, Addr.mk.injEq] at hv3
      obtain ⟨⟨rfl, _⟩, _, _⟩ := hv3
      exact Holds.frozen hg _
  have hne : g' ≠ g := fun e => by
    have := (q2 g' (by rw [hv4]; rfl)).1
    rw [hv, e] at this
    exact this rfl
  rw [hv4] at e3
  simp only [Value.slice.injEq] at e3
  obtain ⟨rfl, _, rfl⟩ := e3
  refine ⟨g', rfl, r1, r2, hne, fun j hj => ⟨⟨(t[k].lead[j]).text, r3 _ _ ?_, hM _ (List.getElem_mem hk) _ (List.getElem_mem hj)⟩, hfz2 _⟩⟩
  rw [flat_at pcCells 2 (fun _ => rfl) t[k].lead j 1 _ (List.getElem?_eq_getElem hj) (by omega)]
  rfl

theorem NdAt.keep {w w' : World} {lo hi b M M' k : Nat} (h : NdAt w lo hi b M k) (hM : M ≤ M') (h1 : lo ≤ b) (h2 : b < hi) (hk : ∀ q, lo ≤ q → q < hi → w'.heap[q]? = w.heap[q]?) : NdAt w' lo hi b M' k := by
  obtain ⟨⟨u, a1⟩, a2, l, a3, a4⟩ := h
  have hb := hk b h1 h2
  exact ⟨⟨u, (World.cell?_of_block (w := w) (a := ⟨b, k * 5 + 2, none⟩) hb).trans a1⟩, (World.frozen?_of_block (w := w) (a := ⟨b, k * 5 + 2, none⟩) hb).trans a2, l, (World.cell?_of_block (w := w) (a := ⟨b, k * 5 + 3, none⟩) hb).trans a3, a4.keep hM (fun q q1 q2 _ => hk q q1 q2)⟩
theorem RowAt.keep {w w' : World} {lo hi n M M' : Nat} {v : Value} (h : RowAt w lo hi v n M) (hM : M ≤ M') (hk : ∀ q, lo ≤ q → q < hi → w'.heap[q]? = w.heap[q]?) : RowAt w' lo hi v n M' := by
  obtain ⟨A, c, hv, h1, h2, h3⟩ := h
  refine ⟨A, c, hv, h1, h2, fun h0 => ?_⟩
  obtain ⟨b, hA, b1, b2, h4⟩ := h3 h0
  exact ⟨b, hA, b1, b2, fun k hk' => (h4 k hk').keep hM b1 b2 hk⟩
/-- A node's size is written. -/
theorem RowAt.size {w : World} {lo hi n M : Nat} {b c : Nat} (h : RowAt w lo hi (.slice (some ⟨b, 0, none⟩) n c) n M) (k : Nat) (u : Value) : RowAt (w.setCell ⟨b, k * 5 + 2, none⟩ u) lo hi (.slice (some ⟨b, 0, none⟩) n c) n M := by
  obtain ⟨A, c', hv, h1, h2, h3⟩ := h
  refine ⟨A, c', hv, h1, h2, fun h0 => ?_⟩
  simp only [Value.slice.injEq] at hv
  obtain ⟨rfl, _, rfl⟩ := hv
  obtain ⟨b', hA, b1, b2, h4⟩ := h3 h0
  simp only [Option.some.injEq, Addr.mk.injEq] at hA
  obtain ⟨rfl, _⟩ := hA
  refine ⟨b, rfl, b1, b2, fun j hj => ?_⟩
  obtain ⟨⟨x, a1⟩, a2, l, a3, a4⟩ := h4 j hj
  refine ⟨?_, by rw [World.frozen?_setCell]; exact a2, l, ?_, a4.keep (Nat.le_refl _) (fun q _ _ hq => Below.heap_setCell _ _ _ _ hq)⟩
  · by_cases e : (⟨b, k * 5 + 2, none⟩ : Addr) = ⟨b, j * 5 + 2, none⟩
    · rw [← e] at a1 ⊢
      exact ⟨u, World.cell?_setCell_same _ _ _ a1⟩
    · exact ⟨x, (World.cell?_setCell_other _ _ _ _ e).trans a1⟩
  · rw [World.cell?_setCell_other _ _ _ _ (by intro e; simp only [Addr.mk.injEq] at e; omega)]
    exact a3
theorem RowAt.spoilt {w w' : World} {lo hi n M : Nat} {b c : Nat} (h : RowAt w lo hi (.slice (some ⟨b, 0, none⟩) n c) n M) (hs : Spoilt lo hi b M w w') : RowAt w' lo hi (.slice (some ⟨b, 0, none⟩) n c) n (M + 1) := by
  obtain ⟨A, c', hv, h1, h2, h3⟩ := h
  refine ⟨A, c', hv, h1, h2, fun h0 => ?_⟩
  simp only [Value.slice.injEq] at hv
  obtain ⟨rfl, _, rfl⟩ := hv
  obtain ⟨b', hA, b1, b2, h4⟩ := h3 h0
  simp only [Option.some.injEq, Addr.mk.injEq] at hA
  obtain ⟨rfl, _⟩ := hA
  refine ⟨b, rfl, b1, b2, fun j hj => ?_⟩
  obtain ⟨⟨x, a1⟩, a2, l, a3, a4⟩ := h4 j hj
  have hb := hs.block b (.inr rfl)
  exact ⟨⟨x, (World.cell?_of_block (w := w) (a := ⟨b, j * 5 + 2, none⟩) hb).trans a1⟩, (hs.frozen _).trans a2, l, (World.cell?_of_block (w := w) (a := ⟨b, j * 5 + 3, none⟩) hb).trans a3, a4.spoilt hs⟩
/-- What a round opens. -/
theorem RowAt.at_ {w : World} {lo hi n M : Nat} {A : Option Addr} {c k : Nat} (h : RowAt w lo hi (.slice A n c) n M) (hk : k < n) : ∃ b, A = some ⟨b, 0, none⟩ ∧ lo ≤ b ∧ b < hi ∧ (∃ u, w.cell? ⟨b, k * 5 + 2, none⟩ = some u) ∧ w.frozen? ⟨b, k * 5 + 2, none⟩ = false ∧ ∃ l, w.cell? ⟨b, k * 5 + 3, none⟩ = some l ∧ LeadAt w lo hi b M l := by
  obtain ⟨A', c', hv, h1, h2, h3⟩ := h
  simp only [Value.slice.injEq] at hv
  obtain ⟨rfl, _, rfl⟩ := hv
  obtain ⟨b, hA, b1, b2, h4⟩ := h3 (by omega)
  exact ⟨b, hA, b1, b2, h4 k hk⟩
theorem RowAt.val {w : World} {lo hi n M : Nat} {v : Value} (h : RowAt w lo hi v n M) : ∃ A c, v = .slice A n c ∧ n ≤ c ∧ c ≤ maxLen := by
  obtain ⟨A, c, hv, h1, h2, _⟩ := h
  exact ⟨A, c, hv, h1, h2⟩

/-- From W to w only blocks from lo on, below hi, have turned; nothing is laid. -/
structure Within (lo hi : Nat) (W w : World) : Prop where
  below : Below lo W w
  size : w.heap.size = W.heap.size
  block : ∀ q, hi ≤ q → w.heap[q]? = W.heap[q]?
theorem Within.refl (lo hi : Nat) (W : World) : Within lo hi W W := ⟨Below.refl _ _, rfl, fun _ _ => rfl⟩
theorem Within.spoilt {lo hi b M : Nat} {W w w' : World} (h : Within lo hi W w) (hs : Spoilt lo hi b M w w') : Within lo hi W w' :=
  ⟨h.below.trans hs.below, hs.size.trans h.size, fun q hq => (hs.block q (.inl hq)).trans (h.block q hq)⟩
theorem Within.set {lo hi b i : Nat} {W w : World} (h : Within lo hi W w) (h1 : lo ≤ b) (h2 : b < hi) (u : Value) : Within lo hi W (w.setCell ⟨b, i, none⟩ u) :=
  ⟨h.below.setCell (p := ⟨b, i, none⟩) h1 _, (World.size_setCell _ _ _).trans h.size, fun q hq => (Below.heap_setCell _ _ _ _ (by dsimp only; omega)).trans (h.block q hq)⟩
theorem Own.from {w : World} {B : Nat} {v : Value} {t : List Node} (h : Own w B v t) : Nds w (fun k => B ≤ k ∧ k < w.heap.size) v t := by
  obtain ⟨ls, h1, h2, h3⟩ := h
  exact ⟨ls, h1, h2.rd (fun g _ hb hl => ⟨hb, hl⟩), fun i x l a b => (h3 i x l a b).1.rd (fun g _ hb hl => ⟨hb, hl⟩)⟩

theorem txt_put {M : Nat} {t s : List Node} {i : Int} (h1 : Txt M t) (h2 : Txt M s) : Txt M (putOf t i s) := by
  intro y hy
  unfold putOf at hy
  split at hy
  · unfold putL at hy
    rw [List.mem_append, List.mem_append] at hy
    rcases hy with (hy | hy) | hy
    · unfold bumps at hy
      rw [List.mem_mapIdx] at hy
      obtain ⟨k, hk, rfl⟩ := hy
      have he : (bump i.toNat ((s.length : Int) - sz t i.toNat) (-1) k (t.take i.toNat)[k]).lead = ((t.take i.toNat)[k]).lead := by unfold bump; split <;> rfl
      rw [he]
      exact h1 _ (List.mem_of_mem_take (List.getElem_mem hk))
    · exact h2 _ hy
    · exact h1 _ (List.mem_of_mem_drop hy)
  · cases hy
theorem txt_sub {M : Nat} {t : List Node} {i : Int} (h1 : Txt M t) : Txt M (subOf t i) := by
  intro y hy
  unfold subOf at hy
  split at hy
  · exact h1 _ (List.mem_of_mem_drop (List.mem_of_mem_take hy))
  · cases hy
theorem txt_one {M : Nat} {t s : List Node} {x : Node} (h0 : ∀ p ∈ x.lead, p.text.size ≤ M) (h1 : Txt M t) (h2 : Txt M s) : Txt M (oneOf x [t, s]) := by
  intro y hy
  unfold oneOf at hy
  rw [List.mem_cons] at hy
  rcases hy with rfl | hy
  · exact h0
  · simp at hy
    rcases hy with hy | hy
    · exact h1 _ hy
    · exact h2 _ hy
theorem two_parts {w : World} {v1 v2 : Value} {t1 t2 : List Node} (h1 : Nds w (Old w) v1 t1) (h2 : Nds w (Old w) v2 t2) :
    Parts (w.alloc (.cells #[v1, v2] 22)) (fun k => k < (w.alloc (.cells #[v1, v2] 22)).heap.size) (.slice (some ⟨w.heap.size, 0, none⟩) 2 2) [t1, t2] := by
  have hT : ∀ k, Old w k → k < (w.alloc (.cells #[v1, v2] 22)).heap.size := fun k hk => by have : k < w.heap.size := hk; simp; omega
  refine ⟨[v1, v2], rfl, Rd.fresh (cs := [v1, v2]) (n := 2) (size := 1) rfl (Nat.le_refl _) (by decide) (by simp) rfl, fun i t u a b => ?_⟩
  match i, a, b with
  | 0, a, b => simp at a b; subst a b; exact (h1.alloc _).mono hT
  | 1, a, b => simp at a b; subst a b; exact (h2.alloc _).mono hT
  | n + 2, a, b => simp at a
theorem putOf_len (t s : List Node) (i : Int) : (putOf t i s).length ≤ t.length + s.length := by
  unfold putOf
  split
  · unfold putL bumps
    simp only [List.length_append, List.length_mapIdx, List.length_take, List.length_drop]
    omega
  · simp
theorem subOf_len (t : List Node) (i : Int) : (subOf t i).length ≤ t.length := by
  unfold subOf
  split
  · simp only [List.length_take, List.length_drop]; omega
  · simp
theorem one_row {w : World} {x : Node} {l : Value} (hl : Pcs w (Old w) l x.lead) :
    Nds (w.alloc (.cells #[.int .i64 x.kind, .int .i64 x.n, .int .i64 x.size, l, .string x.text] 29)) (Old (w.alloc (.cells #[.int .i64 x.kind, .int .i64 x.n, .int .i64 x.size, l, .string x.text] 29))) (.slice (some ⟨w.heap.size, 0, none⟩) 1 1) [x] := by
  refine ⟨[l], rfl, ?_, fun i y l' a b => ?_⟩
  · have e : allCells [x] [l] = [.int .i64 x.kind, .int .i64 x.n, .int .i64 x.size, l, .string x.text] := rfl
    rw [e]
    exact Rd.fresh (cs := [.int .i64 x.kind, .int .i64 x.n, .int .i64 x.size, l, .string x.text]) (n := 1) (size := 5) rfl (Nat.le_refl _) (by decide) (by unfold Old; rw [World.size_alloc]; omega) rfl
  · cases i with
    | zero =>
      simp at a b
      subst a b
      exact Rd.mono (Rd.alloc hl _) (fun _ hk => Nat.lt_of_lt_of_le hk (by rw [World.size_alloc]; omega))
    | succ i => simp at a
theorem pcs_old {w w' : World} {l : Value} {ps : List Piece} (h : Pcs w (Old w) l ps) (hb : Below w.heap.size w w') : Pcs w' (Old w') l ps :=
  Rd.mono (Rd.below h hb (fun _ h => h)) (fun _ hk => Nat.lt_of_lt_of_le hk hb.size)
end Go.Proofs.Ytihblifkbljgaaa
