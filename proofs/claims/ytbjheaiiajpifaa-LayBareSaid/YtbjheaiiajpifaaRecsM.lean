/-
  Records of the call's own, of which one cell is a slice that lies apart from the row. Over any program.
-/
import Derived.Test.YtbjheaiiajpifaaB1
import Derived.Laws.OwnMore
namespace Go.Proofs.Ytbjheaiiajpifaa
open Go.RowKit Go.Shelf

theorem Mine.stored' {w : World} {base : Nat} {e : TypeId} {size g n cap : Nat} {xs : List Value} (h : Mine w base e size (.slice (some ⟨g, 0, none⟩) n cap) n xs) (hn : 0 < n) (j : Nat) (u : Value) :
    Mine (w.setCell ⟨g, j, none⟩ u) base e size (.slice (some ⟨g, 0, none⟩) n cap) n (xs.set j u) := .inl ((h.own hn).stored j u).1

section
variable {α : Type} (R : Rec α)
/-- The cell at j of a record is its slice. -/
def Rec.SliceAt (j : Nat) : Prop := j < R.k ∧ (∀ x l, (R.cells x l)[j]? = some l) ∧ ∀ x l l', R.cells x l' = (R.cells x l).set j l'
theorem Rec.all_set {j : Nat} (hj : R.SliceAt j) : ∀ (xs : List α) (ls : List Value) (k : Nat) (l' : Value), ls.length = xs.length → k < xs.length → R.all xs (ls.set k l') = (R.all xs ls).set (k * R.k + j) l' := by
  intro xs
  induction xs with
  | nil => intro ls k l' _ h; simp at h
  | cons x xs ih =>
    intro ls k l' hl hk
    match ls, hl with
    | l :: ls, hl =>
      cases k with
      | zero =>
        rw [List.set_cons_zero]
        unfold Rec.all
        rw [List.zip_cons_cons, List.zip_cons_cons, List.flatMap_cons, List.flatMap_cons, Nat.zero_mul, Nat.zero_add, List.set_append, if_pos (by rw [R.len]; exact hj.1), hj.2.2 x l l']
      | succ k =>
        have := ih ls k l' (by simpa using hl) (by simpa using hk)
        rw [List.set_cons_succ]
        unfold Rec.all at this ⊢
        rw [List.zip_cons_cons, List.zip_cons_cons, List.flatMap_cons, List.flatMap_cons, List.set_append, if_neg (by rw [R.len, Nat.add_mul]; omega), R.len, this, Nat.add_mul]
        congr 2
        omega

/-- v reads as the records xs: a row of the call's own; each slice within lies apart from it, and from the blocks of X. -/
def RecsM (e : TypeId) (X : Nat → Prop) (w : World) (base : Nat) (v : Value) (xs : List α) : Prop :=
  ∃ ls : List Value, ls.length = xs.length ∧ Mine w base e R.k v xs.length (R.all xs ls) ∧ (∀ g, v.ownBlock = some g → ¬ X g ∧ g < w.heap.size) ∧
    ∀ (i : Nat) (x : α) (l : Value), xs[i]? = some x → ls[i]? = some l → Rd w (fun b => b < w.heap.size ∧ v.ownBlock ≠ some b ∧ ¬ X b) R.kin l (R.m x) (R.inner x)
end
section
variable {α : Type} {R : Rec α} {e : TypeId} {X : Nat → Prop} {w w' : World} {base : Nat} {v : Value} {xs : List α}
theorem RecsM.below (h : RecsM R e X w base v xs) (hb : Below w.heap.size w w') : RecsM R e X w' base v xs := by
  obtain ⟨ls, h1, h2, h3, h4⟩ := h
  have hz := hb.size
  exact ⟨ls, h1, h2.below hb, fun g hg => ⟨(h3 g hg).1, by have := (h3 g hg).2; omega⟩, fun i x l a b => (Rd.below (h4 i x l a b) hb (fun _ h => h.1)).mono (fun k hk => ⟨by omega, hk.2⟩)⟩
theorem RecsM.start {w0 : World} {ls : List Value} (hl : ls.length = xs.length) (hM : Mine w base e R.k v xs.length (R.all xs ls)) (hq : ∀ q, v.ownBlock = some q → w0.heap.size ≤ q ∧ q < w.heap.size)
    (hp : ∀ (i : Nat) (x : α) (l : Value), xs[i]? = some x → ls[i]? = some l → Rd w0 (fun b => b < w0.heap.size ∧ ¬ X b) R.kin l (R.m x) (R.inner x)) (hb : Below w0.heap.size w0 w) (hX : ∀ k, X k → k < w0.heap.size) : RecsM R e X w base v xs :=
  ⟨ls, hl, hM, fun g hg => ⟨fun hx => by have := (hq g hg).1; have := hX g hx; omega, (hq g hg).2⟩, fun i x l a b => (Rd.below (hp i x l a b) hb (fun _ h => h.1)).mono (fun k hk => ⟨by have := hb.size; omega, fun e => by have := (hq k e).1; omega, hk.2⟩)⟩
theorem RecsM.recs (h : RecsM R e X w base v xs) : Recs R w (fun b => b < w.heap.size ∧ ¬ X b) v xs := by
  obtain ⟨ls, h1, h2, h3, h4⟩ := h
  exact ⟨ls, h1, h2.rd (fun g hg _ hlt => ⟨hlt, (h3 g hg).1⟩), fun i x l a b => (h4 i x l a b).mono (fun k hk => ⟨hk.1, hk.2.2⟩)⟩
/-- A store into a block of X. -/
theorem RecsM.setX (h : RecsM R e X w base v xs) {p : Addr} (hp : X p.block) (u : Value) : RecsM R e X (w.setCell p u) base v xs := by
  obtain ⟨ls, h1, h2, h3, h4⟩ := h
  have hz : (w.setCell p u).heap.size = w.heap.size := by simp [World.setCell]
  refine ⟨ls, h1, h2.set (fun e => (h3 _ e).1 hp) u, fun g hg => ⟨(h3 g hg).1, by rw [hz]; exact (h3 g hg).2⟩, fun i x l a b => ?_⟩
  rw [hz]
  exact (h4 i x l a b).set (fun h => h.2.2 hp) u
/-- What is read of the k-th record's slice, and what is written in its place. -/
theorem RecsM.step {j : Nat} (hj : R.SliceAt j) (h : RecsM R e X w base v xs) {k : Nat} {x : α} (hx : xs[k]? = some x) (hX : ∀ b, X b → b < w.heap.size) : ∃ g cap l, v = .slice (some ⟨g, 0, none⟩) xs.length cap ∧ xs.length ≤ cap ∧ cap ≤ maxLen ∧ base ≤ g ∧ g < w.heap.size ∧ ¬ X g ∧
    w.cell? ⟨g, k * R.k + j, none⟩ = some l ∧ w.frozen? ⟨g, k * R.k + j, none⟩ = false ∧ Rd w (fun b => b < w.heap.size ∧ ¬ X b) R.kin l (R.m x) (R.inner x) ∧
    ∀ (w1 : World) (l' : Value), Below w.heap.size w w1 → Rd w1 (fun b => w.heap.size ≤ b ∧ b < w1.heap.size) R.kin l' (R.m x) (R.inner x) → RecsM R e X (w1.setCell ⟨g, k * R.k + j, none⟩ l') base v xs := by
  obtain ⟨ls, h1, h2, h3, h4⟩ := h
  have hk := (List.getElem?_eq_some_iff.1 hx).1
  have h0 : 0 < xs.length := by omega
  obtain ⟨g, cap, cur, rfl, hb, hg, c1, c2, c3, c4⟩ : ∃ g cap cur, v = .slice (some ⟨g, 0, none⟩) xs.length cap ∧ base ≤ g ∧ w.heap[g]? = some (.cells cur e (0, 0)) ∧ xs.length ≤ cap ∧ cap ≤ maxLen ∧ _ ∧ _ := by
    rcases (h2.own h0).2 with ⟨_, e⟩ | ⟨g, cap, cur, hv, hb, hg, c1, c2, c3, c4⟩
    · omega
    · exact ⟨g, cap, cur, hv, hb, hg, c1, c2, c3, c4⟩
  have hgs := h3 g rfl
  have hl : ls[k]? = some (ls[k]'(by omega)) := List.getElem?_eq_getElem _
  have hz : (xs.zip ls)[k]? = some (x, ls[k]'(by omega)) := by rw [List.getElem?_zip_eq_some]; exact ⟨hx, hl⟩
  have hcell : (R.all xs ls)[k * R.k + j]? = some (ls[k]'(by omega)) := by
    unfold Rec.all
    rw [flat_at (fun p : α × Value => R.cells p.1 p.2) R.k (fun p => R.len p.1 p.2) (xs.zip ls) k j _ hz hj.1]
    exact hj.2.1 _ _
  have hc5 := (h2.own h0).cells (g := g) rfl (k * R.k + j) _ hcell
  rw [addr_add, Nat.zero_add] at hc5
  refine ⟨g, cap, _, rfl, c1, c2, hb, hgs.2, hgs.1, hc5, Holds.frozen hg _, (h4 k _ _ hx hl).mono (fun b hb => ⟨hb.1, hb.2.2⟩), fun w1 l' hb1 hm => ?_⟩
  have hz1 := hb1.size
  refine ⟨ls.set k l', by simp [h1], ?_, fun q hq => ⟨(h3 q hq).1, by have := (h3 q hq).2; simp [World.setCell]; omega⟩, fun i y l a b => ?_⟩
  · rw [Rec.all_set R hj xs ls k l' h1 hk]
    exact (h2.below hb1).stored' h0 _ _
  · by_cases e : i = k
    · subst e
      rw [hx] at a; cases a
      rw [List.getElem?_set_self (by omega)] at b; cases b
      refine (Rd.set (p := ⟨g, i * R.k + j, none⟩) hm (fun h => by have := h.1; dsimp only at this; omega) l').mono (fun q hq => ⟨by simp [World.setCell]; omega, fun e => ?_, fun hx => by have := hX q hx; omega⟩)
      simp [Value.ownBlock] at e
      omega
    · rw [List.getElem?_set_ne (fun h => e h.symm)] at b
      refine (Rd.set (p := ⟨g, k * R.k + j, none⟩) (Rd.below (h4 i y l a b) hb1 (fun _ h => h.1)) (fun h => h.2.1 rfl) l').mono (fun q hq => ⟨by simp [World.setCell]; omega, hq.2⟩)
end
end Go.Proofs.Ytbjheaiiajpifaa
