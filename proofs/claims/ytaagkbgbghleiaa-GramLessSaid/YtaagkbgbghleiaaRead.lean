/-
  Slices that read as lists: of flat elements, and of records of which one cell is a slice of flat elements. Over any program.
-/
import Derived.Test.YtaagkbgbghleiaaMem
namespace Go.Proofs.Ytaagkbgbghleiaa
open Go.RowKit Go.Shelf

/-- All that lies in w. -/
def Old (w : World) : Nat → Prop := fun k => k < w.heap.size
theorem old_lt {w : World} : ∀ k, Old w k → k < w.heap.size := fun _ h => h

theorem flat_at {α : Type} (f : α → List Value) (k : Nat) (hf : ∀ x, (f x).length = k) : ∀ (l : List α) (i j : Nat) (x : α), l[i]? = some x → j < k → (l.flatMap f)[i * k + j]? = (f x)[j]? := by
  intro l
  induction l with
  | nil => intro i j x h; simp at h
  | cons y l ih =>
    intro i j x h hj
    cases i with
    | zero =>
      simp at h; subst h
      rw [List.flatMap_cons, Nat.zero_mul, Nat.zero_add, List.getElem?_append_left (by rw [hf]; exact hj)]
    | succ i =>
      simp at h
      rw [List.flatMap_cons, List.getElem?_append_right (by rw [hf, Nat.add_mul]; omega), hf, show (i + 1) * k + j - k = i * k + j by rw [Nat.add_mul]; omega]
      exact ih i j x h hj
theorem flat_len {α : Type} (f : α → List Value) (k : Nat) (hf : ∀ x, (f x).length = k) (l : List α) : (l.flatMap f).length = l.length * k := by
  induction l with
  | nil => simp
  | cons y l ih => rw [List.flatMap_cons, List.length_append, hf, ih, List.length_cons, Nat.add_mul]; omega

theorem Rd.old {w w' : World} {size n : Nat} {v : Value} {cs : List Value} (h : Rd w (Old w) size v n cs) (hb : Below w.heap.size w w') : Rd w' (Old w') size v n cs :=
  (h.below hb (fun _ h => h)).mono (fun _ hk => Nat.lt_of_lt_of_le hk hb.size)
theorem Rd.val {w : World} {T : Nat → Prop} {size n : Nat} {v : Value} {cs : List Value} (h : Rd w T size v n cs) : ∃ A c, v = .slice A n c ∧ n ≤ c ∧ c ≤ maxLen := by
  obtain ⟨_, A, c, hv, h1, h2, _⟩ := h
  exact ⟨A, c, hv, h1, h2⟩
/-- The cells of an element. -/
theorem Rd.flat_at {α : Type} {w : World} {T : Nat → Prop} {k : Nat} {A : Option Addr} {n c : Nat} {f : α → List Value} {l : List α} (h : Rd w T k (.slice A n c) n (l.flatMap f)) (hf : ∀ x, (f x).length = k) (hk : 0 < k) {i : Nat} {x : α} (hx : l[i]? = some x) :
    ∃ b off, A = some ⟨b, off, none⟩ ∧ T b ∧ ∀ j u, (f x)[j]? = some u → w.cell? ⟨b, off + i * k + j, none⟩ = some u := by
  obtain ⟨hl, A', c', hv, _, _, h4⟩ := h
  simp only [Value.slice.injEq] at hv
  obtain ⟨rfl, _, _⟩ := hv
  have hi := (List.getElem?_eq_some_iff.1 hx).1
  have h0 : 0 < (l.flatMap f).length := by
    rw [flat_len f k hf]; exact Nat.mul_pos (by omega) hk
  obtain ⟨b, off, rfl, hT, hc⟩ := h4 h0
  refine ⟨b, off, rfl, hT, fun j u hu => ?_⟩
  have hj : j < k := by rw [← hf x]; exact (List.getElem?_eq_some_iff.1 hu).1
  have := Go.Proofs.Ytaagkbgbghleiaa.flat_at f k hf l i j x hx hj
  rw [Nat.add_assoc]
  exact hc _ u (by rw [this]; exact hu)

/-- Records of which one cell is a slice: their cells, and what lies in that slice. -/
structure Rec (α : Type) where
  k : Nat
  cells : α → Value → List Value
  len : ∀ x l, (cells x l).length = k
  pos : 0 < k
  kin : Nat
  m : α → Nat
  inner : α → List Value
  one : ∀ x l, l.oneCell' = true → ∀ u ∈ cells x l, u.oneCell' = true

section
variable {α : Type} (R : Rec α)
def Rec.all (xs : List α) (ls : List Value) : List Value := (xs.zip ls).flatMap fun p => R.cells p.1 p.2
/-- v reads as the records xs. -/
def Recs (w : World) (T : Nat → Prop) (v : Value) (xs : List α) : Prop :=
  ∃ ls : List Value, ls.length = xs.length ∧ Rd w T R.k v xs.length (R.all xs ls) ∧ ∀ (i : Nat) (x : α) (l : Value), xs[i]? = some x → ls[i]? = some l → Rd w T R.kin l (R.m x) (R.inner x)
end

section
variable {α : Type} {R : Rec α} {w w' : World} {T T' : Nat → Prop} {v : Value} {xs : List α}
theorem Recs.mono (h : Recs R w T v xs) (hT : ∀ k, T k → T' k) : Recs R w T' v xs := by
  obtain ⟨ls, h1, h2, h3⟩ := h
  exact ⟨ls, h1, h2.mono hT, fun i x l a b => (h3 i x l a b).mono hT⟩
theorem Recs.keeps (h : Recs R w T v xs) (hk : Keeps T w w') : Recs R w' T v xs := by
  obtain ⟨ls, h1, h2, h3⟩ := h
  exact ⟨ls, h1, h2.keeps hk, fun i x l a b => (h3 i x l a b).keeps hk⟩
theorem Recs.below {B : Nat} (h : Recs R w T v xs) (hb : Below B w w') (hT : ∀ k, T k → k < B) : Recs R w' T v xs := h.keeps ⟨hb.size, fun k hk _ => hb.block k (hT k hk)⟩
theorem Recs.alloc (h : Recs R w T v xs) (o : Obj) : Recs R (w.alloc o) T v xs := h.keeps ((Keeps.refl _ _).alloc o)
theorem Recs.calm {B : Nat} (h : Recs R w T v xs) (hc : Calm B w w') : Recs R w' T v xs := by
  obtain ⟨ls, h1, h2, h3⟩ := h
  exact ⟨ls, h1, h2.calm hc, fun i x l a b => (h3 i x l a b).calm hc⟩
theorem Recs.old (h : Recs R w (Old w) v xs) (hb : Below w.heap.size w w') : Recs R w' (Old w') v xs :=
  (h.below hb (fun _ h => h)).mono (fun _ hk => Nat.lt_of_lt_of_le hk hb.size)
theorem Recs.value (h : Recs R w T v xs) : ∃ A c, v = .slice A xs.length c ∧ xs.length ≤ c ∧ c ≤ maxLen := by
  obtain ⟨ls, _, h2, _⟩ := h
  exact h2.val
/-- An element: its cells, and its slice. -/
theorem Recs.at_ {A : Option Addr} {n c : Nat} (h : Recs R w T (.slice A n c) xs) {i : Nat} {x : α} (hx : xs[i]? = some x) :
    ∃ b off l, A = some ⟨b, off, none⟩ ∧ T b ∧ (∀ j u, (R.cells x l)[j]? = some u → w.cell? ⟨b, off + i * R.k + j, none⟩ = some u) ∧ Rd w T R.kin l (R.m x) (R.inner x) := by
  obtain ⟨ls, h1, h2, h3⟩ := h
  have hi := (List.getElem?_eq_some_iff.1 hx).1
  have hl : ls[i]? = some (ls[i]'(by omega)) := List.getElem?_eq_getElem _
  have hz : (xs.zip ls)[i]? = some (x, ls[i]'(by omega)) := by rw [List.getElem?_zip_eq_some]; exact ⟨hx, hl⟩
  obtain ⟨A', c', hv, _, _⟩ := h2.val
  simp only [Value.slice.injEq] at hv
  obtain ⟨rfl, rfl, rfl⟩ := hv
  obtain ⟨b, off, rfl, hT, hc⟩ := Rd.flat_at (f := fun p : α × Value => R.cells p.1 p.2) h2 (fun p => R.len p.1 p.2) R.pos hz
  exact ⟨b, off, _, rfl, hT, hc, h3 i x _ hx hl⟩
end
end Go.Proofs.Ytaagkbgbghleiaa
