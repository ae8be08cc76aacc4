/-
  Rising lists put together (many.Union), plainly.
-/
import Derived.Test.YtdbbjlphlbndkaaGreatB1
namespace Go.Proofs.YtdbbjlphlbndkaaGreat
open Go.RowKit Go.Shelf

/-- Rising. -/
abbrev Asc (l : List Int) : Prop := l.Pairwise (· < ·)
/-- Two rising lists, gone over together. -/
def mergeU : List Int → List Int → List Int
  | [], b => b
  | a, [] => a
  | x :: a, y :: b => if x < y then x :: mergeU a (y :: b) else if y < x then y :: mergeU (x :: a) b else x :: mergeU a b
termination_by a b => a.length + b.length
theorem mergeU_nil (a : List Int) : mergeU a [] = a := by cases a <;> simp [mergeU]
theorem nil_mergeU (b : List Int) : mergeU [] b = b := by simp [mergeU]
theorem mem_mergeU {z : Int} : ∀ (n : Nat) (a b : List Int), a.length + b.length ≤ n → (z ∈ mergeU a b ↔ z ∈ a ∨ z ∈ b) := by
  intro n
  induction n with
  | zero =>
    intro a b h
    have ha : a = [] := List.eq_nil_of_length_eq_zero (by omega)
    subst ha
    rw [nil_mergeU]; simp
  | succ n ih =>
    intro a b h
    cases a with
    | nil => rw [nil_mergeU]; simp
    | cons x a =>
      cases b with
      | nil => rw [mergeU_nil]; simp
      | cons y b =>
        simp only [List.length_cons] at h
        rw [mergeU]
        split
        · rw [List.mem_cons, ih a (y :: b) (by simp only [List.length_cons]; omega)]
          simp only [List.mem_cons]
          constructor
          · rintro (h | h | h | h) <;> simp [h]
          · rintro ((h | h) | h | h) <;> simp [h]
        · split
          · rw [List.mem_cons, ih (x :: a) b (by simp only [List.length_cons]; omega)]
            simp only [List.mem_cons]
            constructor
            · rintro (h | (h | h) | h) <;> simp [h]
            · rintro ((h | h) | h | h) <;> simp [h]
          · have e : x = y := by omega
            subst e
            rw [List.mem_cons, ih a b (by omega)]
            simp only [List.mem_cons]
            constructor
            · rintro (h | h | h) <;> simp [h]
            · rintro ((h | h) | h | h) <;> simp [h]
theorem asc_mergeU : ∀ (n : Nat) (a b : List Int), a.length + b.length ≤ n → Asc a → Asc b → Asc (mergeU a b) := by
  intro n
  induction n with
  | zero =>
    intro a b h _ hb
    have ha : a = [] := List.eq_nil_of_length_eq_zero (by omega)
    subst ha
    rw [nil_mergeU]; exact hb
  | succ n ih =>
    intro a b h ha hb
    cases a with
    | nil => rw [nil_mergeU]; exact hb
    | cons x a =>
      cases b with
      | nil => rw [mergeU_nil]; exact ha
      | cons y b =>
        simp only [List.length_cons] at h
        have ha' := List.pairwise_cons.1 ha
        have hb' := List.pairwise_cons.1 hb
        rw [mergeU]
        split
        · rename_i hlt
          refine List.pairwise_cons.2 ⟨fun z hz => ?_, ih a (y :: b) (by simp only [List.length_cons]; omega) ha'.2 hb⟩
          rcases (mem_mergeU _ _ _ (Nat.le_refl _)).1 hz with hz | hz
          · exact ha'.1 z hz
          · rcases List.mem_cons.1 hz with rfl | hz
            · exact hlt
            · have := hb'.1 z hz; omega
        · split
          · rename_i hlt
            refine List.pairwise_cons.2 ⟨fun z hz => ?_, ih (x :: a) b (by simp only [List.length_cons]; omega) ha hb'.2⟩
            rcases (mem_mergeU _ _ _ (Nat.le_refl _)).1 hz with hz | hz
            · rcases List.mem_cons.1 hz with rfl | hz
              · exact hlt
              · have := ha'.1 z hz; omega
            · exact hb'.1 z hz
          · have e : x = y := by omega
            subst e
            refine List.pairwise_cons.2 ⟨fun z hz => ?_, ih a b (by omega) ha'.2 hb'.2⟩
            rcases (mem_mergeU _ _ _ (Nat.le_refl _)).1 hz with hz | hz
            · exact ha'.1 z hz
            · exact hb'.1 z hz
theorem mem_union {z : Int} {a b : List Int} : z ∈ mergeU a b ↔ z ∈ a ∨ z ∈ b := mem_mergeU _ a b (Nat.le_refl _)
theorem asc_union {a b : List Int} (ha : Asc a) (hb : Asc b) : Asc (mergeU a b) := asc_mergeU _ a b (Nat.le_refl _) ha hb
/-- Rising lists of the same numbers are the same. -/
theorem asc_ext : ∀ {a b : List Int}, Asc a → Asc b → (∀ z, z ∈ a ↔ z ∈ b) → a = b := by
  intro a
  induction a with
  | nil =>
    intro b _ _ h
    cases b with
    | nil => rfl
    | cons y b => have := (h y).2 (by simp); cases this
  | cons x a ih =>
    intro b ha hb h
    have ha' := List.pairwise_cons.1 ha
    cases b with
    | nil => have := (h x).1 (by simp); cases this
    | cons y b =>
      have hb' := List.pairwise_cons.1 hb
      have e : x = y := by
        have h1 := (h x).1 (by simp)
        have h2 := (h y).2 (by simp)
        rcases List.mem_cons.1 h1 with e | h1
        · exact e
        · rcases List.mem_cons.1 h2 with e | h2
          · exact e.symm
          · have := hb'.1 x h1; have := ha'.1 y h2; omega
      subst e
      congr 1
      refine ih ha'.2 hb'.2 fun z => ?_
      constructor
      · intro hz
        rcases List.mem_cons.1 ((h z).1 (List.mem_cons_of_mem _ hz)) with rfl | hz'
        · have := ha'.1 z hz; omega
        · exact hz'
      · intro hz
        rcases List.mem_cons.1 ((h z).2 (List.mem_cons_of_mem _ hz)) with rfl | hz'
        · have := hb'.1 z hz; omega
        · exact hz'
theorem asc_len : ∀ {b a : List Int}, Asc a → Asc b → (∀ z ∈ a, z ∈ b) → a.length ≤ b.length ∧ (a.length = b.length → a = b) := by
  intro b
  induction b with
  | nil =>
    intro a _ _ h
    cases a with
    | nil => exact ⟨Nat.le_refl _, fun _ => rfl⟩
    | cons x a => have := h x (by simp); cases this
  | cons y b ih =>
    intro a ha hb h
    have hb' := List.pairwise_cons.1 hb
    cases a with
    | nil => exact ⟨Nat.zero_le _, fun e => by simp at e⟩
    | cons x a =>
      have ha' := List.pairwise_cons.1 ha
      rcases List.mem_cons.1 (h x (by simp)) with e | hxb
      · subst e
        have hs : ∀ z ∈ a, z ∈ b := fun z hz => by
          rcases List.mem_cons.1 (h z (List.mem_cons_of_mem _ hz)) with e | hz'
          · have := ha'.1 z hz; omega
          · exact hz'
        obtain ⟨h1, h2⟩ := ih ha'.2 hb'.2 hs
        simp only [List.length_cons]
        exact ⟨by omega, fun e => by rw [h2 (by omega)]⟩
      · have hs : ∀ z ∈ x :: a, z ∈ b := fun z hz => by
          rcases List.mem_cons.1 (h z hz) with e | hz'
          · have := hb'.1 x hxb
            rcases List.mem_cons.1 hz with e' | hz
            · omega
            · have := ha'.1 z hz; omega
          · exact hz'
        obtain ⟨h1, _⟩ := ih ha hb'.2 hs
        simp only [List.length_cons] at h1 ⊢
        exact ⟨by omega, fun e => by omega⟩

end Go.Proofs.YtdbbjlphlbndkaaGreat
