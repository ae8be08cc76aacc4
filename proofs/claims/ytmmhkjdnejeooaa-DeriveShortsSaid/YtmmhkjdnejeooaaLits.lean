/-
  Rows that stand in a text: slices of what has just been laid.
-/
import Derived.Test.YtmmhkjdnejeooaaG4
namespace Go.Proofs.Ytmmhkjdnejeooaa
open Go.RowKit Go.Shelf

theorem rd_lit {w : World} {b size n : Nat} {t : TypeId} {T : Nat → Prop} {cs : Array Value} (h : Holds w b t cs) (hT : T b) (hl : cs.toList.length = n * size) (hn : n ≤ maxLen) : Rd w T size (.slice (some ⟨b, 0, none⟩) n n) n cs.toList :=
  ⟨hl, _, n, rfl, Nat.le_refl _, hn, fun _ => ⟨b, 0, rfl, hT, fun j u hu => by rw [Nat.zero_add, h.cell j]; simpa using hu⟩⟩
theorem rd_lit' {w : World} {b size n : Nat} {t : TypeId} {T : Nat → Prop} {cs : Array Value} {ds : List Value} (h : Holds w b t cs) (hT : T b) (he : cs.toList = ds) (hl : ds.length = n * size) (hn : n ≤ maxLen) : Rd w T size (.slice (some ⟨b, 0, none⟩) n n) n ds := by
  subst he
  exact rd_lit h hT hl hn
/-- The inner rows of records, one by one. -/
def Inner {α : Type} (R : Rec α) (w : World) (T : Nat → Prop) : List α → List Value → Prop
  | x :: xs, l :: ls => Rd w T R.kin l (R.m x) (R.inner x) ∧ Inner R w T xs ls
  | _, _ => True
theorem Inner.at_ {α : Type} {R : Rec α} {w : World} {T : Nat → Prop} : ∀ {xs : List α} {ls : List Value}, Inner R w T xs ls → ∀ (i : Nat) (x : α) (l : Value), xs[i]? = some x → ls[i]? = some l → Rd w T R.kin l (R.m x) (R.inner x) := by
  intro xs
  induction xs with
  | nil => intro ls _ i x l hx; simp at hx
  | cons y ys ih =>
    intro ls h i x l hx hl
    cases ls with
    | nil => simp at hl
    | cons m ms =>
      cases i with
      | zero => simp at hx hl; subst hx hl; exact h.1
      | succ i => exact ih h.2 i x l (by simpa using hx) (by simpa using hl)
theorem recs_lit {α : Type} {R : Rec α} {w : World} {b n : Nat} {t : TypeId} {T : Nat → Prop} {cs : Array Value} {xs : List α} (ls : List Value) (h : Holds w b t cs) (hT : T b) (he : cs.toList = R.all xs ls) (h1 : xs.length = n) (h2 : ls.length = n)
    (hl : cs.toList.length = n * R.k) (hn : n ≤ maxLen) (hi : Inner R w T xs ls) : Recs R w T (.slice (some ⟨b, 0, none⟩) n n) xs := by
  subst h1
  exact ⟨ls, h2, by rw [← he]; exact rd_lit h hT hl hn, hi.at_⟩
end Go.Proofs.Ytmmhkjdnejeooaa
