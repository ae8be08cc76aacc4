/-
  facsimileref21: grown, Empty, Makes.
-/
import Derived.Test.YtmmhkjdnejeooaaNullR
namespace Go.Proofs.Ytmmhkjdnejeooaa
open Go.RowKit Go.Shelf

theorem passes_succ {α : Type} (f : List Bool → α → List Bool) (ps : List α) : ∀ (k : Nat) (s : List Bool), passes f ps (k + 1) s = passB f ps (passes f ps k s) := by
  intro k
  induction k with
  | zero => intro s; rfl
  | succ k ih => intro s; show passes f ps (k + 1) (passB f ps s) = _; rw [ih]; rfl
theorem pass_take {α : Type} (f : List Bool → α → List Bool) {ps : List α} {k : Nat} {p : α} (h : ps[k]? = some p) (s : List Bool) : passB f (ps.take (k + 1)) s = f (passB f (ps.take k) s) p := by
  unfold passB
  rw [← take_snoc_at' h, List.foldl_append]; rfl
theorem pass_all {α : Type} (f : List Bool → α → List Bool) (ps : List α) (s : List Bool) : passB f (ps.take ps.length) s = passB f ps s := by
  rw [List.take_of_length_le (Nat.le_refl _)]
/-- The small grammars. -/
structure Small (g : Gram) : Prop where
  toks : g.toks.length ≤ 100000
  rules : g.rules.length ≤ 100000
  prods : g.prods.length ≤ 100000
  names : Named g
theorem rightB_sound {g : Gram} (h : rightB g = true) : Sound g := ((right_iff g).1 (by unfold rightB at h; simpa using h)).sound
theorem set_bool {w : World} {q : Nat} {s : List Bool} (h : BoolsAt w q s) {z : Int} (hz : 0 ≤ z) (hl : z < s.length) : ∃ (m : Nat) (b : Bool), z = (m : Int) ∧ m < s.length ∧ s[m]? = some b ∧ w.cell? ⟨q, m, none⟩ = some (.bool b) ∧ w.frozen? ⟨q, m, none⟩ = false := by
  obtain ⟨m, rfl⟩ : ∃ m : Nat, z = (m : Int) := ⟨z.toNat, by omega⟩
  have hm : m < s.length := by omega
  exact ⟨m, s[m], rfl, hm, List.getElem?_eq_getElem hm, h.at_ (List.getElem?_eq_getElem hm), h.frozen m⟩

end Go.Proofs.Ytmmhkjdnejeooaa
