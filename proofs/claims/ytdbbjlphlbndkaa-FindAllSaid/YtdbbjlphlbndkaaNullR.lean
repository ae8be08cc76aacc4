/-
  Rows of bools; facsimileref15.SameBools; facsimileref21: Right, all.
-/
import Derived.Test.YtdbbjlphlbndkaaNullP
import Derived.Deep.OwnRows
namespace Go.Proofs.Ytdbbjlphlbndkaa
open Go.RowKit Go.Shelf

def bcells (s : List Bool) : Array Value := (s.map Value.bool).toArray
/-- Block q holds the bools s. -/
abbrev BoolsAt (w : World) (q : Nat) (s : List Bool) : Prop := Holds w q 4 (bcells s)
theorem BoolsAt.at_ {w : World} {q : Nat} {s : List Bool} (h : BoolsAt w q s) {i : Nat} {b : Bool} (hi : s[i]? = some b) : w.cell? ⟨q, i, none⟩ = some (.bool b) := by
  rw [h.cell i]
  simp [bcells, hi]
theorem BoolsAt.set {w : World} {q : Nat} {s : List Bool} (h : BoolsAt w q s) (i : Nat) (b : Bool) : BoolsAt (w.setCell ⟨q, i, none⟩ (.bool b)) q (s.set i b) := by
  refine Holds.of_eq (holds_set h) ?_
  unfold bcells
  rw [List.map_set, List.setIfInBounds_toArray]
theorem made_bools (n : Nat) : madeCells #[.bool false] n = bcells (List.replicate n false) := by
  unfold bcells
  rw [List.map_replicate]
  apply Array.ext'
  simp only [madeCells]
  apply List.ext_getElem
  · simp
  · intro i h1 h2; simp [Nat.mod_one]
abbrev Bools (w : World) (T : Nat → Prop) (v : Value) (s : List Bool) : Prop := Row Value.bool w T v s
theorem bools_flat (s : List Bool) : s.flatMap (one1 Value.bool) = s.map Value.bool := by
  induction s with
  | nil => rfl
  | cons b s ih => rw [List.flatMap_cons, ih]; rfl
theorem BoolsAt.row {w : World} {q n : Nat} {s : List Bool} {T : Nat → Prop} (h : BoolsAt w q s) (hn : n = s.length) (hq : T q) (hm : n ≤ maxLen) : Bools w T (.slice (some ⟨q, 0, none⟩) n n) s := by
  subst hn
  refine ⟨flat_len _ 1 (fun _ => rfl) s, _, _, rfl, Nat.le_refl _, hm, fun _ => ⟨q, 0, rfl, hq, fun j u hj => ?_⟩⟩
  rw [bools_flat] at hj
  rw [Nat.zero_add, h.cell j]
  simpa [bcells] using hj

end Go.Proofs.Ytdbbjlphlbndkaa
