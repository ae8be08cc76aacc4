/-
  Rows of bools; facsimileref15.SameBools; facsimileref21: Right, all.
-/
import Derived.Test.YtmmhkjdnejeooaaNullP
import Derived.Deep.OwnRows
namespace Go.Proofs.Ytmmhkjdnejeooaa
open Go.RowKit Go.Shelf

def bcells (s : List Bool) : Array Value := (s.map Value.bool).toArray
/-- Block q holds the bools s. -/
abbrev BoolsAt (w : World) (q : Nat) (s : List Bool) : Prop := Holds w q 4 (bcells s)
theorem BoolsAt.at_ {w : World} {q : Nat} {s : List Bool} (h : BoolsAt w q s) {i : Nat} {b : Bool} (hi : s[i]? = some b) : w.cell? ⟨q, i, none⟩ = some (.bool b) := by
  rw [h.cell i]
  simp [bcells, hi]
theorem BoolsAt.set {w : World} {q : Nat} {s : List Bool} (h : BoolsAt w q s) (i : Nat) (b : Bool) : BoolsAt (w.setCell ⟨q, i, none⟩ (.bool b)) q (s.set i b) := by
  refine Holds.of_eq (holds_set h) ?_
  unfold bcells
  rw [List.map_set, List.setIfInBounds_toArray]
theorem made_bools (n : Nat) : madeCells #[.bool false] n = bcells (List.replicate n false) := by
  unfold bcells
  rw [List.map_replicate]
  apply Array.ext'
  simp only [madeCells]
  apply List.ext_getElem
  · simp
  · intro i h1 h2; simp [Nat.mod_one]
abbrev Bools (w : World) (T : Nat → Prop) (v : Value) (s : List Bool) : Prop := Row Value.bool w T v s
theorem bools_flat (s : List Bool) : s.flatMap (one1 Value.bool) = s.map Value.bool := by
  induction s with
  | nil => rfl
  | cons b s ih => rw [List.flatMap_cons, ih]; rfl
theorem BoolsAt.row {w : World} {q n : Nat} {s : List Bool} {T : Nat → Prop} (h : BoolsAt w q s) (hn : n = s.length) (hq : T q) (hm : n ≤ maxLen) : Bools w T (.slice (some ⟨q, 0, none⟩) n n) s := by
  subst hn
  refine ⟨flat_len _ 1 (fun _ => rfl) s, _, _, rfl, Nat.le_refl _, hm, fun _ => ⟨q, 0, rfl, hq, fun j u hj => ?_⟩⟩
  rw [bools_flat] at hj
  rw [Nat.zero_add, h.cell j]
  simpa [bcells] using hj

theorem ref_Right21 (a b c : Value) (g : Gram) (w : World) (HG : GramIs w (Old w) a b c g) (s1 : g.toks.length ≤ 100000) (s2 : g.rules.length ≤ 100000) (s3 : g.prods.length ≤ 100000) (hz : Named g) :
    Calls Try.prog 24 #[.agg (gramCells a b c g)] w fun r w' => r = .returned (.bool (rightB g)) ∧ Below w.heap.size w w' := by
  have H := hidden (fun (w' : World) (hb : Below w.heap.size w w') => ref_Check a b c g w' (HG.old hb) s1 s2 s3 hz)
  obtain ⟨⟨A1, k1, rfl, v1, m1⟩, ⟨A2, k2, rfl, v2, m2⟩, ⟨A3, k3, rfl, v3, m3⟩⟩ := HG.vals
  have hb := Below.refl w.heap.size w
  have hq1 : ∀ w, (Op.equalIn 10000 73 (.agg #[.int .i64 (checkOf g).kind, .int .i64 (checkOf g).at_, .int .i64 (checkOf g).more]) (.agg #[.int .i64 0, .int .i64 0, .int .i64 0])).run Try.prog w = .ok (rightB g) w := fun w => by
    have := def_eq_run w (checkOf g) D0
    rw [right_eq] at this
    exact this
  generalize rightB g = rb at *
  generalize checkOf g = d at *
  unfold gramCells defC at *
  clear HG
  go_enter Try.func24, Try.ntmps24
  go_wp2_with fail
  refine (H.out _ ?_).mono ?_
  · exact (by repeat (first | (with_reducible exact Below.refl _ _) | (with_reducible assumption) | (with_reducible refine Below.drew ?_) | (with_reducible refine below_drewN ?_ _) | ((with_reducible refine below_alloc ?_ ?_); (focus (first | omega | (simp; done) | (simp; omega)))) | ((with_reducible refine below_set ?_ ?_); (focus (first | omega | (simp; done) | (simp; omega))))))
  rintro r w2 ⟨rfl, hb2⟩
  have hbw : Below w.heap.size w w2 := Below.trans (by repeat (first | (with_reducible exact Below.refl _ _) | (with_reducible assumption) | (with_reducible refine Below.drew ?_) | (with_reducible refine below_drewN ?_ _) | ((with_reducible refine below_alloc ?_ ?_); (focus (first | omega | (simp; done) | (simp; omega)))) | ((with_reducible refine below_set ?_ ?_); (focus (first | omega | (simp; done) | (simp; omega)))))) (hb2.mono (by simp))
  clear hb2 hb
  go_wp2
  go_ret
  exact ⟨rfl, hbw⟩

end Go.Proofs.Ytmmhkjdnejeooaa
