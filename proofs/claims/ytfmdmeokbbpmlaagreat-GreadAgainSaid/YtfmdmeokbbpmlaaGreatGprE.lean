/-
  gprint: a token as a line.
-/
import Derived.Test.YtfmdmeokbbpmlaaGreatGprD
namespace Go.Proofs.YtfmdmeokbbpmlaaGreat
open Go.RowKit Go.Shelf

theorem three {w : World} {p : Nat} {t : TypeId} {a b c : Value} (H : Holds w p t #[a, b, c]) : w.cell? ⟨p, 0, none⟩ = some a ∧ w.cell? ⟨p, 1, none⟩ = some b ∧ w.cell? ⟨p, 2, none⟩ = some c := ⟨H.cell 0, H.cell 1, H.cell 2⟩
theorem clsW_size (c : Int) : (clsW c).size ≤ 5 := by unfold clsW; split <;> (try split) <;> (try split) <;> decide
theorem nameB_size {s : ByteArray} (h : nameB s = true) : s.size ≤ 32 := by
  by_cases hn : IsName s
  · exact hn.2.1
  · unfold nameB at h; rw [holdsB_false hn] at h; cases h
theorem tokT_yes {t : Token} (h1 : nameB t.name = true) (h2 : rxErr t.rex = 0) (h3 : 0 ≤ t.cls) (h4 : t.cls ≤ 3) : tokT t = clsW t.cls ++ spB ++ t.name ++ spB ++ showR t.rex := by
  unfold tokT tokOk
  rw [h1, decide_eq_true h2, decide_eq_true h3, decide_eq_true h4]
  rfl
theorem tokT_no {t : Token} (h : ¬ (nameB t.name = true ∧ rxErr t.rex = 0 ∧ 0 ≤ t.cls ∧ t.cls ≤ 3)) : tokT t = ByteArray.empty := by
  unfold tokT tokOk
  rw [if_neg]
  intro k
  simp only [Bool.and_eq_true, decide_eq_true_eq] at k
  exact h k
end Go.Proofs.YtfmdmeokbbpmlaaGreat
