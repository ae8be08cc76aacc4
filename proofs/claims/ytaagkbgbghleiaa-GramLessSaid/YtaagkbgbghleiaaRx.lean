/-
  Steps of expressions, as plain data; of how many parts a step is.
-/
import Derived.Test.YtaagkbgbghleiaaRead
import Derived.Test.YtaagkbgbghleiaaRows
import Derived.WalkSmall
import Derived.OwnWalk
namespace Go.Proofs.Ytaagkbgbghleiaa
open Go.RowKit Go.Shelf

structure Rx where
  kind : Int
  s0 : Int
  s1 : Int
  s2 : Int
  s3 : Int
def rxCells (x : Rx) : List Value := [.int .i64 x.kind, .int .u64 x.s0, .int .u64 x.s1, .int .u64 x.s2, .int .u64 x.s3]
/-- Of how many parts a kind is; -1: it is none. -/
def arity (k : Int) : Int := if k = 1 ∨ k = 2 then 0 else if k = 3 ∨ k = 4 then 2 else if k = 5 ∨ k = 6 ∨ k = 7 then 1 else -1
theorem kind_cases (k : Int) : k = 1 ∨ k = 2 ∨ k = 3 ∨ k = 4 ∨ k = 5 ∨ k = 6 ∨ k = 7 ∨ ((k == 1) = false ∧ (k == 2) = false ∧ (k == 3) = false ∧ (k == 4) = false ∧ (k == 5) = false ∧ (k == 6) = false ∧ (k == 7) = false) := by
  simp only [beq_eq_false_iff_ne]; omega

set_option maxHeartbeats 2000000 in
theorem ref_of (k : Int) (w : World) : Calls Try.prog 120 #[.int .i64 k] w fun r w' => r = .returned (.int .i64 (arity k)) ∧ w = w' := by
  rcases kind_cases k with rfl | rfl | rfl | rfl | rfl | rfl | rfl | ⟨h1, h2, h3, h4, h5, h6, h7⟩
  all_goals go_enter Try.func120, Try.ntmps120
  all_goals go_wp2
  all_goals go_ret
  all_goals first | exact ⟨rfl, rfl⟩ | exact ⟨by simp only [beq_eq_false_iff_ne] at h1 h2 h3 h4 h5 h6 h7; unfold arity; simp [h1, h2, h3, h4, h5, h6, h7], rfl⟩

set_option maxHeartbeats 4000000 in
theorem rx_of (x : Rx) (w : World) : Calls Try.prog 129 #[.agg #[.int .i64 x.kind, .int .u64 x.s0, .int .u64 x.s1, .int .u64 x.s2, .int .u64 x.s3]] w fun r w' => r = .returned (.tuple #[.int .i64 (max (arity x.kind) 0), .bool (decide (0 ≤ arity x.kind))]) ∧ Below w.heap.size w w' := by
  have hb : Below w.heap.size w (w.alloc (.cells #[.int .i64 x.kind, .int .u64 x.s0, .int .u64 x.s1, .int .u64 x.s2, .int .u64 x.s3] 103)) := (Below.refl _ _).alloc (Nat.le_refl _) _
  generalize x.kind = k at *
  rcases kind_cases k with rfl | rfl | rfl | rfl | rfl | rfl | rfl | ⟨h1, h2, h3, h4, h5, h6, h7⟩
  all_goals go_enter Try.func129, Try.ntmps129
  all_goals go_wp2
  all_goals go_ret2
  all_goals first | exact ⟨rfl, hb⟩ | exact ⟨by simp only [beq_eq_false_iff_ne] at h1 h2 h3 h4 h5 h6 h7; unfold arity; simp [h1, h2, h3, h4, h5, h6, h7] <;> omega, hb⟩
end Go.Proofs.Ytaagkbgbghleiaa
