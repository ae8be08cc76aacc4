/-
  A style with an item more (lay.style.plus).
-/
import Derived.Test.YtbjheaiiajpifaaSameL
namespace Go.Proofs.Ytbjheaiiajpifaa.T
open Go.RowKit Go.Shelf

def zeroIt : Item := ⟨false, 0, 0, 0⟩
/-- A style (the gap and how deep) with an item more. -/
noncomputable def plusS (gp inn : Int) (x : Item) : Int × Int := if eqB x zeroIt = true then (gp, inn) else (if gp < x.gap then x.gap else gp, inn + x.in_)

set_option maxRecDepth 20000 in
set_option maxHeartbeats 4000000 in
theorem style_plus (gp inn : Int) (x : Item) (w : World) (hw : IntKind.i64.wrap (inn + x.in_) = inn + x.in_) :
    Calls Try.prog 61 #[.agg #[.int .i64 gp, .int .i64 inn], .agg #[.bool x.rule, .int .i64 x.n, .int .i64 x.gap, .int .i64 x.in_]] w fun r w' => r = .returned (.agg #[.int .i64 (plusS gp inn x).1, .int .i64 (plusS gp inn x).2]) ∧ Below w.heap.size w w' := by
  have hq : ∀ w : World, (Op.equalIn 10000 80 (.agg #[.bool x.rule, .int .i64 x.n, .int .i64 x.gap, .int .i64 x.in_]) (.agg #[.bool false, .int .i64 0, .int .i64 0, .int .i64 0])).run Try.prog w = .ok (eqB x zeroIt) w := fun w => it_eq_run w x zeroIt
  unfold plusS
  cases hz : eqB x zeroIt with
  | true =>
    rw [hz] at hq
    rw [if_pos rfl]
    go_enter Try.func61, Try.ntmps61
    go_wp2
    refine bodyPost_ret (v := .agg #[.int .i64 gp, .int .i64 inn]) (by simp [results, Try.results61, go_sem]) rfl ⟨rfl, (by repeat (first | (with_reducible exact Below.refl _ _) | (with_reducible assumption) | (with_reducible refine Below.drew ?_) | (with_reducible refine below_drewN ?_ _) | ((with_reducible refine below_alloc ?_ ?_); (focus (first | omega | (simp; done) | (simp; omega)))) | ((with_reducible refine below_set ?_ ?_); (focus (first | omega | (simp; done) | (simp; omega))))))⟩
  | false =>
    rw [hz] at hq
    rw [if_neg (by decide)]
    by_cases hg : gp < x.gap
    · rw [if_pos hg]
      go_enter Try.func61, Try.ntmps61
      go_wp2
      refine bodyPost_ret (v := .agg #[.int .i64 x.gap, .int .i64 (inn + x.in_)]) (by simp [results, Try.results61, go_sem]) rfl ⟨rfl, (by repeat (first | (with_reducible exact Below.refl _ _) | (with_reducible assumption) | (with_reducible refine Below.drew ?_) | (with_reducible refine below_drewN ?_ _) | ((with_reducible refine below_alloc ?_ ?_); (focus (first | omega | (simp; done) | (simp; omega)))) | ((with_reducible refine below_set ?_ ?_); (focus (first | omega | (simp; done) | (simp; omega))))))⟩
    · rw [if_neg hg]
      go_enter Try.func61, Try.ntmps61
      go_wp2
      refine bodyPost_ret (v := .agg #[.int .i64 gp, .int .i64 (inn + x.in_)]) (by simp [results, Try.results61, go_sem]) rfl ⟨rfl, (by repeat (first | (with_reducible exact Below.refl _ _) | (with_reducible assumption) | (with_reducible refine Below.drew ?_) | (with_reducible refine below_drewN ?_ _) | ((with_reducible refine below_alloc ?_ ?_); (focus (first | omega | (simp; done) | (simp; omega)))) | ((with_reducible refine below_set ?_ ?_); (focus (first | omega | (simp; done) | (simp; omega))))))⟩
end Go.Proofs.Ytbjheaiiajpifaa.T
