/-
  null: the questions of Empty and Makes.
-/
import Derived.Test.YtmlggfapnkhcaaaNullJ
import Derived.Test.YtmlggfapnkhcaaaG4
namespace Go.Proofs.Ytmlggfapnkhcaaa
open Go.RowKit Go.Shelf

set_option maxRecDepth 20000 in
theorem null_Empty1 (x : Item) (v : Value) (s : List Bool) (w : World) (hS : Bools w (Old w) v s) (hx : x.rule = true → 0 ≤ x.n ∧ x.n < s.length) :
    Calls Try.prog 111 #[.agg #[.bool x.rule, .int .i64 x.n, .int .i64 x.gap, .int .i64 x.in_], v] w fun r w' => r = .returned (.bool (itemSo s false x)) ∧ Below w.heap.size w w' := by
  obtain ⟨A, c, rfl, hc1, hc2⟩ := hS.val
  unfold maxLen at hc2
  obtain ⟨r, n, gp, i_⟩ := x
  dsimp only at *
  unfold itemSo
  cases r
  · rw [if_neg (show ¬ (false = true) by decide)]
    clear hS hx
    go_enter Try.func111, Try.ntmps111
    go_wp2
    go_ret
    exact ⟨rfl, (by repeat (first | (with_reducible exact Below.refl _ _) | (with_reducible assumption) | (with_reducible refine Below.drew ?_) | (with_reducible refine below_drewN ?_ _) | ((with_reducible refine below_alloc ?_ ?_); (focus (first | omega | (simp; done) | (simp; omega)))) | ((with_reducible refine below_set ?_ ?_); (focus (first | omega | (simp; done) | (simp; omega))))))⟩
  · rw [if_pos rfl]
    obtain ⟨n1, n2⟩ := hx rfl
    obtain ⟨m, rfl⟩ : ∃ m : Nat, n = (m : Int) := ⟨n.toNat, by omega⟩
    have hm : m < s.length := by omega
    have hs := List.getElem?_eq_getElem hm
    generalize s[m] = b at *
    obtain ⟨b2, o2, rfl, hT, z0⟩ := row_at hS hs
    have hT' : b2 < w.heap.size := hT
    have e : atB s (m : Int) = b := by unfold atB; rw [Int.toNat_natCast, List.getD_eq_getElem?_getD, hs]; rfl
    dsimp only
    rw [e]
    clear hS hx hs e
    go_enter Try.func111, Try.ntmps111
    go_wp2
    go_ret
    exact ⟨rfl, (by repeat (first | (with_reducible exact Below.refl _ _) | (with_reducible assumption) | (with_reducible refine Below.drew ?_) | (with_reducible refine below_drewN ?_ _) | ((with_reducible refine below_alloc ?_ ?_); (focus (first | omega | (simp; done) | (simp; omega)))) | ((with_reducible refine below_set ?_ ?_); (focus (first | omega | (simp; done) | (simp; omega))))))⟩

end Go.Proofs.Ytmlggfapnkhcaaa
