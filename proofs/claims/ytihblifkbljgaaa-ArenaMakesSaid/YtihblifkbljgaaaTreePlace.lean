/-
  place, of both.
-/
import Derived.Test.YtihblifkbljgaaaTreeArena2
namespace Go.Proofs.Ytihblifkbljgaaa
open Go.RowKit Go.Shelf

/-- Is it a place of a tree? -/
noncomputable def placeB (t : List Node) (i : Int) : Bool := decide (0 ≤ i) && decide (i < t.length) && treeB t

set_option maxHeartbeats 1000000 in
theorem ref_place (v : Value) (t : List Node) (i : Int) (w : World) (h4 : t.length ≤ 140737488355) (hN : Nds w (Old w) v t) :
    Calls Try.prog 67 #[v, .int .i64 i] w fun r w' => r = .returned (.bool (placeB t i)) ∧ Below w.heap.size w w' := by
  have HR := hidden (ref_right v t w (by omega) hN)
  obtain ⟨A, c, rfl, hc1, hc2⟩ := hN.value
  unfold maxLen at hc2
  unfold placeB
  clear hN
  obtain ⟨r, hr⟩ : ∃ r, treeB t = r := ⟨_, rfl⟩
  rw [hr] at HR ⊢
  clear hr
  by_cases h1 : 0 ≤ i
  · by_cases h2 : i < t.length
    · simp only [h1, h2, decide_true, Bool.true_and]
      go_enter Try.func67, Try.ntmps67
      go_wp2_with fail
      refine (HR.out).mono ?_
      rintro r2 w2 ⟨rfl, hb2⟩
      go_wp2
      go_ret
      exact ⟨rfl, hb2⟩
    · simp only [h2, decide_false, Bool.and_false, Bool.false_and]
      go_enter Try.func67, Try.ntmps67
      go_wp2
      go_ret
      exact ⟨rfl, (by repeat (first | (with_reducible exact Below.refl _ _) | (with_reducible assumption) | (with_reducible refine Below.drew ?_) | ((with_reducible refine below_alloc ?_ ?_); (focus (first | omega | (simp; done) | (simp; omega)))) | ((with_reducible refine below_set ?_ ?_); (focus (first | omega | (simp; done) | (simp; omega))))))⟩
  · simp only [h1, decide_false, Bool.false_and]
    go_enter Try.func67, Try.ntmps67
    go_wp2
    go_ret
    exact ⟨rfl, (by repeat (first | (with_reducible exact Below.refl _ _) | (with_reducible assumption) | (with_reducible refine Below.drew ?_) | ((with_reducible refine below_alloc ?_ ?_); (focus (first | omega | (simp; done) | (simp; omega)))) | ((with_reducible refine below_set ?_ ?_); (focus (first | omega | (simp; done) | (simp; omega))))))⟩

set_option maxHeartbeats 1000000 in
theorem arena_place (v : Value) (t : List Node) (i : Int) (w : World) (h4 : t.length ≤ 140737488355) (hN : Nds w (Old w) v t) :
    Calls Try.prog 54 #[v, .int .i64 i] w fun r w' => r = .returned (.bool (placeB t i)) ∧ Below w.heap.size w w' := by
  have HR := hidden (arena_right v t w h4 hN)
  obtain ⟨A, c, rfl, hc1, hc2⟩ := hN.value
  unfold maxLen at hc2
  unfold placeB
  clear hN
  obtain ⟨r, hr⟩ : ∃ r, treeB t = r := ⟨_, rfl⟩
  rw [hr] at HR ⊢
  clear hr
  by_cases h1 : 0 ≤ i
  · by_cases h2 : i < t.length
    · simp only [h1, h2, decide_true, Bool.true_and]
      go_enter Try.func54, Try.ntmps54
      go_wp2_with fail
      refine (HR.out).mono ?_
      rintro r2 w2 ⟨rfl, hb2⟩
      go_wp2
      go_ret
      exact ⟨rfl, hb2⟩
    · simp only [h2, decide_false, Bool.and_false, Bool.false_and]
      go_enter Try.func54, Try.ntmps54
      go_wp2
      go_ret
      exact ⟨rfl, (by repeat (first | (with_reducible exact Below.refl _ _) | (with_reducible assumption) | (with_reducible refine Below.drew ?_) | ((with_reducible refine below_alloc ?_ ?_); (focus (first | omega | (simp; done) | (simp; omega)))) | ((with_reducible refine below_set ?_ ?_); (focus (first | omega | (simp; done) | (simp; omega))))))⟩
  · simp only [h1, decide_false, Bool.false_and]
    go_enter Try.func54, Try.ntmps54
    go_wp2
    go_ret
    exact ⟨rfl, (by repeat (first | (with_reducible exact Below.refl _ _) | (with_reducible assumption) | (with_reducible refine Below.drew ?_) | ((with_reducible refine below_alloc ?_ ?_); (focus (first | omega | (simp; done) | (simp; omega)))) | ((with_reducible refine below_set ?_ ?_); (focus (first | omega | (simp; done) | (simp; omega))))))⟩
end Go.Proofs.Ytihblifkbljgaaa
