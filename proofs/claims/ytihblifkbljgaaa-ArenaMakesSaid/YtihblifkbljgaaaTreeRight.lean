/-
  Right: of the document's answer.
-/
import Derived.Test.YtihblifkbljgaaaTreeRef2
namespace Go.Proofs.Ytihblifkbljgaaa
open Go.RowKit Go.Shelf

theorem tree_not_nil {t : List Node} (h : t.length = 0) : treeB t = false := treeB_false fun ht => by have := tree_len ht; omega
theorem tree_not_size {t : List Node} {x : Node} (hx : t[0]? = some x) (h : x.size ≠ t.length) : treeB t = false := treeB_false fun ht => by
  obtain ⟨y, hy, hs⟩ := ht.1
  rw [hx] at hy; cases hy; exact h hs
theorem tree_good {t : List Node} {x : Node} (hx : t[0]? = some x) (h : x.size = t.length) : goodB t 0 t.length = treeB t := by
  unfold goodB treeB
  congr 1
  exact propext ⟨fun hg => ⟨⟨x, hx, h⟩, hg⟩, fun h => h.2⟩

set_option maxHeartbeats 4000000 in
theorem ref_right (v : Value) (t : List Node) (w : World) (h4 : t.length ≤ 140737488355328) (hN : Nds w (Old w) v t) :
    Calls Try.prog 13 #[v] w fun r w' => r = .returned (.bool (treeB t)) ∧ Below w.heap.size w w' := by
  by_cases h0 : t = []
  · obtain ⟨A, c, rfl, hc1, hc2⟩ := hN.value
    unfold maxLen at hc2
    rw [tree_not_nil (by rw [h0]; rfl)]
    subst h0
    simp only [List.length_nil] at *
    clear hN
    go_enter Try.func13, Try.ntmps13
    go_wp2
    go_ret
    exact ⟨rfl, (by repeat (first | (with_reducible exact Below.refl _ _) | (with_reducible assumption) | (with_reducible refine Below.drew ?_) | ((with_reducible refine below_alloc ?_ ?_); (focus (first | omega | (simp; done) | (simp; omega)))) | ((with_reducible refine below_set ?_ ?_); (focus (first | omega | (simp; done) | (simp; omega))))))⟩
  · have hp : 0 < t.length := List.length_pos_iff.2 h0
    have HR := hidden (ref_node_any t.length v t 0 t.length w (by omega) hp (Nat.le_refl _) h4 hN)
    obtain ⟨b, off, c, rfl, hc1, hc2, hb, hat⟩ := hN.open_ h0
    have hx := List.getElem?_eq_getElem hp
    obtain ⟨l, x0, x1, x2, x3, x4, hpc⟩ := hat 0 _ hx
    simp only [Nat.zero_mul, Nat.add_zero] at x0 x1 x2 x3 x4
    unfold maxLen at hc2
    generalize t[0] = x at *
    by_cases hs : x.size = t.length
    · rw [tree_good hx hs] at HR
      obtain ⟨r, hr⟩ : ∃ r, treeB t = r := ⟨_, rfl⟩
      rw [hr] at HR ⊢
      rw [hs] at x2
      clear hr hat hpc hx hN x0 x1 x3 x4 hs
      go_enter Try.func13, Try.ntmps13
      go_wp2_with fail
      refine (HR.out).mono ?_
      rintro r2 w2 ⟨rfl, hb2⟩
      go_wp2
      go_ret
      exact ⟨rfl, hb2⟩
    · rw [tree_not_size hx hs]
      have q1 : (x.size == (t.length : Int)) = false := by simpa using hs
      clear hat hpc hx hN x0 x1 x3 x4 hs HR
      go_enter Try.func13, Try.ntmps13
      go_wp2
      go_ret
      exact ⟨rfl, (by repeat (first | (with_reducible exact Below.refl _ _) | (with_reducible assumption) | (with_reducible refine Below.drew ?_) | ((with_reducible refine below_alloc ?_ ?_); (focus (first | omega | (simp; done) | (simp; omega)))) | ((with_reducible refine below_set ?_ ?_); (focus (first | omega | (simp; done) | (simp; omega))))))⟩
end Go.Proofs.Ytihblifkbljgaaa
