/-
  facsimileref18: sizes, Names, name, token, item, prod.
-/
import Derived.Test.YtaagkbgbghleiaaGramPlain
import Derived.Test.YtaagkbgbghleiaaRowsOf
namespace Go.Proofs.Ytaagkbgbghleiaa
open Go.RowKit Go.Shelf

def defC (d : Defect) : Value := .agg #[.int .i64 d.kind, .int .i64 d.at_, .int .i64 d.more]
theorem ret_def {a b : Defect} (h : a = b) : Ending.returned (defC a) = .returned (defC b) := by rw [h]

theorem GramIs.old {w w' : World} {a b c : Value} {g : Gram} (h : GramIs w (Old w) a b c g) (hb : Below w.heap.size w w') : GramIs w' (Old w') a b c g := ⟨h.1.old hb, Rd.old h.2.1 hb, h.2.2.old hb⟩
theorem GramIs.keeps {T : Nat → Prop} {w w' : World} {a b c : Value} {g : Gram} (h : GramIs w T a b c g) (hk : Keeps T w w') : GramIs w' T a b c g := ⟨h.1.keeps hk, h.2.1.keeps hk, h.2.2.keeps hk⟩
theorem GramIs.below {T : Nat → Prop} {B : Nat} {w w' : World} {a b c : Value} {g : Gram} (h : GramIs w T a b c g) (hb : Below B w w') (hT : ∀ k, T k → k < B) : GramIs w' T a b c g := ⟨h.1.below hb hT, h.2.1.below hb hT, h.2.2.below hb hT⟩
theorem GramIs.vals {T : Nat → Prop} {w : World} {a b c : Value} {g : Gram} (h : GramIs w T a b c g) : (∃ A k, a = .slice A g.toks.length k ∧ g.toks.length ≤ k ∧ k ≤ maxLen) ∧ (∃ A k, b = .slice A g.rules.length k ∧ g.rules.length ≤ k ∧ k ≤ maxLen) ∧ (∃ A k, c = .slice A g.prods.length k ∧ g.prods.length ≤ k ∧ k ≤ maxLen) :=
  ⟨h.1.value, h.2.1.val, h.2.2.value⟩

set_option maxRecDepth 20000 in
set_option maxHeartbeats 4000000 in
theorem ref_sizes (a b c : Value) (g : Gram) (w : World) (HG : GramIs w (Old w) a b c g) :
    Calls Try.prog 72 #[.agg (gramCells a b c g)] w fun r w' => r = .returned (defC (sizesOf g)) ∧ Below w.heap.size w w' := by
  obtain ⟨⟨A1, k1, rfl, v1, u1⟩, ⟨A2, k2, rfl, v2, u2⟩, ⟨A3, k3, rfl, v3, u3⟩⟩ := HG.vals
  clear HG
  obtain ⟨toks, rules, prods, st, sa, tx, nd, pr⟩ := g
  unfold sizesOf gramCells
  dsimp only at *
  unfold maxLen at *
  generalize toks.length = n1 at *
  generalize rules.length = n2 at *
  generalize prods.length = n3 at *
  by_cases h1 : 64 < n1
  · rw [if_pos h1]
    go_enter Try.func72, Try.ntmps72
    go_wp2
    exact bodyPost_ret (v := defC ⟨4, 0, 0⟩) (by simp [results, Try.results72, go_sem, defC]) rfl ⟨rfl, (by repeat (first | (with_reducible exact Below.refl _ _) | (with_reducible assumption) | (with_reducible refine Below.drew ?_) | ((with_reducible refine below_alloc ?_ ?_); (focus (first | omega | (simp; done) | (simp; omega)))) | ((with_reducible refine below_set ?_ ?_); (focus (first | omega | (simp; done) | (simp; omega))))))⟩
  rw [if_neg h1]
  by_cases h2 : 64 < n2
  · rw [if_pos h2]
    go_enter Try.func72, Try.ntmps72
    go_wp2
    exact bodyPost_ret (v := defC ⟨4, 1, 0⟩) (by simp [results, Try.results72, go_sem, defC]) rfl ⟨rfl, (by repeat (first | (with_reducible exact Below.refl _ _) | (with_reducible assumption) | (with_reducible refine Below.drew ?_) | ((with_reducible refine below_alloc ?_ ?_); (focus (first | omega | (simp; done) | (simp; omega)))) | ((with_reducible refine below_set ?_ ?_); (focus (first | omega | (simp; done) | (simp; omega))))))⟩
  rw [if_neg h2]
  by_cases h3 : 256 < n3
  · rw [if_pos h3]
    go_enter Try.func72, Try.ntmps72
    go_wp2
    exact bodyPost_ret (v := defC ⟨4, 2, 0⟩) (by simp [results, Try.results72, go_sem, defC]) rfl ⟨rfl, (by repeat (first | (with_reducible exact Below.refl _ _) | (with_reducible assumption) | (with_reducible refine Below.drew ?_) | ((with_reducible refine below_alloc ?_ ?_); (focus (first | omega | (simp; done) | (simp; omega)))) | ((with_reducible refine below_set ?_ ?_); (focus (first | omega | (simp; done) | (simp; omega))))))⟩
  rw [if_neg h3]
  by_cases h4 : sa < 1
  · rw [if_pos (Or.inl h4)]
    go_enter Try.func72, Try.ntmps72
    go_wp2
    exact bodyPost_ret (v := defC ⟨2, 0, 0⟩) (by simp [results, Try.results72, go_sem, defC]) rfl ⟨rfl, (by repeat (first | (with_reducible exact Below.refl _ _) | (with_reducible assumption) | (with_reducible refine Below.drew ?_) | ((with_reducible refine below_alloc ?_ ?_); (focus (first | omega | (simp; done) | (simp; omega)))) | ((with_reducible refine below_set ?_ ?_); (focus (first | omega | (simp; done) | (simp; omega))))))⟩
  by_cases h4b : 4096 < sa
  · rw [if_pos (Or.inr h4b)]
    go_enter Try.func72, Try.ntmps72
    go_wp2
    exact bodyPost_ret (v := defC ⟨2, 0, 0⟩) (by simp [results, Try.results72, go_sem, defC]) rfl ⟨rfl, (by repeat (first | (with_reducible exact Below.refl _ _) | (with_reducible assumption) | (with_reducible refine Below.drew ?_) | ((with_reducible refine below_alloc ?_ ?_); (focus (first | omega | (simp; done) | (simp; omega)))) | ((with_reducible refine below_set ?_ ?_); (focus (first | omega | (simp; done) | (simp; omega))))))⟩
  rw [if_neg (by omega)]
  by_cases h5 : tx < 0
  · rw [if_pos (Or.inl h5)]
    go_enter Try.func72, Try.ntmps72
    go_wp2
    exact bodyPost_ret (v := defC ⟨2, 1, 0⟩) (by simp [results, Try.results72, go_sem, defC]) rfl ⟨rfl, (by repeat (first | (with_reducible exact Below.refl _ _) | (with_reducible assumption) | (with_reducible refine Below.drew ?_) | ((with_reducible refine below_alloc ?_ ?_); (focus (first | omega | (simp; done) | (simp; omega)))) | ((with_reducible refine below_set ?_ ?_); (focus (first | omega | (simp; done) | (simp; omega))))))⟩
  by_cases h5b : 65536 < tx
  · rw [if_pos (Or.inr h5b)]
    go_enter Try.func72, Try.ntmps72
    go_wp2
    exact bodyPost_ret (v := defC ⟨2, 1, 0⟩) (by simp [results, Try.results72, go_sem, defC]) rfl ⟨rfl, (by repeat (first | (with_reducible exact Below.refl _ _) | (with_reducible assumption) | (with_reducible refine Below.drew ?_) | ((with_reducible refine below_alloc ?_ ?_); (focus (first | omega | (simp; done) | (simp; omega)))) | ((with_reducible refine below_set ?_ ?_); (focus (first | omega | (simp; done) | (simp; omega))))))⟩
  rw [if_neg (by omega)]
  by_cases h6 : nd < 1
  · rw [if_pos (Or.inl h6)]
    go_enter Try.func72, Try.ntmps72
    go_wp2
    exact bodyPost_ret (v := defC ⟨2, 2, 0⟩) (by simp [results, Try.results72, go_sem, defC]) rfl ⟨rfl, (by repeat (first | (with_reducible exact Below.refl _ _) | (with_reducible assumption) | (with_reducible refine Below.drew ?_) | ((with_reducible refine below_alloc ?_ ?_); (focus (first | omega | (simp; done) | (simp; omega)))) | ((with_reducible refine below_set ?_ ?_); (focus (first | omega | (simp; done) | (simp; omega))))))⟩
  by_cases h6b : 65536 < nd
  · rw [if_pos (Or.inr h6b)]
    go_enter Try.func72, Try.ntmps72
    go_wp2
    exact bodyPost_ret (v := defC ⟨2, 2, 0⟩) (by simp [results, Try.results72, go_sem, defC]) rfl ⟨rfl, (by repeat (first | (with_reducible exact Below.refl _ _) | (with_reducible assumption) | (with_reducible refine Below.drew ?_) | ((with_reducible refine below_alloc ?_ ?_); (focus (first | omega | (simp; done) | (simp; omega)))) | ((with_reducible refine below_set ?_ ?_); (focus (first | omega | (simp; done) | (simp; omega))))))⟩
  rw [if_neg (by omega)]
  by_cases h7 : pr < 1
  · rw [if_pos (Or.inl h7)]
    go_enter Try.func72, Try.ntmps72
    go_wp2
    exact bodyPost_ret (v := defC ⟨2, 3, 0⟩) (by simp [results, Try.results72, go_sem, defC]) rfl ⟨rfl, (by repeat (first | (with_reducible exact Below.refl _ _) | (with_reducible assumption) | (with_reducible refine Below.drew ?_) | ((with_reducible refine below_alloc ?_ ?_); (focus (first | omega | (simp; done) | (simp; omega)))) | ((with_reducible refine below_set ?_ ?_); (focus (first | omega | (simp; done) | (simp; omega))))))⟩
  by_cases h7b : 1048576 < pr
  · rw [if_pos (Or.inr h7b)]
    go_enter Try.func72, Try.ntmps72
    go_wp2
    exact bodyPost_ret (v := defC ⟨2, 3, 0⟩) (by simp [results, Try.results72, go_sem, defC]) rfl ⟨rfl, (by repeat (first | (with_reducible exact Below.refl _ _) | (with_reducible assumption) | (with_reducible refine Below.drew ?_) | ((with_reducible refine below_alloc ?_ ?_); (focus (first | omega | (simp; done) | (simp; omega)))) | ((with_reducible refine below_set ?_ ?_); (focus (first | omega | (simp; done) | (simp; omega))))))⟩
  rw [if_neg (by omega)]
  go_enter Try.func72, Try.ntmps72
  go_wp2
  exact bodyPost_ret (v := defC ⟨0, 0, 0⟩) (by simp [results, Try.results72, go_sem, defC]) rfl ⟨rfl, (by repeat (first | (with_reducible exact Below.refl _ _) | (with_reducible assumption) | (with_reducible refine Below.drew ?_) | ((with_reducible refine below_alloc ?_ ?_); (focus (first | omega | (simp; done) | (simp; omega)))) | ((with_reducible refine below_set ?_ ?_); (focus (first | omega | (simp; done) | (simp; omega))))))⟩
end Go.Proofs.Ytaagkbgbghleiaa
