/-
  The document's answer for a selector (plain): a step's list, place by place.
-/
import Derived.Test.YtdbbjlphlbndkaaGreatFindR2
import Derived.Test.YtdbbjlphlbndkaaGreatFindX
namespace Go.Proofs.YtdbbjlphlbndkaaGreat.T
open Go.RowKit Go.Shelf

theorem upOf_at {t : List Node} (ht : Tree t) {i : Nat} (hi : i < t.length) : upOf t (i : Int) = upN t i i := by
  unfold upOf
  rw [if_pos (placeB_iff.2 ⟨by omega, by omega, ht⟩), Int.toNat_natCast]
/-- A step's list when the node i was held against the first k numbers. -/
def nextK (g : Gram) (t : List Node) (x : ByteArray × Bool) (l : List Nat) (i k : Nat) : List Nat := nextR g t x l i ++ ((l.take k).filter fun a => beneathR t x.2 a i && isN g t x.1 i).map fun _ => i
theorem nextK_zero (g : Gram) (t : List Node) (x : ByteArray × Bool) (l : List Nat) (i : Nat) : nextK g t x l i 0 = nextR g t x l i := by unfold nextK; simp
theorem nextK_yes {g : Gram} {t : List Node} {x : ByteArray × Bool} {l : List Nat} {i k a : Nat} (h : l[k]? = some a) (hb : beneathR t x.2 a i = true) (hn : isN g t x.1 i = true) : nextK g t x l i (k + 1) = nextK g t x l i k ++ [i] := by
  unfold nextK
  rw [List.take_add_one, h, List.filter_append, List.map_append, List.append_assoc]
  simp [hb, hn]
theorem nextK_no {g : Gram} {t : List Node} {x : ByteArray × Bool} {l : List Nat} {i k a : Nat} (h : l[k]? = some a) (hb : beneathR t x.2 a i = false ∨ isN g t x.1 i = false) : nextK g t x l i (k + 1) = nextK g t x l i k := by
  unfold nextK
  rw [List.take_add_one, h, List.filter_append, List.map_append]
  rcases hb with hb | hb <;> simp [hb]
theorem nextK_full (g : Gram) (t : List Node) (x : ByteArray × Bool) (l : List Nat) (i : Nat) : nextK g t x l i l.length = nextR g t x l (i + 1) := by
  unfold nextK nextR
  rw [List.take_length, List.range_succ, List.flatMap_append]
  simp
theorem nextR_len (g : Gram) (t : List Node) (x : ByteArray × Bool) (l : List Nat) : ∀ n, (nextR g t x l n).length ≤ n * l.length := by
  intro n
  induction n with
  | zero => unfold nextR; simp
  | succ n ih =>
    rw [← nextK_full]
    unfold nextK
    rw [List.length_append, List.length_map]
    have h := List.length_filter_le (fun a => beneathR t x.2 a n && isN g t x.1 n) (l.take l.length)
    rw [List.take_length] at h ⊢
    rw [Nat.succ_mul]
    omega
theorem nextK_len (g : Gram) (t : List Node) (x : ByteArray × Bool) (l : List Nat) (i k : Nat) (hk : k ≤ l.length) : (nextK g t x l i k).length ≤ (i + 1) * l.length := by
  unfold nextK
  rw [List.length_append, List.length_map]
  have h := List.length_filter_le (fun a => beneathR t x.2 a i && isN g t x.1 i) (l.take k)
  have h2 := nextR_len g t x l i
  rw [List.length_take] at h
  rw [Nat.succ_mul]
  omega
theorem foundO_len (s : List Bool) : (foundO s).length ≤ s.length := foundK_len s s.length
theorem castE_len (l : List Nat) : (castL l).length = l.length := by unfold castL; rw [List.length_map]
theorem castL_snoc (l : List Nat) (i : Nat) : castL (l ++ [i]) = castL l ++ [(i : Int)] := by unfold castL; rw [List.map_append]; rfl
theorem castE_cells (l : List Nat) : (castL l).flatMap (one1 intV) = ints l := by
  induction l with
  | nil => rfl
  | cons x l ih =>
    show [intV (x : Int)] ++ (castL l).flatMap (one1 intV) = _
    rw [ih]
    rfl
theorem rd_of_cast {w : World} {T : Nat → Prop} {v : Value} {l : List Nat} (h : Ints w T v (castL l)) : Rd w T 1 v l.length (ints l) := by
  unfold Ints Row at h
  rwa [castE_cells, castE_len] at h
theorem cast_of_rd {w : World} {T : Nat → Prop} {v : Value} {l : List Nat} (h : Rd w T 1 v l.length (ints l)) : Ints w T v (castL l) := by
  unfold Ints Row
  rwa [castE_cells, castE_len]
theorem bneath_no {t : List Node} {al : Bool} {a i : Nat} (h : ¬ a < i ∨ ¬ i < a + sz t a) : beneathR t al a i = false := by
  unfold beneathR
  rcases h with h | h
  · rw [decide_eq_false h]; rfl
  · rw [decide_eq_false h, Bool.and_false]; rfl
theorem bneath_in {t : List Node} {al : Bool} {a i : Nat} (h : a < i) (h2 : i < a + sz t a) : beneathR t al a i = (al || decide (upN t i i = (a : Int))) := by
  unfold beneathR
  rw [decide_eq_true h, decide_eq_true h2]; rfl
end Go.Proofs.YtdbbjlphlbndkaaGreat.T
