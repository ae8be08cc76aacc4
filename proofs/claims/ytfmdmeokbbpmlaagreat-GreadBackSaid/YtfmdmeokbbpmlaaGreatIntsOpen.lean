/-
  An argument of whole numbers, opened, with the numbers' bounds.
-/
import Derived.Test.YtfmdmeokbbpmlaaGreatB1
import Derived.Deep.Slices
import Derived.ChangeArms
import Derived.OpenShut
namespace Go.Proofs.YtfmdmeokbbpmlaaGreat
open Go.RowKit Go.Shelf Go.ChangeShapes Go.WideShapes

theorem list_ofI {α : Type} (Q : Nat → α → Prop) : ∀ n, (∀ i, i < n → ∃ x, Q i x) → ∃ l : List α, l.length = n ∧ ∀ i x, l[i]? = some x → Q i x := by
  intro n
  induction n with
  | zero => exact fun _ => ⟨[], rfl, fun i x h => by simp at h⟩
  | succ n ih =>
    intro h
    obtain ⟨l, hl, hq⟩ := ih (fun i hi => h i (by omega))
    obtain ⟨x, hx⟩ := h n (by omega)
    refine ⟨l ++ [x], by simp [hl], fun i y hy => ?_⟩
    by_cases hi : i < n
    · rw [List.getElem?_append_left (by omega)] at hy; exact hq i y hy
    · obtain rfl : i = n := by
        have := (List.getElem?_eq_some_iff.1 hy).1
        simp [hl] at this; omega
      rw [List.getElem?_append_right (by omega), hl] at hy
      simp at hy; subst hy; exact hx

/-- Cells that stand one element behind another, each of k. -/
theorem rd_of_flatI {α : Type} {w : World} {a : Addr} {n c k : Nat} (f : α → List Value) (hk : 0 < k) (hf : ∀ x, (f x).length = k) (l : List α) (hl : l.length = n) (hc1 : n ≤ c) (hc2 : c ≤ maxLen)
    (h : ∀ i x, l[i]? = some x → ∀ j u, (f x)[j]? = some u → w.cell? (a.add (i * k + j)) = some u) : Rd w (Old w) k (.slice (some a) n c) n (l.flatMap f) := by
  refine ⟨by rw [flat_len f k hf, hl], _, _, rfl, hc1, hc2, fun h0 => ?_⟩
  rw [flat_len f k hf] at h0
  have hl0 : 0 < l.length := by
    by_cases e : l.length = 0
    · rw [e] at h0; omega
    · omega
  have hx := List.getElem?_eq_getElem hl0
  have hfx : 0 < (f l[0]).length := by rw [hf]; exact hk
  have hfirst := h 0 _ hx 0 _ (List.getElem?_eq_getElem hfx)
  have hadd : a.add (0 * k + 0) = a := by simp [Addr.add]
  rw [hadd] at hfirst
  have hsp := World.cell?_spot hfirst
  obtain ⟨b, off, sp⟩ := a
  dsimp only at hsp
  subst hsp
  obtain ⟨o, ho, _⟩ := cells_of_cell hfirst
  refine ⟨b, off, rfl, (Array.getElem?_eq_some_iff.1 ho).1, fun j u hu => ?_⟩
  have hj : j < l.length * k := by
    have := (List.getElem?_eq_some_iff.1 hu).1
    rwa [flat_len f k hf] at this
  have hi : j / k < l.length := Nat.div_lt_of_lt_mul (by rw [Nat.mul_comm]; exact hj)
  have e : j / k * k + j % k = j := by rw [Nat.mul_comm]; exact Nat.div_add_mod j k
  have hy := List.getElem?_eq_getElem hi
  have := flat_at f k hf l (j / k) (j % k) _ hy (Nat.mod_lt _ hk)
  rw [e] at this
  rw [this] at hu
  have := h _ _ hy _ _ hu
  rwa [e, addr_add] at this

section
variable {H : Type} {enc : TypeId × Value → H} {w : World} {base : Nat} {spare : Nat → Bool} {held : Bool}
theorem open_ints_b {fuel : Nat} {v : Value} {x : DataW H × List MemPlace} (h : DataW.trod enc Tryz.prog w base spare held fuel 69 [v] = some x) : ∃ l : List Int, Ints w (Old w) v l ∧ ∀ x ∈ l, -9223372036854775808 ≤ x ∧ x ≤ 9223372036854775807 := by
  rcases Go.Deep.open_slice (e := 3) (by kernel_rfl) h with ⟨e, hx⟩ | ⟨a, len, cap, m, n, D, Pl, e, hb, hl, hm, hmm, hxd, hx⟩
  · cases e
    exact ⟨[], Rd.nil _ _ _, fun x h => by cases h⟩
  · cases e
    have hlm : len ≤ m := by rw [hmm]; split <;> omega
    obtain ⟨ps, hps, hq⟩ := list_ofI (fun i (p : Int) => (∀ j u, (one1 intV p)[j]? = some u → w.cell? (a.add (i * 1 + j)) = some u) ∧ -9223372036854775808 ≤ p ∧ p ≤ 9223372036854775807) len (fun i hi => by
      obtain ⟨cs', h1, h2⟩ := hx i (by omega)
      rw [show Tryz.prog.cellsOf 3 = 1 by kernel_rfl] at h1
      obtain ⟨_, hlen, hcell⟩ := World.cells?_some h1
      match cs', hlen with
      | [y0], _ =>
        have hu : Tryz.prog.underlying 3 = some (.int .i64) := by kernel_rfl
        obtain ⟨z, e1, _, hwf⟩ := DataW.trod_int hu h2
        cases e1
        refine ⟨z, fun j u hj => ?_, bounds_i64 hwf⟩
        have hj2 : j < 1 := (List.getElem?_eq_some_iff.1 hj).1
        have := hcell j hj2
        rw [Go.Deep.add_add] at this
        rw [this]
        exact hj)
    refine ⟨ps, ?_, fun x hx => by
      obtain ⟨i, hi⟩ := List.mem_iff_getElem?.1 hx
      exact (hq i x hi).2⟩
    have := rd_of_flatI (w := w) (a := a) (c := cap) (one1 intV) (by decide) (fun _ => rfl) ps hps hl hm (fun i x hi => (hq i x hi).1)
    show Rd w (Old w) 1 _ ps.length _
    rw [hps]
    exact this
end
end Go.Proofs.YtfmdmeokbbpmlaaGreat
