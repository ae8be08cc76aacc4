/-
  law19: GprintApart: what stays while the law runs; the last byte.
-/
import Derived.Test.YtfmdmeokbbpmlaaDoorGprO
namespace Go.Proofs.YtfmdmeokbbpmlaaDoor
open Go.RowKit Go.Shelf

/-- What stays while the law runs: two boxes, and the lines. -/
structure ApS (w0 : World) (cg ch : Array Value) (W : World) : Prop where
  hb : Below w0.heap.size w0 W
  g : Holds W w0.heap.size 41 cg
  h : Holds W (w0.heap.size + 1) 41 ch
theorem ApS.below {w0 : World} {cg ch : Array Value} {W W' : World} (h : ApS w0 cg ch W) (hb : Below W.heap.size W W') : ApS w0 cg ch W' :=
  ⟨h.hb.trans (hb.mono h.hb.size), h.g.below hb h.g.lt, h.h.below hb h.h.lt⟩
theorem gramT_bad {g : Gram} (h : rightB g = false) : gramT g = ByteArray.empty := by
  unfold gramT
  rw [h]
  rfl
theorem gramT_end {g : Gram} (h : rightB g = true) : ∃ m : Nat, (gramT g).size = m + 1 ∧ ∀ hm : m < (gramT g).size, (gramT g)[m] = 10 := by
  unfold gramT
  rw [if_pos h]
  exact text_end (by rw [lines_flat]; simp)
theorem gramT_size {g : Gram} (h : rightB g = true) : (gramT g).size ≤ 10000000000 := by
  unfold gramT
  rw [if_pos h]
  refine text_le (lines_size h) (fun l hl => hl) ?_
  have := right_sizes h
  rw [lines_len]
  omega
end Go.Proofs.YtfmdmeokbbpmlaaDoor
