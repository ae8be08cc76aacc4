/-
  Rows of records of some cells each, of the call's own: append of one. Over any program.
-/
import Derived.Test.YtmmhkjdnejeooaaB1
namespace Go.Proofs.Ytmmhkjdnejeooaa
open Go.RowKit Go.Shelf

/-- Records of the call's own, each of the cells that f gives. -/
abbrev FlatM {α : Type} (f : α → List Value) (k : Nat) (e : TypeId) (w : World) (base : Nat) (v : Value) (l : List α) : Prop := Mine w base e k v l.length (l.flatMap f)
section
variable {α : Type} {f : α → List Value} {k : Nat}
theorem FlatM.rd {e : TypeId} {w : World} {base : Nat} {v : Value} {l : List α} (h : FlatM f k e w base v l) : Rd w (Old w) k v l.length (l.flatMap f) := Mine.rd h (fun _ _ _ h => h)
/-- One record is put behind the call's own. -/
theorem wpList_append_flat {P : Program} {w W0 : World} {ops : Array Oper} {rest : List Oper} {o : Oper} {a : Act} {Q : Exit → Act → World → Prop} (hf : ∀ x, (f x).length = k) (hgd : o.guard = none) (s x : Operand) (t e e' : TypeId)
    (ho : o.op = .call { callee := .builtin .append, args := #[s, x], argTypes := #[t, t] }) (ht : P.underlying t = some (.slice e)) {z : Value} {bytes : Nat} (HI : Hid (TyInfo P e z k bytes)) (hzs : z.cells.size = k) (hk : 0 < k) (hone : ∀ x, ∀ u ∈ f x, u.oneCell' = true)
    (base : Nat) (v : Value) (l : List α) (HM : Hid (FlatM f k e W0 base v l)) (u : α) (hw : w = W0.alloc (.cells (f u).toArray e')) (hs : a.eval s = v) {g : Nat} (hx : a.eval x = .slice (some ⟨g, 0, none⟩) 1 1) (hg : g = W0.heap.size)
    (hn : (l.length + 1) * bytes ≤ 140737488355328) (hb1 : 0 < bytes) (hb : base ≤ W0.heap.size)
    (h : ∀ v' w', Hid (FlatM f k e w' base v' (l ++ [u])) → Below base W0 w' → Hid (Keeps (fun j => v.ownBlock ≠ some j) W0 w') → wpList P ops Q rest (a.put o.dst v') w') : wpList P ops Q (o :: rest) a w := by
  obtain ⟨i, hi, hz, hsz, hby⟩ := HI.out
  subst hw hg
  refine wpList_append_rd hgd s x t ho base e i z k bytes ht hi hz hsz hby hzs hk v l.length _ hs (HM.out.alloc _) (T := fun _ => True) _ 1 (f u) hx ?_ (hone u) hn hb1 (Nat.le_trans hb (by simp)) (fun v' w' hA => h v' w' ?_ (((Below.refl _ _).alloc hb _).trans hA.below) (hidden (((Keeps.refl _ _).alloc _).trans hA.keeps)))
  · exact Rd.fresh (cs := f u) (n := 1) (size := k) (by rw [hf]; omega) (Nat.le_refl _) (by decide) trivial rfl
  · have := hA.mine
    refine hidden ?_
    unfold FlatM
    rw [List.length_append, List.flatMap_append, List.flatMap_cons, List.flatMap_nil, List.append_nil]
    exact this
end
end Go.Proofs.Ytmmhkjdnejeooaa
