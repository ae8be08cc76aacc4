/-
  A range over a function whose iterator names anything that a round must keep (XKit's range_law names blocks).
-/
import Derived.Test.YtihblifkbljgaaaKit
namespace Go.Proofs.Ytihblifkbljgaaa
open Go.RowKit Go.Shelf

/-- How a round may be left. -/
def roundEndK {α : Type} (Kp : World → World → Prop) (I : List α → World → Prop) (Ix : Code → List α → World → Prop) (xs : List α) (W : World) : Exit → Act → World → Prop
  | .normal, _, W' => KeepsOthers W W' ∧ Kp W W' ∧ I xs W'
  | .ret, _, W' => KeepsOthers W W' ∧ Ix .ret xs W'
  | .exit id, _, W' => KeepsOthers W W' ∧ Ix (.exit id) xs W'
  | .goto t, _, W' => KeepsOthers W W' ∧ Ix (.goto t) xs W'
  | .panic _, _, _ => False
  | .outgrown, _, _ => False

/-- What is owed when a round's assignment is done, the body not yet begun. -/
def StartedK {α : Type} (P : Program) (n B N : Nat) (Kp : World → World → Prop) (I : List α → World → Prop) (Ix : Code → List α → World → Prop) (body : Code) (pre : List α) (x : α) (W : World) (a' : Act) (W' : World) : Prop :=
  KeepsOthers W W' ∧ Kp W W' ∧ I pre W' ∧
    ∀ (W2 : World) (l2 : Nat) (pre2 : List α), Calm B W' W2 → I pre2 W2 → pre2.length < N → B ≤ l2 → (∃ r, W2.heap[l2]? = some (.loop r)) →
      body.wpIn (Fence.wide.inRound l2) (n - 1 - 1) P (roundEndK Kp I Ix (pre2 ++ [x]) W2) a' W2

theorem range_lawK {α : Type} {P : Program} {n : Nat} {g : Operand} {ps : Array Tmp} {assign body : Code} {Q : Exit → Act → World → Prop} {a : Act} {w : World} (h1 : 1 ≤ n)
    {gf : Nat} {lb : Array Value} (hg : a.eval g = .func (.func gf) #[] lb) (eg : ∀ args w, (callFunc gf args).run P w = .ok (.enter gf args) w)
    {encs : α → Array Value} {Kp : World → World → Prop} {S Sp : List α → Prop} {N : Nat} {w0 : World} (hseq : SeqStopsK Fence.wide (n - 1) P gf lb encs Kp S Sp N w0)
    (hKt : ∀ {A B C : World}, Kp A B → Kp B C → Kp A C) (hKb : ∀ (W : World) (l : Nat) (o o' : Obj), w.heap.size ≤ l → W.heap[l]? = some o → o.isCells = false → o.isWalk = false → Kp W (W.putObj l o')) (hb0 : Below w0.heap.size w0 w)
    (hps : ∀ x, (encs x).size = ps.size)
    (I : List α → World → Prop) (Ix : Code → List α → World → Prop) (hI : Steady w.heap.size I) (hIx : ∀ c, Steady w.heap.size (Ix c)) (h0 : I [] w)
    (hround : ∀ (l : Nat) (pre : List α) (x : α) (W : World), I pre W →
      assign.wpIn (Fence.wide.inRound l) (n - 1 - 1) P (Exit.then (StartedK P n w.heap.size N Kp I Ix body pre x W) (fun _ _ _ => False))
        { tmps := (ps.zip (encs x)).foldl (fun t (p, v) => t.setIfInBounds p v) a.tmps, defers := [] } W)
    (hdone : ∀ (D : Nat) (xs : List α) (W : World), w.heap.size ≤ D → S xs → I xs W → W.heap[D]? = some (.deferred (some [])) → Q .normal { a with defers := markOf D :: a.defers } W)
    (hstop : ∀ (D : Nat) (c : Code) (pre : List α) (W : World), w.heap.size ≤ D → Sp pre → Ix c pre W → W.heap[D]? = some (.deferred (some [])) → c.wpIn Fence.wide n P Q { a with defers := markOf D :: a.defers } W) :
    (Code.rangeFunc g ps assign body).wpIn Fence.wide n P Q a w := by
  refine wpIn_rangeFunc_ownH (F := Fence.wide) rfl h1 hg trivial eg hseq hKt hKb hb0 hps I Ix hI.ownFrom (fun c => (hIx c).ownFrom) h0
    (fun x a' W => ∀ (W2 : World) (l2 : Nat) (pre2 : List α), Calm w.heap.size W W2 → I pre2 W2 → pre2.length < N → w.heap.size ≤ l2 → (∃ r, W2.heap[l2]? = some (.loop r)) →
        body.wpIn (Fence.wide.inRound l2) (n - 1 - 1) P (roundEndK Kp I Ix (pre2 ++ [x]) W2) a' W2)
    (fun x a' => Steady.ownFrom (fun _ W W' h hc W2 l2 pre2 hc2 => h W2 l2 pre2 (hc.trans hc2)))
    (fun l pre x W K hi hK => ?_) (fun l pre x a' W hl hr hi hax hlen => ?_) hdone hstop
  · refine wpIn_mono (hround l pre x W hi) ?_
    intro e a' W' hq
    cases e with
    | normal => exact hK a' W' (hq.1.from _) hq.2.1 hq.2.2.1 hq.2.2.2
    | _ => exact hq
  · refine wpIn_mono (hax W l pre (Calm.refl _ _) hi hlen hl hr) ?_
    intro e a' W' hq
    cases e with
    | normal => exact ⟨hq.1.from _, hq.2.1, hq.2.2⟩
    | ret => exact ⟨hq.1.from _, hq.2⟩
    | exit id => exact ⟨hq.1.from _, hq.2⟩
    | goto t => exact ⟨hq.1.from _, hq.2⟩
    | panic c => exact hq
    | outgrown => exact hq

/-- The blocks of T lie as they lay, and so does every block of cells of type e. -/
structure KeepsT (T : Nat → Prop) (e : TypeId) (W W' : World) : Prop where
  keeps : Keeps T W W'
  typed : ∀ (k : Nat) (cs : Array Value), W.heap[k]? = some (.cells cs e) → W'.heap[k]? = some (.cells cs e)
section
variable {T : Nat → Prop} {e : TypeId} {W W' W2 : World}
theorem KeepsT.refl (W : World) : KeepsT T e W W := ⟨Keeps.refl _ _, fun _ _ h => h⟩
theorem KeepsT.trans (h : KeepsT T e W W') (k : KeepsT T e W' W2) : KeepsT T e W W2 := ⟨h.keeps.trans k.keeps, fun i cs hi => k.typed i cs (h.typed i cs hi)⟩
theorem KeepsT.below {B : Nat} (hT : ∀ k, T k → k < B) (hB : W.heap.size ≤ B) (h : Below B W W') : KeepsT T e W W' := by
  refine ⟨⟨h.size, fun k hk _ => h.block k (hT k hk)⟩, fun k cs hk => ?_⟩
  have : k < W.heap.size := (Array.getElem?_eq_some_iff.1 hk).1
  exact (h.block k (by omega)).trans hk
theorem KeepsT.setCell {b i : Nat} {s : Option Nat} {u : Value} {cs : Array Value} {e' : TypeId} (h : KeepsT T e W W') (hp : ¬ T b) (hb : W'.heap[b]? = some (.cells cs e')) (he : e' ≠ e) : KeepsT T e W (W'.setCell ⟨b, i, s⟩ u) := by
  refine ⟨h.keeps.setCell (p := ⟨b, i, s⟩) hp u, fun k cs' hk => ?_⟩
  have h1 := h.typed k cs' hk
  have : k ≠ b := fun e0 => by
    subst e0
    rw [hb] at h1
    simp only [Option.some.injEq, Obj.cells.injEq] at h1
    exact he h1.2.1
  exact (Below.heap_setCell W' ⟨b, i, s⟩ u k this).trans h1
theorem KeepsT.loop {l : Nat} {o o' : Obj} (hT : ∀ k, T k → k < l) (ho : W.heap[l]? = some o) (hc : o.isCells = false) : KeepsT T e W (W.putObj l o') := by
  refine ⟨⟨by simp, fun k hk _ => World.putObj_heap_other (by have := hT k hk; omega)⟩, fun k cs hk => ?_⟩
  have : k ≠ l := fun e0 => by subst e0; rw [ho] at hk; cases hk; cases hc
  rw [World.putObj_heap_other this]
  exact hk
end
end Go.Proofs.Ytihblifkbljgaaa
