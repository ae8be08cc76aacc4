/-
  Words and laws used in all texts of this seat, over any program: a block known whole; what a range over a function may turn; a range over a function at the wide fence.
-/
import Derived.RangeFuncNested
import Derived.RangeFuncBound
import Derived.RangeFuncCalls
import Derived.RangeFuncLeaves
import Derived.Shelf.Abstract
import Derived.Shelf.RegionOpen
import Derived.WalkKit
import Derived.WalkSpells
import Derived.OwnWalkIn
import Derived.TacticsInMore
import Derived.LoopNIn
import Derived.LoopIn
import Derived.BigQuiet
import Derived.Deep.QuietTactic
namespace Go.Proofs.Ytaagkbgbghleiaa
open Go.RowKit Go.Shelf

theorem hidden {p : Prop} (h : p) : Hid p := h
theorem ret_bool {a b : Bool} (h : a = b) : Ending.returned (.bool a) = .returned (.bool b) := by rw [h]
theorem ret_int {k : IntKind} {a b : Int} (h : a = b) : Ending.returned (.int k a) = .returned (.int k b) := by rw [h]

/-! ### A region that draws its order, whose calls keep all that was there (they may make memory): one walk in the order of the text. -/
/-- A world in which all that lay in W0 lies as it lay. -/
def Ext (W0 : World) : Type := { w' : World // Below W0.heap.size W0 w' }
instance (W0 : World) : Nonempty (Ext W0) := ⟨⟨W0, Below.refl _ _⟩⟩
def Ext.w {W0 : World} (x : Ext W0) : World := x.1
theorem Ext.below {W0 : World} (x : Ext W0) : Below W0.heap.size W0 x.w := x.2
theorem Ext.cell {W0 : World} {b o : Nat} {v : Value} (h : W0.cell? ⟨b, o, none⟩ = some v) (x : Ext W0) : x.w.cell? ⟨b, o, none⟩ = some v := by
  have hl : b < W0.heap.size := by
    obtain ⟨o', ho, _⟩ := cells_of_cell h
    exact (Array.getElem?_eq_some_iff.1 ho).1
  exact (x.below.cell (p := ⟨b, o, none⟩) hl).trans h
theorem Ext.call {P : Program} {f : FuncId} {args : Array Value} {W0 : World} {v : Value} {x : Ext W0}
    (h : Calls P f args x.w fun e w' => e = .returned v ∧ Below x.w.heap.size x.w w') : Calls P f args x.w fun e w'' => e = .returned v ∧ ∃ y : Ext W0, w'' = y.w :=
  h.mono fun _ w' ⟨he, hb⟩ => ⟨he, ⟨⟨w', x.below.trans (hb.mono x.below.size)⟩, rfl⟩⟩
theorem wp_region_ext {P : Program} {id : Nat} {Q : Exit → Act → World → Prop} {a : Act} {w : World} {l : List Oper} (hm : P.follows .mixedOrders = true) (hB : Region.lexB .any l.toArray = true)
    (h : wpQuiet P l.toArray (fun w' => ∃ x : Ext w, w' = x.w) (fun a' => ∀ w', Below w.heap.size w w' → Q .normal a' w') l a) : (Code.region id l.toArray true).wp P Q a w := by
  refine wp_region_quiet (C := fun w' => ∃ x : Ext w, w' = x.w) hm hB ⟨⟨{ w with drawn := w.drawn + 1 }, ⟨rfl, rfl, rfl, Nat.le_refl _, fun _ _ => rfl⟩⟩, rfl⟩ ?_
  simp only [forall_exists_index]
  have e : (fun a' => ∀ (w' : World) (x : Ext w), w' = x.w → Q .normal a' w') = (fun a' => ∀ w', Below w.heap.size w w' → Q .normal a' w') := by
    funext a'
    exact propext ⟨fun h w' hb => h w' ⟨w', hb⟩ rfl, fun h w' x hx => h w' (hx ▸ x.below)⟩
  rw [e]
  simpa using h

/-- What a call that kept all that was there says of cells and marks. -/
theorem old_cells {W w1 : World} (hb : Below W.heap.size W w1) : (∀ b o, b < W.heap.size → w1.cell? ⟨b, o, none⟩ = W.cell? ⟨b, o, none⟩) ∧ (∀ b o, b < W.heap.size → w1.frozen? ⟨b, o, none⟩ = W.frozen? ⟨b, o, none⟩) :=
  ⟨fun b o h => hb.cell (p := ⟨b, o, none⟩) h, fun b o h => hb.frozen (p := ⟨b, o, none⟩) h⟩

/-- Block g holds the cells cs, none of them frozen. -/
def Holds (w : World) (g : Nat) (t : TypeId) (cs : Array Value) : Prop := w.heap[g]? = some (.cells cs t (0, 0))

section
variable {w w' : World} {g : Nat} {t : TypeId} {cs : Array Value}
theorem Holds.lt (h : Holds w g t cs) : g < w.heap.size := (Array.getElem?_eq_some_iff.1 h).1
theorem Holds.cell (h : Holds w g t cs) (i : Nat) : w.cell? ⟨g, i, none⟩ = cs[i]? := by
  simp [World.cell?, show w.heap[g]? = _ from h]
theorem Holds.frozen (h : Holds w g t cs) (i : Nat) : w.frozen? ⟨g, i, none⟩ = false := by
  simp [World.frozen?, show w.heap[g]? = _ from h]
theorem Holds.new (w : World) (t : TypeId) (cs : Array Value) : Holds (w.alloc (.cells cs t)) w.heap.size t cs := World.alloc_heap_new w _
theorem Holds.new_at {n : Nat} (h : n = w.heap.size) : Holds (w.alloc (.cells cs t)) n t cs := by subst h; exact Holds.new w t cs
theorem Holds.c0 {v : Value} (h : Holds w g t #[v]) : w.cell? ⟨g, 0, none⟩ = some v := h.cell 0
theorem Holds.c20 {v u : Value} (h : Holds w g t #[v, u]) : w.cell? ⟨g, 0, none⟩ = some v := h.cell 0
theorem Holds.c21 {v u : Value} (h : Holds w g t #[v, u]) : w.cell? ⟨g, 1, none⟩ = some u := h.cell 1
theorem Holds.alloc (h : Holds w g t cs) (o : Obj) : Holds (w.alloc o) g t cs := (Below.heap_alloc w o g h.lt).trans h
theorem Holds.drew (h : Holds w g t cs) : Holds w.drew g t cs := h
theorem Holds.set (h : Holds w g t cs) (i : Nat) (u : Value) : Holds (w.setCell ⟨g, i, none⟩ u) g t (cs.setIfInBounds i u) := by
  unfold Holds at h ⊢
  simp [World.setCell, Array.getElem?_modify, h]
theorem Holds.far (h : Holds w g t cs) {p : Addr} (hp : g ≠ p.block) (u : Value) : Holds (w.setCell p u) g t cs := (Below.heap_setCell w p u g hp).trans h
theorem Holds.of_eq {cs' : Array Value} (h : Holds w g t cs) (e : cs = cs') : Holds w g t cs' := e ▸ h
theorem Holds.below {B : Nat} (h : Holds w g t cs) (hb : Below B w w') (hg : g < B) : Holds w' g t cs := (hb.block g hg).trans h
end

/-- W' is W, but for new blocks and for blocks from B on that hold no cells. -/
structure Calm (B : Nat) (W W' : World) : Prop where
  os : W'.os = W.os
  tape : W'.tape = W.tape
  output : W'.output = W.output
  size : W.heap.size ≤ W'.heap.size
  block : ∀ (k : Nat) (o : Obj), W.heap[k]? = some o → (k < B ∨ o.isCells = true) → W'.heap[k]? = some o

section
variable {B : Nat} {W W' W'' : World}
theorem Calm.refl (B : Nat) (W : World) : Calm B W W := ⟨rfl, rfl, rfl, Nat.le_refl _, fun _ _ h _ => h⟩
theorem Calm.trans (h : Calm B W W') (k : Calm B W' W'') : Calm B W W'' :=
  ⟨k.os.trans h.os, k.tape.trans h.tape, k.output.trans h.output, Nat.le_trans h.size k.size, fun i o hi ho => k.block i o (h.block i o hi ho) ho⟩
theorem Calm.grown {row : Option Nat} (hg : W.grownBy W' row) (hr : ∀ r, row = some r → B ≤ r ∧ ∃ o : Obj, W.heap[r]? = some o ∧ o.isCells = false) : Calm B W W' :=
  ⟨hg.os, hg.tape, hg.output, hg.size, fun k o hk ho => by
    refine (hg.block k (Array.getElem?_eq_some_iff.1 hk).1 ?_).trans hk
    intro e
    obtain ⟨h1, o', h2, h3⟩ := hr k e.symm
    rw [hk] at h2; cases h2
    rcases ho with ho | ho
    · omega
    · rw [h3] at ho; cases ho⟩
theorem Calm.putObj {l : Nat} {o : Obj} (o' : Obj) (hB : B ≤ l) (hl : W.heap[l]? = some o) (ho : o.isCells = false) : Calm B W (W.putObj l o') :=
  Calm.grown (grownBy_putObj' W l o') (fun r e => by cases e; exact ⟨hB, o, hl, ho⟩)
theorem Calm.below (h : Calm B W W') {B' : Nat} (hB : B' ≤ B) (hs : B' ≤ W.heap.size) : Below B' W W' :=
  ⟨h.os, h.tape, h.output, h.size, fun k hk => by
    obtain ⟨o, ho⟩ : ∃ o, W.heap[k]? = some o := ⟨_, Array.getElem?_eq_getElem (by omega)⟩
    exact (h.block k o ho (.inl (by omega))).trans ho.symm⟩
theorem Calm.holds (h : Calm B W W') {g : Nat} {t : TypeId} {cs : Array Value} (hh : Holds W g t cs) : Holds W' g t cs := h.block g _ hh (.inr rfl)
theorem Calm.cell (h : Calm B W W') {a : Addr} {v : Value} (hc : W.cell? a = some v) : W'.cell? a = some v := by
  obtain ⟨o, ho, hcl⟩ := cells_of_cell hc
  exact (World.cell?_of_block ((h.block _ o ho (.inr hcl)).trans ho.symm)).trans hc
theorem Calm.frozen (h : Calm B W W') {a : Addr} {v : Value} (hc : W.cell? a = some v) : W'.frozen? a = W.frozen? a := by
  obtain ⟨o, ho, hcl⟩ := cells_of_cell hc
  exact World.frozen?_of_block ((h.block _ o ho (.inr hcl)).trans ho.symm)
end

/-- What is said of worlds abides whatever is calm. -/
def Steady {β : Type} (B : Nat) (I : β → World → Prop) : Prop := ∀ s W W', I s W → Calm B W W' → I s W'
theorem Steady.ownFrom {β : Type} {B : Nat} {I : β → World → Prop} (h : Steady B I) : OwnFrom B I := fun s W W' _ hs hg hr => h s W W' hs (Calm.grown hg hr)

theorem KeepsOthers.of_below {W W' : World} (h : Below W.heap.size W W') : KeepsOthers W W' :=
  ⟨h.size, fun k _ hk _ => (h.block k (Array.getElem?_eq_some_iff.1 hk).1).trans hk⟩

/-- The blocks of T lie as they lay. -/
structure Keeps (T : Nat → Prop) (W W' : World) : Prop where
  size : W.heap.size ≤ W'.heap.size
  block : ∀ k, T k → k < W.heap.size → W'.heap[k]? = W.heap[k]?

section
variable {T : Nat → Prop} {W W' W'' : World}
theorem Keeps.refl (T : Nat → Prop) (W : World) : Keeps T W W := ⟨Nat.le_refl _, fun _ _ _ => rfl⟩
theorem Keeps.trans (h : Keeps T W W') (k : Keeps T W' W'') : Keeps T W W'' :=
  ⟨Nat.le_trans h.size k.size, fun i hi hl => (k.block i hi (Nat.lt_of_lt_of_le hl h.size)).trans (h.block i hi hl)⟩
theorem Keeps.alloc (h : Keeps T W W') (o : Obj) : Keeps T W (W'.alloc o) :=
  h.trans ⟨by simp, fun k _ hk => Below.heap_alloc _ _ _ hk⟩
theorem Keeps.drew (h : Keeps T W W') : Keeps T W W'.drew := ⟨h.size, h.block⟩
theorem Keeps.setCell (h : Keeps T W W') {p : Addr} (hp : ¬ T p.block) (u : Value) : Keeps T W (W'.setCell p u) :=
  h.trans ⟨by simp [World.setCell], fun k hk _ => Below.heap_setCell _ _ _ _ (fun e => hp (e ▸ hk))⟩
theorem Keeps.of_below (h : Below W.heap.size W W') : Keeps T W W' := ⟨h.size, fun k _ hk => h.block k hk⟩
theorem Keeps.below (h : Keeps T W W') (k : Below W'.heap.size W' W'') : Keeps T W W'' := h.trans (Keeps.of_below k)
theorem Keeps.cell (h : Keeps T W W') {a : Addr} {v : Value} (hT : T a.block) (hc : W.cell? a = some v) : W'.cell? a = some v := by
  obtain ⟨o, ho, _⟩ := cells_of_cell hc
  exact (World.cell?_of_block (h.block _ hT (Array.getElem?_eq_some_iff.1 ho).1)).trans hc
theorem Keeps.holds {g : Nat} {t : TypeId} {cs : Array Value} (h : Keeps T W W') (hT : T g) (hc : Holds W g t cs) : Holds W' g t cs := (h.block g hT hc.lt).trans hc
end

/-! The same laws, the side condition first, the address written out: for the closing lines of walks. -/
theorem holds_new {w : World} {t : TypeId} {cs : Array Value} {n : Nat} (h : n = w.heap.size) : Holds (w.alloc (.cells cs t)) n t cs := Holds.new_at h
theorem holds_set {w : World} {g i : Nat} {t : TypeId} {cs : Array Value} {u : Value} (h : Holds w g t cs) : Holds (w.setCell ⟨g, i, none⟩ u) g t (cs.setIfInBounds i u) := h.set i u
theorem holds_far {w : World} {g b i : Nat} {s : Option Nat} {t : TypeId} {cs : Array Value} {u : Value} (hp : g ≠ b) (h : Holds w g t cs) : Holds (w.setCell ⟨b, i, s⟩ u) g t cs := h.far (p := ⟨b, i, s⟩) hp u
theorem below_alloc {B : Nat} {a w : World} {o : Obj} (hB : B ≤ w.heap.size) (h : Below B a w) : Below B a (w.alloc o) := h.alloc hB o
theorem below_set {B b i : Nat} {s : Option Nat} {a w : World} {u : Value} (hp : B ≤ b) (h : Below B a w) : Below B a (w.setCell ⟨b, i, s⟩ u) := h.setCell (p := ⟨b, i, s⟩) hp u
theorem keeps_set {T : Nat → Prop} {b i : Nat} {s : Option Nat} {a w : World} {u : Value} (hp : ¬ T b) (h : Keeps T a w) : Keeps T a (w.setCell ⟨b, i, s⟩ u) := h.setCell (p := ⟨b, i, s⟩) hp u

theorem keeps_deferred {W W' : World} {D : Nat} {x : Option (List Deferred)} (h : KeepsOthers W W') (hD : W.heap[D]? = some (.deferred x)) : W'.heap[D]? = some (.deferred x) := h.same _ _ hD rfl

/-- How a round may be left. -/
def roundEnd {α : Type} (T : Nat → Prop) (I : List α → World → Prop) (Ix : Code → List α → World → Prop) (xs : List α) (W : World) : Exit → Act → World → Prop
  | .normal, _, W' => KeepsOthers W W' ∧ Keeps T W W' ∧ I xs W'
  | .ret, _, W' => KeepsOthers W W' ∧ Ix .ret xs W'
  | .exit id, _, W' => KeepsOthers W W' ∧ Ix (.exit id) xs W'
  | .goto t, _, W' => KeepsOthers W W' ∧ Ix (.goto t) xs W'
  | .panic _, _, _ => False
  | .outgrown, _, _ => False

/-- What is owed when a round's assignment is done, the body not yet begun. -/
def Started {α : Type} (P : Program) (n B N : Nat) (T : Nat → Prop) (I : List α → World → Prop) (Ix : Code → List α → World → Prop) (body : Code) (pre : List α) (x : α) (W : World) (a' : Act) (W' : World) : Prop :=
  KeepsOthers W W' ∧ Keeps T W W' ∧ I pre W' ∧
    ∀ (W2 : World) (l2 : Nat) (pre2 : List α), Calm B W' W2 → I pre2 W2 → pre2.length < N → B ≤ l2 → (∃ r, W2.heap[l2]? = some (.loop r)) →
      body.wpIn (Fence.wide.inRound l2) (n - 1 - 1) P (roundEnd T I Ix (pre2 ++ [x]) W2) a' W2

/-- A mark of a range over a function, among an activation's deferred calls. -/
def markOf (D : Nat) : Deferred := { target := .collected D, args := #[] }

/-- A RANGE OVER A FUNCTION at the wide fence: the iterator by its contract; one walk of the assignment and the body. -/
theorem range_law {α : Type} {P : Program} {n : Nat} {g : Operand} {ps : Array Tmp} {assign body : Code} {Q : Exit → Act → World → Prop} {a : Act} {w : World} (h1 : 1 ≤ n)
    {gf : Nat} {lb : Array Value} (hg : a.eval g = .func (.func gf) #[] lb) (eg : ∀ args w, (callFunc gf args).run P w = .ok (.enter gf args) w)
    {encs : α → Array Value} {T : Nat → Prop} {S Sp : List α → Prop} {N : Nat} {w0 : World} (hseq : SeqStopsK Fence.wide (n - 1) P gf lb encs (Keeps T) S Sp N w0) (hb0 : Below w0.heap.size w0 w) (hT : ∀ k, T k → k < w.heap.size)
    (hps : ∀ x, (encs x).size = ps.size)
    (I : List α → World → Prop) (Ix : Code → List α → World → Prop) (hI : Steady w.heap.size I) (hIx : ∀ c, Steady w.heap.size (Ix c)) (h0 : I [] w)
    (hround : ∀ (l : Nat) (pre : List α) (x : α) (W : World), I pre W →
      assign.wpIn (Fence.wide.inRound l) (n - 1 - 1) P (Exit.then (Started P n w.heap.size N T I Ix body pre x W) (fun _ _ _ => False))
        { tmps := (ps.zip (encs x)).foldl (fun t (p, v) => t.setIfInBounds p v) a.tmps, defers := [] } W)
    (hdone : ∀ (D : Nat) (xs : List α) (W : World), w.heap.size ≤ D → S xs → I xs W → W.heap[D]? = some (.deferred (some [])) → Q .normal { a with defers := markOf D :: a.defers } W)
    (hstop : ∀ (D : Nat) (c : Code) (pre : List α) (W : World), w.heap.size ≤ D → Sp pre → Ix c pre W → W.heap[D]? = some (.deferred (some [])) → c.wpIn Fence.wide n P Q { a with defers := markOf D :: a.defers } W) :
    (Code.rangeFunc g ps assign body).wpIn Fence.wide n P Q a w := by
  refine wpIn_rangeFunc_ownH (F := Fence.wide) rfl h1 hg trivial eg hseq Keeps.trans (fun W l o o' hl ho _ _ => ⟨by simp, fun k hk _ => World.putObj_heap_other (by have := hT k hk; omega)⟩) hb0 hps I Ix hI.ownFrom (fun c => (hIx c).ownFrom) h0
    (fun x a' W => ∀ (W2 : World) (l2 : Nat) (pre2 : List α), Calm w.heap.size W W2 → I pre2 W2 → pre2.length < N → w.heap.size ≤ l2 → (∃ r, W2.heap[l2]? = some (.loop r)) →
        body.wpIn (Fence.wide.inRound l2) (n - 1 - 1) P (roundEnd T I Ix (pre2 ++ [x]) W2) a' W2)
    (fun x a' => Steady.ownFrom (fun _ W W' h hc W2 l2 pre2 hc2 => h W2 l2 pre2 (hc.trans hc2)))
    (fun l pre x W K hi hK => ?_) (fun l pre x a' W hl hr hi hax hlen => ?_) hdone hstop
  · refine wpIn_mono (hround l pre x W hi) ?_
    intro e a' W' hq
    cases e with
    | normal => exact hK a' W' (hq.1.from _) hq.2.1 hq.2.2.1 hq.2.2.2
    | _ => exact hq
  · refine wpIn_mono (hax W l pre (Calm.refl _ _) hi hlen hl hr) ?_
    intro e a' W' hq
    cases e with
    | normal => exact ⟨hq.1.from _, hq.2.1, hq.2.2⟩
    | ret => exact ⟨hq.1.from _, hq.2⟩
    | exit id => exact ⟨hq.1.from _, hq.2⟩
    | goto t => exact ⟨hq.1.from _, hq.2⟩
    | panic c => exact hq
    | outgrown => exact hq

/-- The marks that an activation bears: each its own block from B on, shut when it leaves. -/
def Marks (B : Nat) (W : World) (Ds : List Nat) : Prop := Ds.Nodup ∧ ∀ D ∈ Ds, B ≤ D ∧ W.heap[D]? = some (.deferred (some []))

theorem leaves_marks {P : Program} {n : Nat} {fn : Func} {tmps : Array Value} {R : Ending → World → Prop} {B : Nat} (Ds : List Nat) : ∀ (W : World), Marks B W Ds →
    (∀ W', Calm B W W' → ∃ v, (results fn tmps).run P W' = .ok v W' ∧ R (.returned v) W') → LeavesInM Fence.wide n P fn tmps R (Ds.map markOf) .returning W := by
  induction Ds with
  | nil => exact fun W _ h => h W (Calm.refl _ _)
  | cons D Ds ih =>
    intro W hm h
    obtain ⟨hB, hD⟩ := hm.2 D (by simp)
    have hnd := List.nodup_cons.1 hm.1
    refine ⟨by simp, .inl ⟨D, _, rfl, run_takeDeferred hD, ih _ ⟨hnd.2, fun E hE => ?_⟩ (fun W' hc => h W' ((Calm.putObj _ hB hD rfl).trans hc))⟩⟩
    obtain ⟨hB', hE'⟩ := hm.2 E (by simp [hE])
    exact ⟨hB', (World.putObj_heap_other (fun e => by subst e; exact hnd.1 hE)).trans hE'⟩

end Go.Proofs.Ytaagkbgbghleiaa
