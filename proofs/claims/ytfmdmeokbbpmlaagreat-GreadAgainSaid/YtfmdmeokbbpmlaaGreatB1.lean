/-
  Words and laws used in all texts of this seat, over any program: a block known whole; what a range over a function may turn; a range over a function at the wide fence. Memory that reads as a list of cells; slices of the call's own; append onto them. Over any program. Slices that read as lists: of flat elements, and of records of which one cell is a slice of flat elements. Over any program. Layer 6: names; lists of texts: where one stands, whether two are the same. Layer 6: word.Name; where texts stand among others. Layer 6: where texts stand among others. Are lists of texts the same (facsimile
-/
import Derived.RangeFuncNested
import Derived.RangeFuncBound
import Derived.RangeFuncCalls
import Derived.RangeFuncLeaves
import Derived.Shelf.Abstract
import Derived.Shelf.RegionOpen
import Derived.WalkKit
import Derived.WalkSpells
import Derived.OwnWalkIn
import Derived.TacticsInMore
import Derived.LoopNIn
import Derived.LoopIn
import Derived.BigQuiet
import Derived.Deep.QuietTactic
import Derived.Maps.AppendAt
import Derived.ArgAppend
import Derived.Test.YtfmdmeokbbpmlaaGreatRows
import Derived.Laws.StructEq
import Derived.Laws.RangeAny
import Derived.Deep.CutBlock
import Derived.Deep.DeepCutAuto
import Derived.Deep.LoopGhost
namespace Go.Proofs.YtfmdmeokbbpmlaaGreat
open Go.RowKit Go.Shelf

theorem hidden {p : Prop} (h : p) : Hid p := h
theorem ret_bool {a b : Bool} (h : a = b) : Ending.returned (.bool a) = .returned (.bool b) := by rw [h]
theorem ret_int {k : IntKind} {a b : Int} (h : a = b) : Ending.returned (.int k a) = .returned (.int k b) := by rw [h]

/-! ### A region that draws its order, whose calls keep all that was there (they may make memory): one walk in the order of the text. -/
/-- A world in which all that lay in W0 lies as it lay. -/
def Ext (W0 : World) : Type := { w' : World // Below W0.heap.size W0 w' }
instance (W0 : World) : Nonempty (Ext W0) := ⟨⟨W0, Below.refl _ _⟩⟩
def Ext.w {W0 : World} (x : Ext W0) : World := x.1
theorem Ext.below {W0 : World} (x : Ext W0) : Below W0.heap.size W0 x.w := x.2
theorem Ext.cell {W0 : World} {b o : Nat} {v : Value} (h : W0.cell? ⟨b, o, none⟩ = some v) (x : Ext W0) : x.w.cell? ⟨b, o, none⟩ = some v := by
  have hl : b < W0.heap.size := by
    obtain ⟨o', ho, _⟩ := cells_of_cell h
    exact (Array.getElem?_eq_some_iff.1 ho).1
  exact (x.below.cell (p := ⟨b, o, none⟩) hl).trans h
theorem Ext.call {P : Program} {f : FuncId} {args : Array Value} {W0 : World} {v : Value} {x : Ext W0}
    (h : Calls P f args x.w fun e w' => e = .returned v ∧ Below x.w.heap.size x.w w') : Calls P f args x.w fun e w'' => e = .returned v ∧ ∃ y : Ext W0, w'' = y.w :=
  h.mono fun _ w' ⟨he, hb⟩ => ⟨he, ⟨⟨w', x.below.trans (hb.mono x.below.size)⟩, rfl⟩⟩
theorem wp_region_ext {P : Program} {id : Nat} {Q : Exit → Act → World → Prop} {a : Act} {w : World} {l : List Oper} (hm : P.follows .mixedOrders = true) (hB : Region.lexB .any l.toArray = true)
    (h : wpQuiet P l.toArray (fun w' => ∃ x : Ext w, w' = x.w) (fun a' => ∀ w', Below w.heap.size w w' → Q .normal a' w') l a) : (Code.region id l.toArray true).wp P Q a w := by
  refine wp_region_quiet (C := fun w' => ∃ x : Ext w, w' = x.w) hm hB ⟨⟨{ w with drawn := w.drawn + 1 }, ⟨rfl, rfl, rfl, Nat.le_refl _, fun _ _ => rfl⟩⟩, rfl⟩ ?_
  simp only [forall_exists_index]
  have e : (fun a' => ∀ (w' : World) (x : Ext w), w' = x.w → Q .normal a' w') = (fun a' => ∀ w', Below w.heap.size w w' → Q .normal a' w') := by
    funext a'
    exact propext ⟨fun h w' hb => h w' ⟨w', hb⟩ rfl, fun h w' x hx => h w' (hx ▸ x.below)⟩
  rw [e]
  simpa using h

/-- What a call that kept all that was there says of cells and marks. -/
theorem old_cells {W w1 : World} (hb : Below W.heap.size W w1) : (∀ b o, b < W.heap.size → w1.cell? ⟨b, o, none⟩ = W.cell? ⟨b, o, none⟩) ∧ (∀ b o, b < W.heap.size → w1.frozen? ⟨b, o, none⟩ = W.frozen? ⟨b, o, none⟩) :=
  ⟨fun b o h => hb.cell (p := ⟨b, o, none⟩) h, fun b o h => hb.frozen (p := ⟨b, o, none⟩) h⟩

/-- Block g holds the cells cs, none of them frozen. -/
def Holds (w : World) (g : Nat) (t : TypeId) (cs : Array Value) : Prop := w.heap[g]? = some (.cells cs t (0, 0))

section
variable {w w' : World} {g : Nat} {t : TypeId} {cs : Array Value}
theorem Holds.lt (h : Holds w g t cs) : g < w.heap.size := (Array.getElem?_eq_some_iff.1 h).1
theorem Holds.cell (h : Holds w g t cs) (i : Nat) : w.cell? ⟨g, i, none⟩ = cs[i]? := by
  simp [World.cell?, show w.heap[g]? = _ from h]
theorem Holds.frozen (h : Holds w g t cs) (i : Nat) : w.frozen? ⟨g, i, none⟩ = false := by
  simp [World.frozen?, show w.heap[g]? = _ from h]
theorem Holds.new (w : World) (t : TypeId) (cs : Array Value) : Holds (w.alloc (.cells cs t)) w.heap.size t cs := World.alloc_heap_new w _
theorem Holds.new_at {n : Nat} (h : n = w.heap.size) : Holds (w.alloc (.cells cs t)) n t cs := by subst h; exact Holds.new w t cs
theorem Holds.c0 {v : Value} (h : Holds w g t #[v]) : w.cell? ⟨g, 0, none⟩ = some v := h.cell 0
theorem Holds.c20 {v u : Value} (h : Holds w g t #[v, u]) : w.cell? ⟨g, 0, none⟩ = some v := h.cell 0
theorem Holds.c21 {v u : Value} (h : Holds w g t #[v, u]) : w.cell? ⟨g, 1, none⟩ = some u := h.cell 1
theorem Holds.alloc (h : Holds w g t cs) (o : Obj) : Holds (w.alloc o) g t cs := (Below.heap_alloc w o g h.lt).trans h
theorem Holds.drew (h : Holds w g t cs) : Holds w.drew g t cs := h
theorem Holds.set (h : Holds w g t cs) (i : Nat) (u : Value) : Holds (w.setCell ⟨g, i, none⟩ u) g t (cs.setIfInBounds i u) := by
  unfold Holds at h ⊢
  simp [World.setCell, Array.getElem?_modify, h]
theorem Holds.far (h : Holds w g t cs) {p : Addr} (hp : g ≠ p.block) (u : Value) : Holds (w.setCell p u) g t cs := (Below.heap_setCell w p u g hp).trans h
theorem Holds.of_eq {cs' : Array Value} (h : Holds w g t cs) (e : cs = cs') : Holds w g t cs' := e ▸ h
theorem Holds.below {B : Nat} (h : Holds w g t cs) (hb : Below B w w') (hg : g < B) : Holds w' g t cs := (hb.block g hg).trans h
end

/-- W' is W, but for new blocks and for blocks from B on that hold no cells. -/
structure Calm (B : Nat) (W W' : World) : Prop where
  os : W'.os = W.os
  tape : W'.tape = W.tape
  output : W'.output = W.output
  size : W.heap.size ≤ W'.heap.size
  block : ∀ (k : Nat) (o : Obj), W.heap[k]? = some o → (k < B ∨ o.isCells = true) → W'.heap[k]? = some o

section
variable {B : Nat} {W W' W'' : World}
theorem Calm.refl (B : Nat) (W : World) : Calm B W W := ⟨rfl, rfl, rfl, Nat.le_refl _, fun _ _ h _ => h⟩
theorem Calm.trans (h : Calm B W W') (k : Calm B W' W'') : Calm B W W'' :=
  ⟨k.os.trans h.os, k.tape.trans h.tape, k.output.trans h.output, Nat.le_trans h.size k.size, fun i o hi ho => k.block i o (h.block i o hi ho) ho⟩
theorem Calm.grown {row : Option Nat} (hg : W.grownBy W' row) (hr : ∀ r, row = some r → B ≤ r ∧ ∃ o : Obj, W.heap[r]? = some o ∧ o.isCells = false) : Calm B W W' :=
  ⟨hg.os, hg.tape, hg.output, hg.size, fun k o hk ho => by
    refine (hg.block k (Array.getElem?_eq_some_iff.1 hk).1 ?_).trans hk
    intro e
    obtain ⟨h1, o', h2, h3⟩ := hr k e.symm
    rw [hk] at h2; cases h2
    rcases ho with ho | ho
    · omega
    · rw [h3] at ho; cases ho⟩
theorem Calm.putObj {l : Nat} {o : Obj} (o' : Obj) (hB : B ≤ l) (hl : W.heap[l]? = some o) (ho : o.isCells = false) : Calm B W (W.putObj l o') :=
  Calm.grown (grownBy_putObj' W l o') (fun r e => by cases e; exact ⟨hB, o, hl, ho⟩)
theorem Calm.below (h : Calm B W W') {B' : Nat} (hB : B' ≤ B) (hs : B' ≤ W.heap.size) : Below B' W W' :=
  ⟨h.os, h.tape, h.output, h.size, fun k hk => by
    obtain ⟨o, ho⟩ : ∃ o, W.heap[k]? = some o := ⟨_, Array.getElem?_eq_getElem (by omega)⟩
    exact (h.block k o ho (.inl (by omega))).trans ho.symm⟩
theorem Calm.holds (h : Calm B W W') {g : Nat} {t : TypeId} {cs : Array Value} (hh : Holds W g t cs) : Holds W' g t cs := h.block g _ hh (.inr rfl)
theorem Calm.cell (h : Calm B W W') {a : Addr} {v : Value} (hc : W.cell? a = some v) : W'.cell? a = some v := by
  obtain ⟨o, ho, hcl⟩ := cells_of_cell hc
  exact (World.cell?_of_block ((h.block _ o ho (.inr hcl)).trans ho.symm)).trans hc
theorem Calm.frozen (h : Calm B W W') {a : Addr} {v : Value} (hc : W.cell? a = some v) : W'.frozen? a = W.frozen? a := by
  obtain ⟨o, ho, hcl⟩ := cells_of_cell hc
  exact World.frozen?_of_block ((h.block _ o ho (.inr hcl)).trans ho.symm)
end

/-- What is said of worlds abides whatever is calm. -/
def Steady {β : Type} (B : Nat) (I : β → World → Prop) : Prop := ∀ s W W', I s W → Calm B W W' → I s W'
theorem Steady.ownFrom {β : Type} {B : Nat} {I : β → World → Prop} (h : Steady B I) : OwnFrom B I := fun s W W' _ hs hg hr => h s W W' hs (Calm.grown hg hr)

theorem KeepsOthers.of_below {W W' : World} (h : Below W.heap.size W W') : KeepsOthers W W' :=
  ⟨h.size, fun k _ hk _ => (h.block k (Array.getElem?_eq_some_iff.1 hk).1).trans hk⟩

/-- The blocks of T lie as they lay. -/
structure Keeps (T : Nat → Prop) (W W' : World) : Prop where
  size : W.heap.size ≤ W'.heap.size
  block : ∀ k, T k → k < W.heap.size → W'.heap[k]? = W.heap[k]?

section
variable {T : Nat → Prop} {W W' W'' : World}
theorem Keeps.refl (T : Nat → Prop) (W : World) : Keeps T W W := ⟨Nat.le_refl _, fun _ _ _ => rfl⟩
theorem Keeps.trans (h : Keeps T W W') (k : Keeps T W' W'') : Keeps T W W'' :=
  ⟨Nat.le_trans h.size k.size, fun i hi hl => (k.block i hi (Nat.lt_of_lt_of_le hl h.size)).trans (h.block i hi hl)⟩
theorem Keeps.alloc (h : Keeps T W W') (o : Obj) : Keeps T W (W'.alloc o) :=
  h.trans ⟨by simp, fun k _ hk => Below.heap_alloc _ _ _ hk⟩
theorem Keeps.drew (h : Keeps T W W') : Keeps T W W'.drew := ⟨h.size, h.block⟩
theorem Keeps.setCell (h : Keeps T W W') {p : Addr} (hp : ¬ T p.block) (u : Value) : Keeps T W (W'.setCell p u) :=
  h.trans ⟨by simp [World.setCell], fun k hk _ => Below.heap_setCell _ _ _ _ (fun e => hp (e ▸ hk))⟩
theorem Keeps.of_below (h : Below W.heap.size W W') : Keeps T W W' := ⟨h.size, fun k _ hk => h.block k hk⟩
theorem Keeps.below (h : Keeps T W W') (k : Below W'.heap.size W' W'') : Keeps T W W'' := h.trans (Keeps.of_below k)
theorem Keeps.cell (h : Keeps T W W') {a : Addr} {v : Value} (hT : T a.block) (hc : W.cell? a = some v) : W'.cell? a = some v := by
  obtain ⟨o, ho, _⟩ := cells_of_cell hc
  exact (World.cell?_of_block (h.block _ hT (Array.getElem?_eq_some_iff.1 ho).1)).trans hc
theorem Keeps.holds {g : Nat} {t : TypeId} {cs : Array Value} (h : Keeps T W W') (hT : T g) (hc : Holds W g t cs) : Holds W' g t cs := (h.block g hT hc.lt).trans hc
end

/-! The same laws, the side condition first, the address written out: for the closing lines of walks. -/
theorem holds_new {w : World} {t : TypeId} {cs : Array Value} {n : Nat} (h : n = w.heap.size) : Holds (w.alloc (.cells cs t)) n t cs := Holds.new_at h
theorem holds_set {w : World} {g i : Nat} {t : TypeId} {cs : Array Value} {u : Value} (h : Holds w g t cs) : Holds (w.setCell ⟨g, i, none⟩ u) g t (cs.setIfInBounds i u) := h.set i u
theorem holds_far {w : World} {g b i : Nat} {s : Option Nat} {t : TypeId} {cs : Array Value} {u : Value} (hp : g ≠ b) (h : Holds w g t cs) : Holds (w.setCell ⟨b, i, s⟩ u) g t cs := h.far (p := ⟨b, i, s⟩) hp u
theorem below_alloc {B : Nat} {a w : World} {o : Obj} (hB : B ≤ w.heap.size) (h : Below B a w) : Below B a (w.alloc o) := h.alloc hB o
theorem below_set {B b i : Nat} {s : Option Nat} {a w : World} {u : Value} (hp : B ≤ b) (h : Below B a w) : Below B a (w.setCell ⟨b, i, s⟩ u) := h.setCell (p := ⟨b, i, s⟩) hp u
theorem keeps_set {T : Nat → Prop} {b i : Nat} {s : Option Nat} {a w : World} {u : Value} (hp : ¬ T b) (h : Keeps T a w) : Keeps T a (w.setCell ⟨b, i, s⟩ u) := h.setCell (p := ⟨b, i, s⟩) hp u

theorem keeps_deferred {W W' : World} {D : Nat} {x : Option (List Deferred)} (h : KeepsOthers W W') (hD : W.heap[D]? = some (.deferred x)) : W'.heap[D]? = some (.deferred x) := h.same _ _ hD rfl

/-- How a round may be left. -/
def roundEnd {α : Type} (T : Nat → Prop) (I : List α → World → Prop) (Ix : Code → List α → World → Prop) (xs : List α) (W : World) : Exit → Act → World → Prop
  | .normal, _, W' => KeepsOthers W W' ∧ Keeps T W W' ∧ I xs W'
  | .ret, _, W' => KeepsOthers W W' ∧ Ix .ret xs W'
  | .exit id, _, W' => KeepsOthers W W' ∧ Ix (.exit id) xs W'
  | .goto t, _, W' => KeepsOthers W W' ∧ Ix (.goto t) xs W'
  | .panic _, _, _ => False
  | .outgrown, _, _ => False

/-- What is owed when a round's assignment is done, the body not yet begun. -/
def Started {α : Type} (P : Program) (n B N : Nat) (T : Nat → Prop) (I : List α → World → Prop) (Ix : Code → List α → World → Prop) (body : Code) (pre : List α) (x : α) (W : World) (a' : Act) (W' : World) : Prop :=
  KeepsOthers W W' ∧ Keeps T W W' ∧ I pre W' ∧
    ∀ (W2 : World) (l2 : Nat) (pre2 : List α), Calm B W' W2 → I pre2 W2 → pre2.length < N → B ≤ l2 → (∃ r, W2.heap[l2]? = some (.loop r)) →
      body.wpIn (Fence.wide.inRound l2) (n - 1 - 1) P (roundEnd T I Ix (pre2 ++ [x]) W2) a' W2

/-- A mark of a range over a function, among an activation's deferred calls. -/
def markOf (D : Nat) : Deferred := { target := .collected D, args := #[] }

/-- A RANGE OVER A FUNCTION at the wide fence: the iterator by its contract; one walk of the assignment and the body. -/
theorem range_law {α : Type} {P : Program} {n : Nat} {g : Operand} {ps : Array Tmp} {assign body : Code} {Q : Exit → Act → World → Prop} {a : Act} {w : World} (h1 : 1 ≤ n)
    {gf : Nat} {lb : Array Value} (hg : a.eval g = .func (.func gf) #[] lb) (eg : ∀ args w, (callFunc gf args).run P w = .ok (.enter gf args) w)
    {encs : α → Array Value} {T : Nat → Prop} {S Sp : List α → Prop} {N : Nat} {w0 : World} (hseq : SeqStopsK Fence.wide (n - 1) P gf lb encs (Keeps T) S Sp N w0) (hb0 : Below w0.heap.size w0 w) (hT : ∀ k, T k → k < w.heap.size)
    (hps : ∀ x, (encs x).size = ps.size)
    (I : List α → World → Prop) (Ix : Code → List α → World → Prop) (hI : Steady w.heap.size I) (hIx : ∀ c, Steady w.heap.size (Ix c)) (h0 : I [] w)
    (hround : ∀ (l : Nat) (pre : List α) (x : α) (W : World), I pre W →
      assign.wpIn (Fence.wide.inRound l) (n - 1 - 1) P (Exit.then (Started P n w.heap.size N T I Ix body pre x W) (fun _ _ _ => False))
        { tmps := (ps.zip (encs x)).foldl (fun t (p, v) => t.setIfInBounds p v) a.tmps, defers := [] } W)
    (hdone : ∀ (D : Nat) (xs : List α) (W : World), w.heap.size ≤ D → S xs → I xs W → W.heap[D]? = some (.deferred (some [])) → Q .normal { a with defers := markOf D :: a.defers } W)
    (hstop : ∀ (D : Nat) (c : Code) (pre : List α) (W : World), w.heap.size ≤ D → Sp pre → Ix c pre W → W.heap[D]? = some (.deferred (some [])) → c.wpIn Fence.wide n P Q { a with defers := markOf D :: a.defers } W) :
    (Code.rangeFunc g ps assign body).wpIn Fence.wide n P Q a w := by
  refine wpIn_rangeFunc_ownH (F := Fence.wide) rfl h1 hg trivial eg hseq Keeps.trans (fun W l o o' hl ho _ _ => ⟨by simp, fun k hk _ => World.putObj_heap_other (by have := hT k hk; omega)⟩) hb0 hps I Ix hI.ownFrom (fun c => (hIx c).ownFrom) h0
    (fun x a' W => ∀ (W2 : World) (l2 : Nat) (pre2 : List α), Calm w.heap.size W W2 → I pre2 W2 → pre2.length < N → w.heap.size ≤ l2 → (∃ r, W2.heap[l2]? = some (.loop r)) →
        body.wpIn (Fence.wide.inRound l2) (n - 1 - 1) P (roundEnd T I Ix (pre2 ++ [x]) W2) a' W2)
    (fun x a' => Steady.ownFrom (fun _ W W' h hc W2 l2 pre2 hc2 => h W2 l2 pre2 (hc.trans hc2)))
    (fun l pre x W K hi hK => ?_) (fun l pre x a' W hl hr hi hax hlen => ?_) hdone hstop
  · refine wpIn_mono (hround l pre x W hi) ?_
    intro e a' W' hq
    cases e with
    | normal => exact hK a' W' (hq.1.from _) hq.2.1 hq.2.2.1 hq.2.2.2
    | _ => exact hq
  · refine wpIn_mono (hax W l pre (Calm.refl _ _) hi hlen hl hr) ?_
    intro e a' W' hq
    cases e with
    | normal => exact ⟨hq.1.from _, hq.2.1, hq.2.2⟩
    | ret => exact ⟨hq.1.from _, hq.2⟩
    | exit id => exact ⟨hq.1.from _, hq.2⟩
    | goto t => exact ⟨hq.1.from _, hq.2⟩
    | panic c => exact hq
    | outgrown => exact hq

/-- The marks that an activation bears: each its own block from B on, shut when it leaves. -/
def Marks (B : Nat) (W : World) (Ds : List Nat) : Prop := Ds.Nodup ∧ ∀ D ∈ Ds, B ≤ D ∧ W.heap[D]? = some (.deferred (some []))

theorem leaves_marks {P : Program} {n : Nat} {fn : Func} {tmps : Array Value} {R : Ending → World → Prop} {B : Nat} (Ds : List Nat) : ∀ (W : World), Marks B W Ds →
    (∀ W', Calm B W W' → ∃ v, (results fn tmps).run P W' = .ok v W' ∧ R (.returned v) W') → LeavesInM Fence.wide n P fn tmps R (Ds.map markOf) .returning W := by
  induction Ds with
  | nil => exact fun W _ h => h W (Calm.refl _ _)
  | cons D Ds ih =>
    intro W hm h
    obtain ⟨hB, hD⟩ := hm.2 D (by simp)
    have hnd := List.nodup_cons.1 hm.1
    refine ⟨by simp, .inl ⟨D, _, rfl, run_takeDeferred hD, ih _ ⟨hnd.2, fun E hE => ?_⟩ (fun W' hc => h W' ((Calm.putObj _ hB hD rfl).trans hc))⟩⟩
    obtain ⟨hB', hE'⟩ := hm.2 E (by simp [hE])
    exact ⟨hB', (World.putObj_heap_other (fun e => by subst e; exact hnd.1 hE)).trans hE'⟩

end Go.Proofs.YtfmdmeokbbpmlaaGreat

namespace Go.Proofs.YtfmdmeokbbpmlaaGreat
open Go.RowKit Go.Shelf

/-- The slice value v of n elements, each of size cells, reads as the cells cs; they lie in a block of T. -/
def Rd (w : World) (T : Nat → Prop) (size : Nat) (v : Value) (n : Nat) (cs : List Value) : Prop :=
  cs.length = n * size ∧ ∃ A c, v = .slice A n c ∧ n ≤ c ∧ c ≤ maxLen ∧ (0 < cs.length → ∃ b off, A = some ⟨b, off, none⟩ ∧ T b ∧ ∀ j u, cs[j]? = some u → w.cell? ⟨b, off + j, none⟩ = some u)

section
variable {w w' : World} {T T' : Nat → Prop} {size n : Nat} {v : Value} {cs : List Value}
theorem Rd.mono (h : Rd w T size v n cs) (hT : ∀ k, T k → T' k) : Rd w T' size v n cs := by
  obtain ⟨hl, A, c, hv, h1, h2, h3⟩ := h
  exact ⟨hl, A, c, hv, h1, h2, fun h0 => by obtain ⟨b, off, e, hb, hc⟩ := h3 h0; exact ⟨b, off, e, hT b hb, hc⟩⟩
theorem Rd.keeps (h : Rd w T size v n cs) (hk : Keeps T w w') : Rd w' T size v n cs := by
  obtain ⟨hl, A, c, hv, h1, h2, h3⟩ := h
  exact ⟨hl, A, c, hv, h1, h2, fun h0 => by obtain ⟨b, off, e, hb, hc⟩ := h3 h0; exact ⟨b, off, e, hb, fun j u hu => hk.cell (a := ⟨b, off + j, none⟩) hb (hc j u hu)⟩⟩
theorem Rd.below {B : Nat} (h : Rd w T size v n cs) (hb : Below B w w') (hT : ∀ k, T k → k < B) : Rd w' T size v n cs :=
  h.keeps ⟨hb.size, fun k hk _ => hb.block k (hT k hk)⟩
theorem Rd.calm {B : Nat} (h : Rd w T size v n cs) (hc : Calm B w w') : Rd w' T size v n cs := by
  obtain ⟨hl, A, c, hv, h1, h2, h3⟩ := h
  exact ⟨hl, A, c, hv, h1, h2, fun h0 => by obtain ⟨b, off, e, hb, hcell⟩ := h3 h0; exact ⟨b, off, e, hb, fun j u hu => hc.cell (hcell j u hu)⟩⟩
theorem Rd.alloc (h : Rd w T size v n cs) (o : Obj) : Rd (w.alloc o) T size v n cs := h.keeps ((Keeps.refl _ _).alloc o)
theorem Rd.drew (h : Rd w T size v n cs) : Rd w.drew T size v n cs := h
theorem Rd.set (h : Rd w T size v n cs) {p : Addr} (hp : ¬ T p.block) (u : Value) : Rd (w.setCell p u) T size v n cs := h.keeps ((Keeps.refl _ _).setCell hp u)
theorem Rd.nil (w : World) (T : Nat → Prop) (size : Nat) : Rd w T size (.slice none 0 0) 0 [] := ⟨by simp, none, 0, rfl, Nat.le_refl _, by simp [maxLen], fun h => by simp at h⟩
theorem Rd.fresh {o : Nat} {e : TypeId} {c : Nat} (hl : cs.length = n * size) (hn : n ≤ c) (hc : c ≤ maxLen) (hT : T w.heap.size) (ho : o = w.heap.size) :
    Rd (w.alloc (.cells cs.toArray e)) T size (.slice (some ⟨o, 0, none⟩) n c) n cs := by
  subst ho
  refine ⟨hl, _, c, rfl, hn, hc, fun _ => ⟨_, 0, rfl, hT, fun j u hu => ?_⟩⟩
  rw [Nat.zero_add, (Holds.new w e cs.toArray).cell j]
  simpa using hu
end

/-- A slice that the call may append to: its own row; or one without room, wherever it points. -/
def Mine (w : World) (base : Nat) (e : TypeId) (size : Nat) (v : Value) (n : Nat) (xs : List Value) : Prop :=
  w.ownsRow base e size v n xs ∨ (n = 0 ∧ xs = [] ∧ ∃ S, v = .slice S 0 0)

section
variable {w w' : World} {base : Nat} {e : TypeId} {size n : Nat} {v : Value} {xs : List Value}
theorem Mine.len (h : Mine w base e size v n xs) : xs.length = n * size := by
  rcases h with h | ⟨rfl, rfl, _⟩
  · exact h.1
  · simp
theorem Mine.nil (w : World) (base : Nat) (e : TypeId) (size : Nat) : Mine w base e size (.slice none 0 0) 0 [] := .inr ⟨rfl, rfl, none, rfl⟩
theorem Mine.own (h : Mine w base e size v n xs) (hn : 0 < n) : w.ownsRow base e size v n xs := by
  rcases h with h | ⟨rfl, _⟩
  · exact h
  · omega
/-- Its own block lies as it lay: it is still its own. -/
theorem Mine.keep (h : Mine w base e size v n xs) (hk : ∀ g, v.ownBlock = some g → base ≤ g → g < w.heap.size → w'.heap[g]? = w.heap[g]?) : Mine w' base e size v n xs := by
  rcases h with ⟨h1, h2⟩ | h
  · refine .inl ⟨h1, ?_⟩
    rcases h2 with h2 | ⟨g, cap, cur, rfl, hb, hg, r⟩
    · exact .inl h2
    · exact .inr ⟨g, cap, cur, rfl, hb, by rw [hk g rfl hb (Array.getElem?_eq_some_iff.1 hg).1]; exact hg, r⟩
  · exact .inr h
theorem Mine.calm {B : Nat} (h : Mine w base e size v n xs) (hc : Calm B w w') : Mine w' base e size v n xs := by
  rcases h with ⟨h1, h2⟩ | h
  · refine .inl ⟨h1, ?_⟩
    rcases h2 with h2 | ⟨g, cap, cur, rfl, hb, hg, r⟩
    · exact .inl h2
    · exact .inr ⟨g, cap, cur, rfl, hb, hc.block g _ hg (.inr rfl), r⟩
  · exact .inr h
theorem Mine.alloc (h : Mine w base e size v n xs) (o : Obj) : Mine (w.alloc o) base e size v n xs := h.keep fun _ _ _ hg => Below.heap_alloc _ _ _ hg
theorem Mine.drew (h : Mine w base e size v n xs) : Mine w.drew base e size v n xs := h
theorem Mine.below (h : Mine w base e size v n xs) (hb : Below w.heap.size w w') : Mine w' base e size v n xs := h.keep fun _ _ _ hg => hb.block _ hg
theorem Mine.set (h : Mine w base e size v n xs) {p : Addr} (hp : v.ownBlock ≠ some p.block) (u : Value) : Mine (w.setCell p u) base e size v n xs :=
  h.keep fun _ hg _ _ => Below.heap_setCell _ _ _ _ (fun e => hp (by rw [hg, e]))
/-- What it reads as. -/
theorem Mine.rd {T : Nat → Prop} (h : Mine w base e size v n xs) (hT : ∀ g, v.ownBlock = some g → base ≤ g → g < w.heap.size → T g) : Rd w T size v n xs := by
  rcases h with h | ⟨rfl, rfl, S, rfl⟩
  · refine ⟨h.1, ?_⟩
    rcases h.2 with ⟨rfl, rfl⟩ | ⟨g, cap, cur, rfl, hb, hg, h1, h2, h3, h4⟩
    · have hx : xs = [] := List.eq_nil_of_length_eq_zero (by simpa using h.1)
      subst hx
      exact ⟨none, 0, rfl, Nat.le_refl _, by simp [maxLen], fun h => by simp at h⟩
    · refine ⟨_, cap, rfl, h1, h2, fun _ => ⟨g, 0, rfl, hT g rfl hb (Array.getElem?_eq_some_iff.1 hg).1, fun j u hu => ?_⟩⟩
      have := h.cells (g := g) rfl j u hu
      rwa [show ((⟨g, 0, none⟩ : Addr).add j) = ⟨g, 0 + j, none⟩ by unfold Addr.add; split <;> simp_all] at this
  · exact ⟨by simp, S, 0, rfl, Nat.le_refl _, by simp [maxLen], fun h => by simp at h⟩
theorem Mine.value (h : Mine w base e size v n xs) : ∃ A c, v = .slice A n c := by
  rcases h with h | ⟨rfl, rfl, S, rfl⟩
  · rcases h.2 with ⟨rfl, rfl⟩ | ⟨g, cap, cur, rfl, _⟩
    · exact ⟨_, _, rfl⟩
    · exact ⟨_, _, rfl⟩
  · exact ⟨_, _, rfl⟩
end

theorem addr_add (b off j : Nat) : (⟨b, off, none⟩ : Addr).add j = ⟨b, off + j, none⟩ := by unfold Addr.add; split <;> simp_all

section
variable {P : Program} {w : World}

/-- What an append leaves behind. -/
structure Appended (w : World) (base : Nat) (e : TypeId) (size : Nat) (v : Value) (n : Nat) (xs : List Value) (v' : Value) (w' : World) : Prop where
  mine : Mine w' base e size v' n xs
  below : Below base w w'
  keeps : Keeps (fun k => v.ownBlock ≠ some k) w w'
  at_ : v'.ownBlock = v.ownBlock ∨ ∃ g, v'.ownBlock = some g ∧ w.heap.size ≤ g ∧ g < w'.heap.size
  others : KeepsOthers w w'

theorem run_append_rd (base : Nat) (t ty e : TypeId) (i : TypeInfo) (z : Value) (size bytes : Nat) (ht : P.underlying t = some (.slice e)) (hi : P.info? e = some i) (hz : i.zero = some z)
    (hsize : i.size = size) (hby : i.bytes = bytes) (hzs : z.cells.size = size) (hsz : 0 < size)
    (v : Value) (n : Nat) (xs : List Value) (hm : Mine w base e size v n xs) {T : Nat → Prop} (x : Value) (m : Nat) (news : List Value) (hx : Rd w T size x m news) (h1 : ∀ u ∈ news, u.oneCell' = true)
    (hbytes : (n + m) * bytes ≤ 140737488355328) (hb1 : 0 < bytes) (hbase : base ≤ w.heap.size) :
    ∃ v' w', (Builtin.append_ #[t, t] ty #[v, x]).run P w = .ok v' w' ∧ Appended w base e size v (n + m) (xs ++ news) v' w' := by
  have h63 : n + m ≤ maxLen := by
    have : n + m ≤ (n + m) * bytes := Nat.le_mul_of_pos_right _ hb1
    simp only [maxLen]; omega
  obtain ⟨hl, A, c, rfl, hc1, hc2, hcells⟩ := hx
  by_cases hm0 : m = 0
  · subst hm0
    have hnews : news = [] := List.eq_nil_of_length_eq_zero (by simpa using hl)
    subst hnews
    have hrun : ∃ v0, v = v0 ∧ (Builtin.append_ #[t, t] ty #[v, .slice A 0 c]).run P w = .ok v w := by
      refine ⟨v, rfl, ?_⟩
      have hf : ∀ A : Option Addr, (Builtin.firstCells i.size 0 (.slice A 0 c)).run P w = .ok #[] w := by
        intro A
        cases A with
        | none => simp [Builtin.firstCells]
        | some a => exact run_firstCells_some (P := P) w i.size 0 a 0 c [] (by simp) (by simp)
      rcases hm with h | ⟨rfl, rfl, S, rfl⟩
      · rcases h.2 with ⟨rfl, rfl⟩ | ⟨g, cap, cur, rfl, _, _, hnc, _⟩
        · simp [Builtin.append_, run_underlying ht, sizeOf, typeInfo, hi, Builtin.lenOf, hf]
        · simp [Builtin.append_, run_underlying ht, sizeOf, typeInfo, hi, Builtin.lenOf, hnc, hf, storeCells]
      · cases S with
        | none => simp [Builtin.append_, run_underlying ht, sizeOf, typeInfo, hi, Builtin.lenOf, hf]
        | some a => simp [Builtin.append_, run_underlying ht, sizeOf, typeInfo, hi, Builtin.lenOf, hf, storeCells]
    obtain ⟨_, _, hrun⟩ := hrun
    exact ⟨v, w, hrun, by simpa using hm, Below.refl _ _, Keeps.refl _ _, .inl rfl, KeepsOthers.refl _⟩
  · have hpos : 0 < news.length := by
      rw [hl]
      exact Nat.mul_pos (by omega) hsz
    obtain ⟨b, off, rfl, _, hcell⟩ := hcells hpos
    have hnews : ∀ j u, news[j]? = some u → w.cell? ((⟨b, off, none⟩ : Addr).add j) = some u := by intro j u hu; rw [addr_add]; exact hcell j u hu
    rcases hm with h | ⟨rfl, rfl, S, rfl⟩
    · obtain ⟨v', w', hrun, h2, h3, _, h5⟩ := run_append_own_at (P := P) w base t ty e i z size bytes ht hi hz hsize hby hzs hsz v n xs h ⟨b, off, none⟩ m c news hl hnews h1 h63 hbytes hbase
      refine ⟨v', w', hrun, .inl h2, (Below.refl base w).grown h3 hbase (fun k hk => (h.lt k hk).1), ⟨h3.size, fun k hk hl => h3.block k hl (fun e => hk e.symm)⟩, ?_, KeepsOthers.of_grownBy h3 ?_⟩
      · rcases h5 with h5 | h5
        · exact .inl h5
        · exact .inr ⟨_, h5, Nat.le_refl _, (h2.lt _ h5).2⟩
      · intro j o hj ho
        rcases h.2 with ⟨rfl, _⟩ | ⟨g, cap, cur, rfl, _, hg, _⟩
        · simp [Value.ownBlock] at hj
        · simp [Value.ownBlock] at hj
          subst hj
          rw [hg] at ho; cases ho; rfl
    · cases S with
      | none =>
        obtain ⟨v', w', hrun, h2, h3, _, h5⟩ := run_append_own_at (P := P) w base t ty e i z size bytes ht hi hz hsize hby hzs hsz (.slice none 0 0) 0 [] (World.ownsRow_nil w base e size) ⟨b, off, none⟩ m c news hl hnews h1 h63 hbytes hbase
        refine ⟨v', w', hrun, .inl h2, (Below.refl base w).grown h3 hbase (fun k hk => by simp [Value.ownBlock] at hk), ⟨h3.size, fun k _ hl => h3.block k hl (by simp [Value.ownBlock])⟩, ?_, KeepsOthers.of_grownBy h3 (fun j o hj => by simp [Value.ownBlock] at hj)⟩
        rcases h5 with h5 | h5
        · exact .inl h5
        · exact .inr ⟨_, h5, Nat.le_refl _, (h2.lt _ h5).2⟩
      | some a =>
        obtain ⟨v', w', hrun, h2, h3⟩ := run_append_arg_grows (P := P) w t ty e i z size bytes ht hi hz hsize hby hzs hsz a 0 0 [] (by simp) (by simp) ⟨b, off, none⟩ m c news hl hnews (by omega) h63 hbytes
        have h2' : w'.ownsRow base e size v' (0 + m) ([] ++ news) := by
          refine ⟨h2.1, ?_⟩
          rcases h2.2 with h | ⟨g, cap, cur, hv, hb, r⟩
          · exact .inl h
          · exact .inr ⟨g, cap, cur, hv, Nat.le_trans hbase hb, r⟩
        refine ⟨v', w', hrun, .inl h2', (Below.refl base w).grown h3 hbase (fun k hk => by cases hk), ⟨h3.size, fun k _ hl => h3.block k hl (by simp)⟩, ?_, KeepsOthers.of_grownBy h3 (fun j o hj => by cases hj)⟩
        rcases h2.2 with ⟨_, h0⟩ | ⟨g, cap, cur, hv, hb, hg, _⟩
        · omega
        · exact .inr ⟨g, by rw [hv]; rfl, hb, (Array.getElem?_eq_some_iff.1 hg).1⟩

theorem wp_append_rd {o : Oper} {a : Act} {K : Act → World → Prop} {Q : Exit → Act → World → Prop} (s x : Operand) (t : TypeId)
    (ho : o.op = .call { callee := .builtin .append, args := #[s, x], argTypes := #[t, t] })
    (base : Nat) (e : TypeId) (i : TypeInfo) (z : Value) (size bytes : Nat) (ht : P.underlying t = some (.slice e)) (hi : P.info? e = some i) (hz : i.zero = some z)
    (hsize : i.size = size) (hby : i.bytes = bytes) (hzs : z.cells.size = size) (hsz : 0 < size)
    (v : Value) (n : Nat) (xs : List Value) (hs : a.eval s = v) (hm : Mine w base e size v n xs) {T : Nat → Prop} (y : Value) (m : Nat) (news : List Value) (hy : a.eval x = y) (hx : Rd w T size y m news) (h1 : ∀ u ∈ news, u.oneCell' = true)
    (hbytes : (n + m) * bytes ≤ 140737488355328) (hb1 : 0 < bytes) (hbase : base ≤ w.heap.size)
    (h : ∀ v' w', Appended w base e size v (n + m) (xs ++ news) v' w' → K (a.put o.dst v') w') : o.wp P a w K Q := by
  obtain ⟨v', w', hrun, h2⟩ := run_append_rd (P := P) (w := w) base t o.type e i z size bytes ht hi hz hsize hby hzs hsz v n xs hm y m news hx h1 hbytes hb1 hbase
  unfold Oper.wp execOp
  simp only [ho, resolve, invoke, builtin, Sem.run_bind, Sem.run_pure, Result.andThen_ok, List.map_toArray, List.map_cons, List.map_nil, hs, hy, hrun]
  exact h v' w' h2

/-- APPEND, at the operation, in a plain walk. -/
theorem wpList_append_rd {ops : Array Oper} {rest : List Oper} {o : Oper} {a : Act} {Q : Exit → Act → World → Prop} (hgd : o.guard = none) (s x : Operand) (t : TypeId)
    (ho : o.op = .call { callee := .builtin .append, args := #[s, x], argTypes := #[t, t] })
    (base : Nat) (e : TypeId) (i : TypeInfo) (z : Value) (size bytes : Nat) (ht : P.underlying t = some (.slice e)) (hi : P.info? e = some i) (hz : i.zero = some z)
    (hsize : i.size = size) (hby : i.bytes = bytes) (hzs : z.cells.size = size) (hsz : 0 < size)
    (v : Value) (n : Nat) (xs : List Value) (hs : a.eval s = v) (hm : Mine w base e size v n xs) {T : Nat → Prop} (y : Value) (m : Nat) (news : List Value) (hy : a.eval x = y) (hx : Rd w T size y m news) (h1 : ∀ u ∈ news, u.oneCell' = true)
    (hbytes : (n + m) * bytes ≤ 140737488355328) (hb1 : 0 < bytes) (hbase : base ≤ w.heap.size)
    (h : ∀ v' w', Appended w base e size v (n + m) (xs ++ news) v' w' → wpList P ops Q rest (a.put o.dst v') w') : wpList P ops Q (o :: rest) a w :=
  wpList_plain hgd fun _ hK => wp_append_rd s x t ho base e i z size bytes ht hi hz hsize hby hzs hsz v n xs hs hm y m news hy hx h1 hbytes hb1 hbase fun v' w' h2 => hK _ _ (h v' w' h2)

/-- APPEND, inside a fence (in a round too). -/
theorem wpListIn_append_rd {F : Fence} {q : Nat} {ops : Array Oper} {rest : List Oper} {o : Oper} {a : Act} {Q : Exit → Act → World → Prop} (hgd : o.guard = none) (s x : Operand) (t : TypeId)
    (ho : o.op = .call { callee := .builtin .append, args := #[s, x], argTypes := #[t, t] })
    (base : Nat) (e : TypeId) (i : TypeInfo) (z : Value) (size bytes : Nat) (ht : P.underlying t = some (.slice e)) (hi : P.info? e = some i) (hz : i.zero = some z)
    (hsize : i.size = size) (hby : i.bytes = bytes) (hzs : z.cells.size = size) (hsz : 0 < size)
    (v : Value) (n : Nat) (xs : List Value) (hs : a.eval s = v) (hm : Mine w base e size v n xs) {T : Nat → Prop} (y : Value) (m : Nat) (news : List Value) (hy : a.eval x = y) (hx : Rd w T size y m news) (h1 : ∀ u ∈ news, u.oneCell' = true)
    (hbytes : (n + m) * bytes ≤ 140737488355328) (hb1 : 0 < bytes) (hbase : base ≤ w.heap.size)
    (h : ∀ v' w', Appended w base e size v (n + m) (xs ++ news) v' w' → wpListIn F q P ops Q rest (a.put o.dst v') w') : wpListIn F q P ops Q (o :: rest) a w := by
  refine wpListIn_plain hgd fun K hK' => ?_
  obtain ⟨v', w', hrun, h2⟩ := run_append_rd (P := P) (w := w) base t o.type e i z size bytes ht hi hz hsize hby hzs hsz v n xs hm y m news hx h1 hbytes hb1 hbase
  unfold Oper.wpIn
  refine ⟨?_, ?_⟩
  · simp [Oper.about, ho, resolve, Target.leads, Sem.run_pure]
  · rw [Oper.semAt_plain F _ _ (by rw [ho]; intro c hc'; cases hc')]
    simp [execOp, ho, resolve, invoke, builtin, hs, hy, hrun, Result.andThen]
    exact hK' _ _ (h v' w' h2)
end
end Go.Proofs.YtfmdmeokbbpmlaaGreat

namespace Go.Proofs.YtfmdmeokbbpmlaaGreat
open Go.RowKit Go.Shelf

/-- All that lies in w. -/
def Old (w : World) : Nat → Prop := fun k => k < w.heap.size
theorem old_lt {w : World} : ∀ k, Old w k → k < w.heap.size := fun _ h => h

theorem flat_at {α : Type} (f : α → List Value) (k : Nat) (hf : ∀ x, (f x).length = k) : ∀ (l : List α) (i j : Nat) (x : α), l[i]? = some x → j < k → (l.flatMap f)[i * k + j]? = (f x)[j]? := by
  intro l
  induction l with
  | nil => intro i j x h; simp at h
  | cons y l ih =>
    intro i j x h hj
    cases i with
    | zero =>
      simp at h; subst h
      rw [List.flatMap_cons, Nat.zero_mul, Nat.zero_add, List.getElem?_append_left (by rw [hf]; exact hj)]
    | succ i =>
      simp at h
      rw [List.flatMap_cons, List.getElem?_append_right (by rw [hf, Nat.add_mul]; omega), hf, show (i + 1) * k + j - k = i * k + j by rw [Nat.add_mul]; omega]
      exact ih i j x h hj
theorem flat_len {α : Type} (f : α → List Value) (k : Nat) (hf : ∀ x, (f x).length = k) (l : List α) : (l.flatMap f).length = l.length * k := by
  induction l with
  | nil => simp
  | cons y l ih => rw [List.flatMap_cons, List.length_append, hf, ih, List.length_cons, Nat.add_mul]; omega

theorem Rd.old {w w' : World} {size n : Nat} {v : Value} {cs : List Value} (h : Rd w (Old w) size v n cs) (hb : Below w.heap.size w w') : Rd w' (Old w') size v n cs :=
  (h.below hb (fun _ h => h)).mono (fun _ hk => Nat.lt_of_lt_of_le hk hb.size)
theorem Rd.val {w : World} {T : Nat → Prop} {size n : Nat} {v : Value} {cs : List Value} (h : Rd w T size v n cs) : ∃ A c, v = .slice A n c ∧ n ≤ c ∧ c ≤ maxLen := by
  obtain ⟨_, A, c, hv, h1, h2, _⟩ := h
  exact ⟨A, c, hv, h1, h2⟩
/-- The cells of an element. -/
theorem Rd.flat_at {α : Type} {w : World} {T : Nat → Prop} {k : Nat} {A : Option Addr} {n c : Nat} {f : α → List Value} {l : List α} (h : Rd w T k (.slice A n c) n (l.flatMap f)) (hf : ∀ x, (f x).length = k) (hk : 0 < k) {i : Nat} {x : α} (hx : l[i]? = some x) :
    ∃ b off, A = some ⟨b, off, none⟩ ∧ T b ∧ ∀ j u, (f x)[j]? = some u → w.cell? ⟨b, off + i * k + j, none⟩ = some u := by
  obtain ⟨hl, A', c', hv, _, _, h4⟩ := h
  simp only [Value.slice.injEq] at hv
  obtain ⟨rfl, _, _⟩ := hv
  have hi := (List.getElem?_eq_some_iff.1 hx).1
  have h0 : 0 < (l.flatMap f).length := by
    rw [flat_len f k hf]; exact Nat.mul_pos (by omega) hk
  obtain ⟨b, off, rfl, hT, hc⟩ := h4 h0
  refine ⟨b, off, rfl, hT, fun j u hu => ?_⟩
  have hj : j < k := by rw [← hf x]; exact (List.getElem?_eq_some_iff.1 hu).1
  have := Go.Proofs.YtfmdmeokbbpmlaaGreat.flat_at f k hf l i j x hx hj
  rw [Nat.add_assoc]
  exact hc _ u (by rw [this]; exact hu)

/-- Records of which one cell is a slice: their cells, and what lies in that slice. -/
structure Rec (α : Type) where
  k : Nat
  cells : α → Value → List Value
  len : ∀ x l, (cells x l).length = k
  pos : 0 < k
  kin : Nat
  m : α → Nat
  inner : α → List Value
  one : ∀ x l, l.oneCell' = true → ∀ u ∈ cells x l, u.oneCell' = true

section
variable {α : Type} (R : Rec α)
def Rec.all (xs : List α) (ls : List Value) : List Value := (xs.zip ls).flatMap fun p => R.cells p.1 p.2
/-- v reads as the records xs. -/
def Recs (w : World) (T : Nat → Prop) (v : Value) (xs : List α) : Prop :=
  ∃ ls : List Value, ls.length = xs.length ∧ Rd w T R.k v xs.length (R.all xs ls) ∧ ∀ (i : Nat) (x : α) (l : Value), xs[i]? = some x → ls[i]? = some l → Rd w T R.kin l (R.m x) (R.inner x)
end

section
variable {α : Type} {R : Rec α} {w w' : World} {T T' : Nat → Prop} {v : Value} {xs : List α}
theorem Recs.mono (h : Recs R w T v xs) (hT : ∀ k, T k → T' k) : Recs R w T' v xs := by
  obtain ⟨ls, h1, h2, h3⟩ := h
  exact ⟨ls, h1, h2.mono hT, fun i x l a b => (h3 i x l a b).mono hT⟩
theorem Recs.keeps (h : Recs R w T v xs) (hk : Keeps T w w') : Recs R w' T v xs := by
  obtain ⟨ls, h1, h2, h3⟩ := h
  exact ⟨ls, h1, h2.keeps hk, fun i x l a b => (h3 i x l a b).keeps hk⟩
theorem Recs.below {B : Nat} (h : Recs R w T v xs) (hb : Below B w w') (hT : ∀ k, T k → k < B) : Recs R w' T v xs := h.keeps ⟨hb.size, fun k hk _ => hb.block k (hT k hk)⟩
theorem Recs.alloc (h : Recs R w T v xs) (o : Obj) : Recs R (w.alloc o) T v xs := h.keeps ((Keeps.refl _ _).alloc o)
theorem Recs.calm {B : Nat} (h : Recs R w T v xs) (hc : Calm B w w') : Recs R w' T v xs := by
  obtain ⟨ls, h1, h2, h3⟩ := h
  exact ⟨ls, h1, h2.calm hc, fun i x l a b => (h3 i x l a b).calm hc⟩
theorem Recs.old (h : Recs R w (Old w) v xs) (hb : Below w.heap.size w w') : Recs R w' (Old w') v xs :=
  (h.below hb (fun _ h => h)).mono (fun _ hk => Nat.lt_of_lt_of_le hk hb.size)
theorem Recs.value (h : Recs R w T v xs) : ∃ A c, v = .slice A xs.length c ∧ xs.length ≤ c ∧ c ≤ maxLen := by
  obtain ⟨ls, _, h2, _⟩ := h
  exact h2.val
/-- An element: its cells, and its slice. -/
theorem Recs.at_ {A : Option Addr} {n c : Nat} (h : Recs R w T (.slice A n c) xs) {i : Nat} {x : α} (hx : xs[i]? = some x) :
    ∃ b off l, A = some ⟨b, off, none⟩ ∧ T b ∧ (∀ j u, (R.cells x l)[j]? = some u → w.cell? ⟨b, off + i * R.k + j, none⟩ = some u) ∧ Rd w T R.kin l (R.m x) (R.inner x) := by
  obtain ⟨ls, h1, h2, h3⟩ := h
  have hi := (List.getElem?_eq_some_iff.1 hx).1
  have hl : ls[i]? = some (ls[i]'(by omega)) := List.getElem?_eq_getElem _
  have hz : (xs.zip ls)[i]? = some (x, ls[i]'(by omega)) := by rw [List.getElem?_zip_eq_some]; exact ⟨hx, hl⟩
  obtain ⟨A', c', hv, _, _⟩ := h2.val
  simp only [Value.slice.injEq] at hv
  obtain ⟨rfl, rfl, rfl⟩ := hv
  obtain ⟨b, off, rfl, hT, hc⟩ := Rd.flat_at (f := fun p : α × Value => R.cells p.1 p.2) h2 (fun p => R.len p.1 p.2) R.pos hz
  exact ⟨b, off, _, rfl, hT, hc, h3 i x _ hx hl⟩
end
end Go.Proofs.YtfmdmeokbbpmlaaGreat

namespace Go.Proofs.YtfmdmeokbbpmlaaGreat
open Go.RowKit Go.Shelf

noncomputable def eqB {α : Type} (a b : α) : Bool := @decide (a = b) (Classical.propDecidable _)
theorem eqB_iff {α : Type} {a b : α} : eqB a b = true ↔ a = b := by unfold eqB; exact @decide_eq_true_iff _ (Classical.propDecidable _)
theorem eqB_true {α : Type} {a b : α} (h : a = b) : eqB a b = true := eqB_iff.2 h
theorem eqB_false {α : Type} {a b : α} (h : a ≠ b) : eqB a b = false := by rw [Bool.eq_false_iff]; exact fun e => h (eqB_iff.1 e)
theorem eqB_self {α : Type} (a : α) : eqB a a = true := eqB_true rfl
noncomputable def holdsB (p : Prop) : Bool := @decide p (Classical.propDecidable _)
theorem holdsB_iff {p : Prop} : holdsB p = true ↔ p := by unfold holdsB; exact @decide_eq_true_iff _ (Classical.propDecidable _)
theorem holdsB_true {p : Prop} (h : p) : holdsB p = true := holdsB_iff.2 h
theorem holdsB_false {p : Prop} (h : ¬ p) : holdsB p = false := by rw [Bool.eq_false_iff]; exact fun e => h (holdsB_iff.1 e)

theorem toList_inj {a b : ByteArray} (h : a.toList = b.toList) : a = b := by
  rw [ByteArray.toList_eq, ByteArray.toList_eq] at h
  cases a; cases b
  simp only [ByteArray.mk.injEq]
  exact Array.toList_inj.1 h
theorem strs_eql (a b : ByteArray) : (a.toList == b.toList) = eqB a b := by
  rw [Bool.eq_iff_iff, eqB_iff, beq_iff_eq]
  exact ⟨toList_inj, fun h => by rw [h]⟩
theorem list_ext_of {α : Type} {L M : List α} (hl : L.length = M.length) (h : ∀ k, k < L.length → L[k]? = M[k]?) : L = M := by
  apply List.ext_getElem?
  intro k
  by_cases hk : k < L.length
  · exact h k hk
  · rw [List.getElem?_eq_none (by omega), List.getElem?_eq_none (by omega)]

/-! ### Names -/
/-- What a sign may be in a name. -/
def partOf (c : Int) : Int := if 97 ≤ c ∧ c ≤ 122 ∨ 65 ≤ c ∧ c ≤ 90 ∨ c = 95 then 2 else if 48 ≤ c ∧ c ≤ 57 then 1 else 0
def okAt (c : Int) (i : Nat) : Prop := partOf c = 2 ∨ partOf c = 1 ∧ i ≠ 0
def IsName (s : ByteArray) : Prop := 1 ≤ s.size ∧ s.size ≤ 32 ∧ ∀ i (h : i < s.size), okAt ((s[i]'h).toNat : Int) i
noncomputable def nameB (s : ByteArray) : Bool := holdsB (IsName s)
theorem part_cases (c : Int) : (c < 48 ∧ partOf c = 0) ∨ (48 ≤ c ∧ c ≤ 57 ∧ partOf c = 1) ∨ (58 ≤ c ∧ c ≤ 64 ∧ partOf c = 0) ∨ (65 ≤ c ∧ c ≤ 90 ∧ partOf c = 2) ∨ (91 ≤ c ∧ c ≤ 94 ∧ partOf c = 0) ∨ (c = 95 ∧ partOf c = 2) ∨ (c = 96 ∧ partOf c = 0) ∨ (97 ≤ c ∧ c ≤ 122 ∧ partOf c = 2) ∨ (123 ≤ c ∧ partOf c = 0) := by
  unfold partOf
  rcases (show c < 48 ∨ 48 ≤ c by omega) with h | h
  · exact .inl ⟨h, by rw [if_neg (by omega), if_neg (by omega)]⟩
  rcases (show c < 58 ∨ 58 ≤ c by omega) with h2 | h2
  · exact .inr (.inl ⟨h, by omega, by rw [if_neg (by omega), if_pos (by omega)]⟩)
  rcases (show c < 65 ∨ 65 ≤ c by omega) with h3 | h3
  · exact .inr (.inr (.inl ⟨h2, by omega, by rw [if_neg (by omega), if_neg (by omega)]⟩))
  rcases (show c < 91 ∨ 91 ≤ c by omega) with h4 | h4
  · exact .inr (.inr (.inr (.inl ⟨h3, by omega, by rw [if_pos (by omega)]⟩)))
  rcases (show c < 95 ∨ 95 ≤ c by omega) with h5 | h5
  · exact .inr (.inr (.inr (.inr (.inl ⟨h4, by omega, by rw [if_neg (by omega), if_neg (by omega)]⟩))))
  rcases (show c < 96 ∨ 96 ≤ c by omega) with h6 | h6
  · exact .inr (.inr (.inr (.inr (.inr (.inl ⟨by omega, by rw [if_pos (by omega)]⟩)))))
  rcases (show c < 97 ∨ 97 ≤ c by omega) with h7 | h7
  · exact .inr (.inr (.inr (.inr (.inr (.inr (.inl ⟨by omega, by rw [if_neg (by omega), if_neg (by omega)]⟩))))))
  rcases (show c < 123 ∨ 123 ≤ c by omega) with h8 | h8
  · exact .inr (.inr (.inr (.inr (.inr (.inr (.inr (.inl ⟨h7, by omega, by rw [if_pos (by omega)]⟩)))))))
  · exact .inr (.inr (.inr (.inr (.inr (.inr (.inr (.inr ⟨h8, by rw [if_neg (by omega), if_neg (by omega)]⟩)))))))

set_option maxRecDepth 20000 in
theorem word_part (c : Int) (w : World) : Calls Tryz.prog 96 #[.int .i32 c] w fun r w' => r = .returned (.int .i64 (partOf c)) ∧ w = w' := by
  rcases part_cases c with ⟨h, e⟩ | ⟨h, h', e⟩ | ⟨h, h', e⟩ | ⟨h, h', e⟩ | ⟨h, h', e⟩ | ⟨h, e⟩ | ⟨h, e⟩ | ⟨h, h', e⟩ | ⟨h, e⟩
  all_goals
    have HE := hidden e
    rw [e]
    clear e
    try subst h
    try (have q : (c == 95) = false := by simp; omega)
    go_enter Tryz.func96, Tryz.ntmps96
    go_wp2
    go_ret
    exact ⟨rfl, rfl⟩

theorem name_bad {s : ByteArray} {i : Nat} (h : i < s.size) (hb : ¬ okAt ((s[i]'h).toNat : Int) i) : nameB s = false := holdsB_false fun hn => hb (hn.2.2 i h)

set_option maxRecDepth 20000 in
set_option maxHeartbeats 4000000 in
theorem ref_name (s : ByteArray) (w : World) (hs : s.size ≤ maxLen) : Calls Tryz.prog 34 #[.string s] w fun r w' => r = .returned (.bool (nameB s)) ∧ w = w' := by
  unfold maxLen at hs
  have HB : Hid (∀ (i : Nat) (h : i < s.size), ¬ okAt ((s[i]'h).toNat : Int) i → nameB s = false) := hidden (fun i h hb => name_bad h hb)
  have HG : Hid ((∀ i (h : i < s.size), okAt ((s[i]'h).toNat : Int) i) → nameB s = (decide (1 ≤ (s.size : Int)) && decide ((s.size : Int) ≤ 32))) := hidden (fun h => by
    rw [Bool.eq_iff_iff]
    unfold nameB
    rw [holdsB_iff]
    unfold IsName
    simp only [Bool.and_eq_true, decide_eq_true_eq]
    exact ⟨fun h => ⟨by omega, by omega⟩, fun h' => ⟨by omega, by omega, h⟩⟩)
  generalize nameB s = r at *
  go_enter Tryz.func34, Tryz.ntmps34
  go_wp2
  go_loop [3] (fun ii => ∃ k : Nat, k ≤ s.size ∧ ii = .int .i64 k ∧ Hid (∀ i (h : i < s.size), i < k → okAt ((s[i]'h).toNat : Int) i)) (fun ii => s.size - (intOf ii).toNat)
  case atStart => exact ⟨0, by omega, rfl, hidden (fun i h h' => by omega)⟩
  case round =>
    obtain ⟨k, hk, rfl, HO⟩ := hrel
    by_cases hlt : k < s.size
    · have HB2 := hidden (HB.out k hlt)
      have HO2 : Hid (okAt ((s[k]'hlt).toNat : Int) k → ∀ i (h : i < s.size), i < k + 1 → okAt ((s[i]'h).toNat : Int) i) := hidden (fun hk i h h' => by
        by_cases e : i = k
        · subst e; exact hk
        · exact HO.out i h (by omega))
      have hc := (s[k]'hlt).toNat_lt
      have hcc : (0 : Int) ≤ ((s[k]'hlt).toNat : Int) := by omega
      rcases part_cases ((s[k]'hlt).toNat : Int) with ⟨h, e⟩ | ⟨h, h', e⟩ | ⟨h, h', e⟩ | ⟨h, h', e⟩ | ⟨h, h', e⟩ | ⟨h, e⟩ | ⟨h, e⟩ | ⟨h, h', e⟩ | ⟨h, e⟩
      case inr.inl =>
        have q : (((s[k]'hlt).toNat : Int) == 95) = false := by simp; omega
        by_cases h0 : k = 0
        · have HE := hidden (HB2.out (by unfold okAt; rw [e]; omega))
          clear e HB HB2 HO HO2 HG
          subst h0
          go_wp2
          go_ret
          exact ⟨by rw [HE.out]; rfl, rfl⟩
        · have HN := hidden (HO2.out (by unfold okAt; rw [e]; omega))
          have q0 : ((k : Int) == 0) = false := by simp; omega
          clear e HB2 HO2
          go_wp2
          go_round
          case rel => exact ⟨k + 1, by omega, by go_num, HN⟩
          case measure => simp [intOf]; omega
      case inr.inr.inr.inl | inr.inr.inr.inr.inr.inl | inr.inr.inr.inr.inr.inr.inr.inl =>
        all_goals
          have HN := hidden (HO2.out (by unfold okAt; rw [e]; omega))
          have q0 : (∃ b : Bool, ((k : Int) == 0) = b) := ⟨_, rfl⟩
          obtain ⟨b, q0⟩ := q0
          have q5 : decide (((s[k]'hlt).toNat : Int) ≤ 57) = false := by simp; omega
          have q6 : ∃ b : Bool, (((s[k]'hlt).toNat : Int) == 95) = b := ⟨_, rfl⟩
          obtain ⟨b6, q6⟩ := q6
          clear e HB2 HO2
          cases b <;> cases b6
          all_goals
            first
            | (exfalso; simp at q6; omega)
            | (go_wp2
               go_round
               case rel => exact ⟨k + 1, by omega, by go_num, HN⟩
               case measure => simp [intOf]; omega)
      all_goals
        have HE := hidden (HB2.out (by unfold okAt; rw [e]; omega))
        have q : (((s[k]'hlt).toNat : Int) == 95) = false := by simp; omega
        clear e HB HB2 HO HO2 HG
        go_wp2
        go_ret
        exact ⟨by rw [HE.out]; rfl, rfl⟩
    · obtain rfl : k = s.size := by omega
      have HE := hidden (HG.out (fun i h => HO.out i h h))
      by_cases h1 : 1 ≤ s.size
      · by_cases h2 : s.size ≤ 32
        · go_wp2
          go_ret
          exact ⟨by rw [HE.out]; simp; omega, rfl⟩
        · go_wp2
          go_ret
          exact ⟨by rw [HE.out]; simp; omega, rfl⟩
      · go_wp2
        go_ret
        exact ⟨by rw [HE.out]; simp; omega, rfl⟩
end Go.Proofs.YtfmdmeokbbpmlaaGreat

namespace Go.Proofs.YtfmdmeokbbpmlaaGreat
open Go.RowKit Go.Shelf

set_option maxRecDepth 20000 in
set_option maxHeartbeats 4000000 in
theorem word_name (s : ByteArray) (w : World) (hs : s.size ≤ maxLen) : Calls Tryz.prog 82 #[.string s] w fun r w' => r = .returned (.bool (nameB s)) ∧ Below w.heap.size w w' := by
  unfold maxLen at hs
  have HB : Hid (∀ (i : Nat) (h : i < s.size), ¬ okAt ((s[i]'h).toNat : Int) i → nameB s = false) := hidden (fun i h hb => name_bad h hb)
  have HG : Hid ((∀ i (h : i < s.size), okAt ((s[i]'h).toNat : Int) i) → nameB s = (decide (1 ≤ s.size) && decide ((s.size : Int) ≤ 32))) := hidden (fun h => by
    rw [Bool.eq_iff_iff]
    unfold nameB
    rw [holdsB_iff]
    unfold IsName
    simp only [Bool.and_eq_true, decide_eq_true_eq]
    exact ⟨fun h => ⟨h.1, by omega⟩, fun h' => ⟨h'.1, by omega, h⟩⟩)
  generalize nameB s = r at *
  have hbi : ∀ pos, Below w.heap.size w (w.iter s pos) := fun pos => (Below.refl _ _).alloc (Nat.le_refl _) _
  have HBI := hidden hbi
  clear hbi
  go_enter Tryz.func82, Tryz.ntmps82
  go_wp2
  go_loopw [3] (fun _ wr => ∃ k : Nat, k ≤ s.size ∧ wr = w.iter s k ∧ Hid (∀ i (h : i < s.size), i < k → okAt ((s[i]'h).toNat : Int) i)) (fun _ wr => s.size - wr.iterPos w.heap.size)
  case atStart => exact ⟨0, by omega, rfl, hidden (fun i h h' => by omega)⟩
  case round =>
    obtain ⟨k, hk, rfl, HO⟩ := hrel
    by_cases hlt : k < s.size
    · have HB2 := hidden (HB.out k hlt)
      have HO2 : Hid (okAt ((s[k]'hlt).toNat : Int) k → ∀ i (h : i < s.size), i < k + 1 → okAt ((s[i]'h).toNat : Int) i) := hidden (fun hk i h h' => by
        by_cases e : i = k
        · subst e; exact hk
        · exact HO.out i h (by omega))
      have hc := (s[k]'hlt).toNat_lt
      by_cases ha : (s[k]'hlt).toNat < 128
      · have hnx := fun ty => run_next_ascii (P := Tryz.prog) w s k ty hlt ha
        have HP := hidden (fun w' => word_part ((s[k]'hlt).toNat : Int) w')
        have hp : Hid (okAt ((s[k]'hlt).toNat : Int) k ↔ partOf ((s[k]'hlt).toNat : Int) = 2 ∨ partOf ((s[k]'hlt).toNat : Int) = 1 ∧ k ≠ 0) := hidden Iff.rfl
        have hpc : partOf ((s[k]'hlt).toNat : Int) = 0 ∨ partOf ((s[k]'hlt).toNat : Int) = 1 ∨ partOf ((s[k]'hlt).toNat : Int) = 2 := by unfold partOf; split <;> (try split) <;> simp
        generalize partOf ((s[k]'hlt).toNat : Int) = p at *
        go_wp2_with fail
        refine (HP.out _).mono ?_
        rintro e w' ⟨rfl, rfl⟩
        clear HP hnx
        rcases hpc with rfl | rfl | rfl
        · have HE := hidden (HB2.out (by rw [hp.out]; omega))
          go_wp2
          go_ret
          exact ⟨by rw [HE.out]; rfl, HBI.out _⟩
        · by_cases h0 : k = 0
          · have HE := hidden (HB2.out (by rw [hp.out]; omega))
            have q0 : ((k : Int) == 0) = true := by simp; omega
            go_wp2
            go_ret
            exact ⟨by rw [HE.out]; rfl, HBI.out _⟩
          · have HN := hidden (HO2.out (by rw [hp.out]; omega))
            have q0 : ((k : Int) == 0) = false := by simp; omega
            go_wp2
            go_roundw
            case rel => exact ⟨k + 1, by omega, rfl, HN⟩
            case measure => simp; omega
        · have HN := hidden (HO2.out (by rw [hp.out]; omega))
          go_wp2
          go_roundw
          case rel => exact ⟨k + 1, by omega, rfl, HN⟩
          case measure => simp; omega
      · have hnx : ∀ ty, (Instr.next (.pointer (some ⟨w.heap.size, 0, none⟩)) true ty).run Tryz.prog (w.iter s k) = _ := fun ty => run_next_any w s k ty hlt
        have hd := (decode_high s k hlt (by omega)).1
        have HE := hidden (HB2.out (by
          unfold okAt
          rcases part_cases ((s[k]'hlt).toNat : Int) with ⟨h, e⟩ | ⟨h, h', e⟩ | ⟨h, h', e⟩ | ⟨h, h', e⟩ | ⟨h, h', e⟩ | ⟨h, e⟩ | ⟨h, e⟩ | ⟨h, h', e⟩ | ⟨h, e⟩ <;> omega))
        have HP := hidden (fun w' => word_part ((Utf8.decode s k).1 : Int) w')
        have hpz : partOf ((Utf8.decode s k).1 : Int) = 0 := by
          rcases part_cases ((Utf8.decode s k).1 : Int) with ⟨h, e⟩ | ⟨h, h', e⟩ | ⟨h, h', e⟩ | ⟨h, h', e⟩ | ⟨h, h', e⟩ | ⟨h, e⟩ | ⟨h, e⟩ | ⟨h, h', e⟩ | ⟨h, e⟩ <;> omega
        rw [hpz] at HP
        clear hpz
        go_wp2_with fail
        refine (HP.out _).mono ?_
        rintro e w' ⟨rfl, rfl⟩
        clear HP hnx
        go_wp2
        go_ret
        exact ⟨by rw [HE.out]; rfl, HBI.out _⟩
    · obtain rfl : k = s.size := by omega
      have HE := hidden (HG.out (fun i h => HO.out i h h))
      have hnx : ∀ ty, (Instr.next (.pointer (some ⟨w.heap.size, 0, none⟩)) true ty).run Tryz.prog (w.iter s s.size) = _ := fun ty => run_next_end w s s.size ty hlt
      have he : s.toList.isEmpty = decide (s.size < 1) := by
        rw [Bool.eq_iff_iff, decide_eq_true_iff, List.isEmpty_iff, ← List.length_eq_zero_iff]
        rw [ByteArray.toList_eq, Array.length_toList]
        show s.size = 0 ↔ _
        omega
      have HEm := hidden he
      clear he
      by_cases h1 : 1 ≤ s.size
      · have q1 : s.toList.isEmpty = false := by rw [HEm.out]; exact decide_eq_false (by omega)
        have q2 : s.toList ≠ [] := by intro e; rw [e] at q1; cases q1
        go_wp2
        go_ret
        exact ⟨by rw [HE.out, decide_eq_true h1, Bool.true_and]; rfl, HBI.out _⟩
      · have q1 : s.toList.isEmpty = true := by rw [HEm.out]; exact decide_eq_true (by omega)
        have q2 : s.toList = [] := List.isEmpty_iff.1 q1
        go_wp2
        go_ret
        exact ⟨by rw [HE.out, decide_eq_false h1]; rfl, HBI.out _⟩
end Go.Proofs.YtfmdmeokbbpmlaaGreat

namespace Go.Proofs.YtfmdmeokbbpmlaaGreat
open Go.RowKit Go.Shelf

/-- The first place from k on, of n places, at which p holds. -/
noncomputable def firstFrom (p : Nat → Prop) : Nat → Nat → Int
  | _, 0 => -1
  | k, n + 1 => if holdsB (p k) = true then (k : Int) else firstFrom p (k + 1) n
noncomputable def firstOf (p : Nat → Prop) (n : Nat) : Int := firstFrom p 0 n
theorem firstFrom_hit {p : Nat → Prop} : ∀ (n k j : Nat), j < n → p (k + j) → (∀ m, m < j → ¬ p (k + m)) → firstFrom p k n = ((k + j : Nat) : Int) := by
  intro n
  induction n with
  | zero => intro k j h; omega
  | succ n ih =>
    intro k j h hp hn
    unfold firstFrom
    cases j with
    | zero => rw [Nat.add_zero] at hp; rw [if_pos (holdsB_true hp)]; rfl
    | succ j =>
      rw [if_neg (by rw [holdsB_false (p := p k) (hn 0 (by omega))]; decide), ih (k + 1) j (by omega) (by rw [show k + 1 + j = k + (j + 1) by omega]; exact hp) (fun m hm => by
        have := hn (m + 1) (by omega)
        rwa [show k + 1 + m = k + (m + 1) by omega])]
      congr 1; omega
theorem firstFrom_miss {p : Nat → Prop} : ∀ (n k : Nat), (∀ m, m < n → ¬ p (k + m)) → firstFrom p k n = -1 := by
  intro n
  induction n with
  | zero => intro k _; rfl
  | succ n ih =>
    intro k hn
    unfold firstFrom
    rw [if_neg (by rw [holdsB_false (p := p k) (hn 0 (by omega))]; decide)]
    exact ih (k + 1) (fun m hm => by
      have := hn (m + 1) (by omega)
      rwa [show k + 1 + m = k + (m + 1) by omega])
theorem first_hit {p : Nat → Prop} {n j : Nat} (h : j < n) (hp : p j) (hn : ∀ m, m < j → ¬ p m) : firstOf p n = (j : Int) := by
  have := firstFrom_hit (p := p) n 0 j h (by rwa [Nat.zero_add]) (fun m hm => by rw [Nat.zero_add]; exact hn m hm)
  rwa [Nat.zero_add] at this
theorem first_miss {p : Nat → Prop} {n : Nat} (hn : ∀ m, m < n → ¬ p m) : firstOf p n = -1 := firstFrom_miss n 0 (fun m hm => by rw [Nat.zero_add]; exact hn m hm)
theorem first_cases (p : Nat → Prop) (n : Nat) : (firstOf p n = -1 ∧ ∀ m, m < n → ¬ p m) ∨ ∃ j, j < n ∧ firstOf p n = (j : Int) ∧ p j ∧ ∀ m, m < j → ¬ p m := by
  by_cases h : ∃ j, j < n ∧ p j
  · obtain ⟨j, hj, hp⟩ := h
    have key : ∀ b, ∀ j, j ≤ b → j < n → p j → ∃ i, i < n ∧ p i ∧ ∀ m, m < i → ¬ p m := by
      intro b
      induction b with
      | zero => intro j h1 h2 h3; exact ⟨j, h2, h3, fun m hm => by omega⟩
      | succ b ih =>
        intro j h1 h2 h3
        by_cases hl : ∃ m, m < j ∧ p m
        · obtain ⟨m, hm, hpm⟩ := hl
          exact ih m (by omega) (by omega) hpm
        · exact ⟨j, h2, h3, fun m hm hpm => hl ⟨m, hm, hpm⟩⟩
    obtain ⟨i, h1, h2, h3⟩ := key j j (Nat.le_refl _) hj hp
    exact .inr ⟨i, h1, first_hit h1 h2 h3, h2, h3⟩
  · exact .inl ⟨first_miss (fun m hm hp => h ⟨m, hm, hp⟩), fun m hm hp => h ⟨m, hm, hp⟩⟩

/-- Where a thing stands in a list. -/
noncomputable def findOf {α : Type} (l : List α) (s : α) : Int := firstOf (fun k => l[k]? = some s) l.length
theorem find_hit {α : Type} {l : List α} {s : α} {j : Nat} (h : l[j]? = some s) (hn : ∀ m, m < j → l[m]? ≠ some s) : findOf l s = (j : Int) := first_hit (List.getElem?_eq_some_iff.1 h).1 h hn
theorem find_miss {α : Type} {l : List α} {s : α} (hn : ∀ m, m < l.length → l[m]? ≠ some s) : findOf l s = -1 := first_miss hn
theorem find_mem {α : Type} (l : List α) (s : α) : 0 ≤ findOf l s ↔ s ∈ l := by
  rcases first_cases (fun k => l[k]? = some s) l.length with ⟨h1, h2⟩ | ⟨j, h1, h2, h3, _⟩
  · unfold findOf
    rw [h1]
    constructor
    · intro h; omega
    · intro h
      obtain ⟨i, hi, e⟩ := List.mem_iff_getElem.1 h
      exact absurd (by rw [List.getElem?_eq_getElem hi, e]) (h2 i hi)
  · unfold findOf
    rw [h2]
    exact ⟨fun _ => List.mem_of_getElem? h3, fun _ => by omega⟩
theorem find_bounds {α : Type} (l : List α) (s : α) : -1 ≤ findOf l s ∧ findOf l s < l.length := by
  rcases first_cases (fun k => l[k]? = some s) l.length with ⟨h1, h2⟩ | ⟨j, h1, h2, h3, _⟩
  · unfold findOf; rw [h1]; omega
  · unfold findOf; rw [h2]; omega

def strC (s : ByteArray) : List Value := [.string s]
/-- v reads as the texts. -/
abbrev Strs (w : World) (T : Nat → Prop) (v : Value) (l : List ByteArray) : Prop := Rd w T 1 v l.length (l.flatMap strC)
theorem strs_at {w : World} {T : Nat → Prop} {A : Option Addr} {c : Nat} {l : List ByteArray} (h : Strs w T (.slice A l.length c) l) {i : Nat} {x : ByteArray} (hx : l[i]? = some x) : ∃ b off, A = some ⟨b, off, none⟩ ∧ T b ∧ w.cell? ⟨b, off + i, none⟩ = some (.string x) := by
  obtain ⟨b, off, e, hT, hc⟩ := Rd.flat_at (f := strC) h (fun _ => rfl) (by decide) hx
  have := hc 0 _ rfl
  rw [Nat.mul_one, Nat.add_zero] at this
  exact ⟨b, off, e, hT, this⟩

set_option maxRecDepth 20000 in
set_option maxHeartbeats 2000000 in
theorem strs_index (v : Value) (l : List ByteArray) (s : ByteArray) (T : Nat → Prop) (w : World) (hR : Strs w T v l) :
    Calls Tryz.prog 85 #[v, .string s] w fun r w' => r = .returned (.int .i64 (findOf l s)) ∧ w = w' := by
  obtain ⟨A, c, rfl, hc1, hc2⟩ := hR.val
  unfold maxLen at hc2
  have HR := hidden hR
  have HH := hidden (fun (j : Nat) => @find_hit _ l s j)
  have HM := hidden (@find_miss _ l s)
  generalize findOf l s = r at *
  clear hR
  go_enter Tryz.func85, Tryz.ntmps85
  go_wp2
  go_loop [8] (fun ii => ∃ k : Nat, k ≤ l.length ∧ ii = .int .i64 k ∧ Hid (∀ m, m < k → l[m]? ≠ some s)) (fun ii => l.length - (intOf ii).toNat)
  case atStart => exact ⟨0, by omega, rfl, hidden (fun m h => by omega)⟩
  case round =>
    obtain ⟨k, hk, rfl, HN⟩ := hrel
    by_cases hlt : k < l.length
    · have hx := List.getElem?_eq_getElem hlt
      generalize l[k] = x at *
      obtain ⟨b, off, rfl, _, x0⟩ := strs_at HR.out hx
      have HX := hidden hx
      have hs := strs_eql s x
      clear hx
      by_cases e : s = x
      · rw [eqB_true e] at hs
        have HE := hidden (HH.out k (by rw [HX.out, e]) HN.out)
        clear e HX
        go_wp2
        go_ret
        exact ⟨by rw [HE.out]; rfl, rfl⟩
      · rw [eqB_false e] at hs
        have HN2 : Hid (∀ m, m < k + 1 → l[m]? ≠ some s) := hidden (fun m hm => by
          by_cases em : m = k
          · subst em; rw [HX.out]; intro h; exact e (Option.some.inj h).symm
          · exact HN.out m (by omega))
        clear e HX
        go_wp2
        go_round
        case rel => exact ⟨k + 1, by omega, by go_num, HN2⟩
        case measure => simp [intOf]; omega
    · obtain rfl : k = l.length := by omega
      have HE := hidden (HM.out HN.out)
      go_wp2
      go_ret
      exact ⟨by rw [HE.out]; rfl, rfl⟩

theorem word_find (v : Value) (l : List ByteArray) (s : ByteArray) (T : Nat → Prop) (w : World) (hR : Strs w T v l) :
    Calls Tryz.prog 64 #[v, .string s] w fun r w' => r = .returned (.int .i64 (findOf l s)) ∧ w = w' := by
  have H := hidden (strs_index v l s T w hR)
  obtain ⟨A, c, rfl, hc1, hc2⟩ := hR.val
  clear hR
  go_enter Tryz.func64, Tryz.ntmps64
  go_wp2_with fail
  refine H.out.mono ?_
  rintro r w' ⟨rfl, rfl⟩
  go_wp2
  go_ret
  exact ⟨rfl, rfl⟩

set_option maxRecDepth 20000 in
set_option maxHeartbeats 2000000 in
theorem ref_find (v : Value) (l : List ByteArray) (s : ByteArray) (T : Nat → Prop) (w : World) (hR : Strs w T v l) :
    Calls Tryz.prog 50 #[v, .string s] w fun r w' => r = .returned (.int .i64 (findOf l s)) ∧ w = w' := by
  obtain ⟨A, c, rfl, hc1, hc2⟩ := hR.val
  unfold maxLen at hc2
  have HR := hidden hR
  have HH := hidden (fun (j : Nat) => @find_hit _ l s j)
  have HM := hidden (@find_miss _ l s)
  generalize findOf l s = r at *
  clear hR
  go_enter Tryz.func50, Tryz.ntmps50
  go_wp2
  go_loop [5] (fun ii => ∃ k : Nat, k ≤ l.length ∧ ii = .int .i64 k ∧ Hid (∀ m, m < k → l[m]? ≠ some s)) (fun ii => l.length - (intOf ii).toNat)
  case atStart => exact ⟨0, by omega, rfl, hidden (fun m h => by omega)⟩
  case round =>
    obtain ⟨k, hk, rfl, HN⟩ := hrel
    by_cases hlt : k < l.length
    · have hx := List.getElem?_eq_getElem hlt
      generalize l[k] = x at *
      obtain ⟨b, off, rfl, _, x0⟩ := strs_at HR.out hx
      have HX := hidden hx
      have hs := strs_eql x s
      clear hx
      by_cases e : x = s
      · rw [eqB_true e] at hs
        have HE := hidden (HH.out k (by rw [HX.out, e]) HN.out)
        clear e HX
        go_wp2
        go_ret
        exact ⟨by rw [HE.out]; rfl, rfl⟩
      · rw [eqB_false e] at hs
        have HN2 : Hid (∀ m, m < k + 1 → l[m]? ≠ some s) := hidden (fun m hm => by
          by_cases em : m = k
          · subst em; rw [HX.out]; intro h; exact e (Option.some.inj h)
          · exact HN.out m (by omega))
        clear e HX
        go_wp2
        go_round
        case rel => exact ⟨k + 1, by omega, by go_num, HN2⟩
        case measure => simp [intOf]; omega
    · obtain rfl : k = l.length := by omega
      have HE := hidden (HM.out HN.out)
      go_wp2
      go_ret
      exact ⟨by rw [HE.out]; rfl, rfl⟩

/-- The first one that stands there ahead, too. -/
noncomputable def twiceOf {α : Type} (l : List α) : Int := firstOf (fun k => ∃ x, l[k]? = some x ∧ x ∈ l.take k) l.length
theorem strs_take {w : World} {T : Nat → Prop} {A : Option Addr} {c : Nat} {l : List ByteArray} (h : Strs w T (.slice A l.length c) l) {i : Nat} (hi : i ≤ l.length) : Rd w T 1 (.slice A i c) i ((l.take i).flatMap strC) := by
  obtain ⟨hl, A', c', hv, h1, h2, h3⟩ := h
  simp only [Value.slice.injEq] at hv
  obtain ⟨rfl, _, rfl⟩ := hv
  have hlen : ((l.take i).flatMap strC).length = i := by rw [flat_len strC 1 (fun _ => rfl)]; simp; omega
  refine ⟨by rw [hlen]; omega, A, c, rfl, by omega, h2, fun h0 => ?_⟩
  obtain ⟨b, off, e, hT, hc⟩ := h3 (by rw [flat_len strC 1 (fun _ => rfl)]; rw [hlen] at h0; omega)
  refine ⟨b, off, e, hT, fun j u hj => hc j u ?_⟩
  have hpre : (l.take i).flatMap strC <+: l.flatMap strC := by
    refine ⟨(l.drop i).flatMap strC, ?_⟩
    rw [← List.flatMap_append, List.take_append_drop]
  obtain ⟨r, hr⟩ := hpre
  rw [← hr, List.getElem?_append_left (List.getElem?_eq_some_iff.1 hj).1]
  exact hj

theorem find_lt {α : Type} {l : List α} {k : Nat} {x : α} (hx : l[k]? = some x) : (findOf l x < k ↔ x ∈ l.take k) ∧ findOf l x ≤ k ∧ -1 ≤ findOf l x := by
  have hk := (List.getElem?_eq_some_iff.1 hx).1
  rcases first_cases (fun k => l[k]? = some x) l.length with ⟨h1, h2⟩ | ⟨j, h1, h2, h3, h4⟩
  · exact absurd hx (h2 k hk)
  · have he : findOf l x = (j : Int) := h2
    have hjk : j ≤ k := by
      rcases Nat.lt_or_ge k j with h | h
      · exact absurd hx (h4 k h)
      · exact h
    rw [he]
    refine ⟨⟨fun h => ?_, fun h => ?_⟩, by omega, by omega⟩
    · exact List.mem_of_getElem? (i := j) (by rw [List.getElem?_take_of_lt (by omega)]; exact h3)
    · obtain ⟨i, hi, e⟩ := List.mem_iff_getElem.1 h
      have hi2 : i < k := by simp at hi; omega
      have : l[i]? = some x := by
        rw [← List.getElem?_take_of_lt hi2, List.getElem?_eq_getElem hi, e]
      rcases Nat.lt_or_ge i j with h' | h'
      · exact absurd this (h4 i h')
      · omega

end Go.Proofs.YtfmdmeokbbpmlaaGreat

namespace Go.Proofs.YtfmdmeokbbpmlaaGreat
open Go.RowKit Go.Shelf

set_option maxRecDepth 20000 in
set_option maxHeartbeats 2000000 in
theorem same_strs (a b : Value) (L M : List ByteArray) (w : World) (hA : Strs w (Old w) a L) (hB : Strs w (Old w) b M) :
    Calls Tryz.prog 23 #[a, b] w fun r w' => r = .returned (.bool (eqB L M)) ∧ Below w.heap.size w w' := by
  obtain ⟨A, c, rfl, hc1, hc2⟩ := hA.val
  obtain ⟨A2, c2, rfl, hd1, hd2⟩ := hB.val
  unfold maxLen at hc2 hd2
  have HA := hidden (fun (w' : World) (hw : Below w.heap.size w w') => Rd.old hA hw)
  have HB := hidden (fun (w' : World) (hw : Below w.heap.size w w') => Rd.old hB hw)
  clear hA hB
  by_cases hlen : L.length = M.length
  · have HT : Hid ((∀ k : Nat, k < L.length → L[k]? = M[k]?) → eqB L M = true) := hidden (fun h => eqB_true (list_ext_of hlen h))
    have HF : Hid ((∃ (k : Nat) (x y : ByteArray), L[k]? = some x ∧ M[k]? = some y ∧ x ≠ y) → eqB L M = false) := hidden (fun ⟨k, x, y, h1, h2, h3⟩ => eqB_false fun e => by
      subst e
      rw [h1] at h2
      exact h3 (Option.some.inj h2))
    generalize eqB L M = r at *
    have hlm : L.length ≤ M.length := by omega
    have q0 : ((L.length : Int) != (M.length : Int)) = false := by simp; omega
    clear hlen
    go_enter Tryz.func23, Tryz.ntmps23
    go_wp2
    go_loopw [5] (fun kk wr => ∃ k : Nat, k ≤ L.length ∧ kk = .int .i64 k ∧ Hid (∀ j : Nat, j < k → L[j]? = M[j]?) ∧ Below w.heap.size w wr) (fun kk _ => L.length - (intOf kk).toNat)
    case atStart => exact ⟨0, by omega, rfl, hidden (fun j h => by omega), Below.refl _ _⟩
    case round =>
      obtain ⟨k, hk, rfl, HN, hb⟩ := hrel
      by_cases hlt : k < L.length
      · have hk2 : k < M.length := by omega
        have hx := List.getElem?_eq_getElem hlt
        have hy := List.getElem?_eq_getElem hk2
        generalize L[k] = x at *
        generalize M[k] = y at *
        obtain ⟨b1, o1, rfl, _, x0⟩ := strs_at (HA.out _ hb) hx
        obtain ⟨b2, o2, rfl, _, y0⟩ := strs_at (HB.out _ hb) hy
        have HX := hidden hx
        have HY := hidden hy
        clear hx hy
        have z0 := Ext.cell x0; have z1 := Ext.cell y0
        have hs := strs_eql x y
        go_wp2_with fail
        refine wp_region_ext (by kernel_rfl) (by kernel_rfl) ?_
        repeat (go_big_quiet_step (fail))
        refine wpQuiet_nil ?_
        intro w2 hb2
        clear z0 z1 x0 y0
        replace hb := hb.trans (hb2.mono hb.size)
        by_cases hxy : x = y
        · have HN2 : Hid (∀ j : Nat, j < k + 1 → L[j]? = M[j]?) := hidden (fun j hj => by
            by_cases e : j = k
            · subst e; rw [HX.out, HY.out, hxy]
            · exact HN.out j (by omega))
          rw [eqB_true hxy]
          clear hxy HN HX HY hs
          go_wp2
          go_roundw
          case rel => exact ⟨k + 1, by omega, by go_num, HN2, hb⟩
          case measure => simp [intOf]; omega
        · have HE := hidden (HF.out ⟨k, _, _, HX.out, HY.out, hxy⟩)
          rw [eqB_false hxy]
          clear hxy hs
          go_wp2
          go_ret
          exact ⟨by rw [HE.out]; rfl, hb⟩
      · obtain rfl : k = L.length := by omega
        have HE := hidden (HT.out HN.out)
        go_wp2
        go_ret
        exact ⟨by rw [HE.out]; rfl, hb⟩
  · have q1 : (((L.length : Nat) : Int) != (M.length : Int)) = true := by rw [bne_iff_ne]; omega
    have HE : Hid (eqB L M = false) := hidden (eqB_false (by
      intro e; rw [e] at hlen; exact hlen rfl))
    generalize eqB L M = r at *
    clear hlen
    go_enter Tryz.func23, Tryz.ntmps23
    go_wp2
    go_ret
    exact ⟨by rw [HE.out]; rfl, Below.refl _ _⟩
end Go.Proofs.YtfmdmeokbbpmlaaGreat

namespace Go.Proofs.YtfmdmeokbbpmlaaGreat
open Go.RowKit Go.Shelf

theorem Mine.base {w : World} {b b' : Nat} {e : TypeId} {size n : Nat} {v : Value} {xs : List Value} (h : Mine w b e size v n xs) (hb : b' ≤ b) : Mine w b' e size v n xs := by
  rcases h with ⟨h1, h2⟩ | h
  · refine .inl ⟨h1, ?_⟩
    rcases h2 with h | ⟨g, cap, cur, hv, hg, r⟩
    · exact .inl h
    · exact .inr ⟨g, cap, cur, hv, Nat.le_trans hb hg, r⟩
  · exact .inr h
theorem Mine.fresh_nil (w : World) (base : Nat) (e : TypeId) (size : Nat) (a : Option Addr) : Mine w base e size (.slice a 0 0) 0 [] := .inr ⟨rfl, rfl, a, rfl⟩
/-- What is known of an element's type. -/
def TyInfo (P : Program) (e : TypeId) (z : Value) (size bytes : Nat) : Prop := ∃ i, P.info? e = some i ∧ i.zero = some z ∧ i.size = size ∧ i.bytes = bytes
theorem str_info : Hid (TyInfo Tryz.prog 9 (.string ⟨#[]⟩) 1 16) :=
  hidden (info_parts (show (Tryz.prog.info? 9).map (fun i => (i.zero, i.size, i.bytes)) = some (some (.string ⟨#[]⟩), 1, 16) by kernel_rfl))

theorem wpList_append_all {P : Program} {w : World} {ops : Array Oper} {rest : List Oper} {o : Oper} {a : Act} {Q : Exit → Act → World → Prop} (hgd : o.guard = none) (s x : Operand) (t e : TypeId)
    (ho : o.op = .call { callee := .builtin .append, args := #[s, x], argTypes := #[t, t] }) (ht : P.underlying t = some (.slice e)) {z : Value} {size bytes : Nat} (HI : Hid (TyInfo P e z size bytes)) (hzs : z.cells.size = size) (hsz : 0 < size)
    (base : Nat) (v : Value) (n : Nat) (xs : List Value) (HM : Hid (Mine w base e size v n xs)) {T : Nat → Prop} (y : Value) (m : Nat) (news : List Value) (HX : Hid (Rd w T size y m news)) (H1 : Hid (∀ u ∈ news, u.oneCell' = true))
    (hs : a.eval s = v) (hx : a.eval x = y) (hbytes : (n + m) * bytes ≤ 140737488355328) (hb1 : 0 < bytes) (hb : base ≤ w.heap.size)
    (h : ∀ v' w', Hid (Appended w base e size v (n + m) (xs ++ news) v' w') → wpList P ops Q rest (a.put o.dst v') w') : wpList P ops Q (o :: rest) a w := by
  obtain ⟨i, hi, hz, hs', hby⟩ := HI.out
  exact wpList_append_rd hgd s x t ho base e i z size bytes ht hi hz hs' hby hzs hsz v n xs hs HM.out (T := T) y m news hx HX.out H1.out hbytes hb1 hb (fun v' w' hA => h v' w' (hidden hA))
theorem wpListIn_append_all {F : Fence} {q : Nat} {P : Program} {w : World} {ops : Array Oper} {rest : List Oper} {o : Oper} {a : Act} {Q : Exit → Act → World → Prop} (hgd : o.guard = none) (s x : Operand) (t e : TypeId)
    (ho : o.op = .call { callee := .builtin .append, args := #[s, x], argTypes := #[t, t] }) (ht : P.underlying t = some (.slice e)) {z : Value} {size bytes : Nat} (HI : Hid (TyInfo P e z size bytes)) (hzs : z.cells.size = size) (hsz : 0 < size)
    (base : Nat) (v : Value) (n : Nat) (xs : List Value) (HM : Hid (Mine w base e size v n xs)) {T : Nat → Prop} (y : Value) (m : Nat) (news : List Value) (HX : Hid (Rd w T size y m news)) (H1 : Hid (∀ u ∈ news, u.oneCell' = true))
    (hs : a.eval s = v) (hx : a.eval x = y) (hbytes : (n + m) * bytes ≤ 140737488355328) (hb1 : 0 < bytes) (hb : base ≤ w.heap.size)
    (h : ∀ v' w', Hid (Appended w base e size v (n + m) (xs ++ news) v' w') → wpListIn F q P ops Q rest (a.put o.dst v') w') : wpListIn F q P ops Q (o :: rest) a w := by
  obtain ⟨i, hi, hz, hs', hby⟩ := HI.out
  exact wpListIn_append_rd hgd s x t ho base e i z size bytes ht hi hz hs' hby hzs hsz v n xs hs HM.out (T := T) y m news hx HX.out H1.out hbytes hb1 hb (fun v' w' hA => h v' w' (hidden hA))

/-- APPEND, at the operation itself, inside a fence. -/
theorem wpIn_append_all {F : Fence} {q : Nat} {P : Program} {w : World} {K : Act → World → Prop} {o : Oper} {a : Act} {Q : Exit → Act → World → Prop} (s x : Operand) (t e : TypeId)
    (ho : o.op = .call { callee := .builtin .append, args := #[s, x], argTypes := #[t, t] }) (ht : P.underlying t = some (.slice e)) {z : Value} {size bytes : Nat} (HI : Hid (TyInfo P e z size bytes)) (hzs : z.cells.size = size) (hsz : 0 < size)
    (base : Nat) (v : Value) (n : Nat) (xs : List Value) (HM : Hid (Mine w base e size v n xs)) {T : Nat → Prop} (y : Value) (m : Nat) (news : List Value) (HX : Hid (Rd w T size y m news)) (H1 : Hid (∀ u ∈ news, u.oneCell' = true))
    (hs : a.eval s = v) (hx : a.eval x = y) (hbytes : (n + m) * bytes ≤ 140737488355328) (hb1 : 0 < bytes) (hb : base ≤ w.heap.size)
    (h : ∀ v' w', Hid (Appended w base e size v (n + m) (xs ++ news) v' w') → K (a.put o.dst v') w') : o.wpIn F q P a w K Q := by
  obtain ⟨i, hi, hz, hs', hby⟩ := HI.out
  obtain ⟨v', w', hrun, h2⟩ := run_append_rd (P := P) (w := w) base t o.type e i z size bytes ht hi hz hs' hby hzs hsz v n xs HM.out y m news HX.out H1.out hbytes hb1 hb
  unfold Oper.wpIn
  refine ⟨?_, ?_⟩
  · simp [Oper.about, ho, resolve, Target.leads, Sem.run_pure]
  · rw [Oper.semAt_plain F _ _ (by rw [ho]; intro c hc'; cases hc')]
    simp [execOp, ho, resolve, invoke, builtin, hs, hx, hrun, Result.andThen]
    exact h _ _ (hidden h2)

/-- One value put into a new slice of one element. -/
theorem Rd.single (w : World) (e : TypeId) (u : Value) (o : Nat) (ho : o = w.heap.size) : Rd (w.alloc (.cells #[u] e)) (Old (w.alloc (.cells #[u] e))) 1 (.slice (some ⟨o, 0, none⟩) 1 1) 1 [u] :=
  Rd.fresh (cs := [u]) (n := 1) (size := 1) rfl (Nat.le_refl _) (by decide) (by simp [Old]) ho
theorem one_str (s : ByteArray) : Hid (∀ u ∈ [Value.string s], u.oneCell' = true) := hidden (fun u hu => by simp at hu; subst hu; rfl)

/-- Texts of the call's own. -/
abbrev StrsM (w : World) (base : Nat) (v : Value) (l : List ByteArray) : Prop := Mine w base 9 1 v l.length (l.flatMap strC)
theorem StrsM.snoc {w w' : World} {base : Nat} {v v' : Value} {l : List ByteArray} {s : ByteArray} (hA : Appended w base 9 1 v (l.length + 1) (l.flatMap strC ++ [.string s]) v' w') : StrsM w' base v' (l ++ [s]) := by
  have := hA.mine
  unfold StrsM
  rw [List.length_append, List.flatMap_append]
  exact this
theorem StrsM.rd {w : World} {base : Nat} {v : Value} {l : List ByteArray} (h : StrsM w base v l) : Strs w (Old w) v l := Mine.rd h (fun _ _ _ h => h)
end Go.Proofs.YtfmdmeokbbpmlaaGreat

namespace Go.Proofs.YtfmdmeokbbpmlaaGreat
open Go.RowKit Go.Shelf

def one1 {α : Type} (enc : α → Value) (x : α) : List Value := [enc x]
/-- v reads as the values l. -/
abbrev Row {α : Type} (enc : α → Value) (w : World) (T : Nat → Prop) (v : Value) (l : List α) : Prop := Rd w T 1 v l.length (l.flatMap (one1 enc))
/-- Values of the call's own. -/
abbrev RowM {α : Type} (enc : α → Value) (e : TypeId) (w : World) (base : Nat) (v : Value) (l : List α) : Prop := Mine w base e 1 v l.length (l.flatMap (one1 enc))
section
variable {α : Type} {enc : α → Value}
theorem row_at {w : World} {T : Nat → Prop} {A : Option Addr} {n c : Nat} {l : List α} (h : Rd w T 1 (.slice A n c) n (l.flatMap (one1 enc))) {i : Nat} {x : α} (hx : l[i]? = some x) : ∃ b off, A = some ⟨b, off, none⟩ ∧ T b ∧ w.cell? ⟨b, off + i, none⟩ = some (enc x) := by
  obtain ⟨b, off, e, hT, hc⟩ := Rd.flat_at (f := one1 enc) h (fun _ => rfl) (by decide) hx
  have := hc 0 _ rfl
  rw [Nat.mul_one, Nat.add_zero] at this
  exact ⟨b, off, e, hT, this⟩
theorem RowM.rd {e : TypeId} {w : World} {base : Nat} {v : Value} {l : List α} (h : RowM enc e w base v l) : Row enc w (Old w) v l := Mine.rd h (fun _ _ _ h => h)
theorem RowM.nil (enc : α → Value) (e : TypeId) (w : World) (base : Nat) : RowM enc e w base (.slice none 0 0) [] := Mine.nil _ _ _ _
theorem RowM.made {w : World} {base : Nat} {e : TypeId} {o : Nat} (l : List α) (cs : Array Value) (hcs : cs.toList = l.flatMap (one1 enc)) (hn : l.length ≤ maxLen) (ho : o = w.heap.size) (hb : base ≤ w.heap.size) :
    RowM enc e (w.alloc (.cells cs e)) base (.slice (some ⟨o, 0, none⟩) l.length l.length) l := by
  subst ho
  have hl : (l.flatMap (one1 enc)).length = l.length * 1 := flat_len _ 1 (fun _ => rfl) l
  refine .inl ⟨hl, .inr ⟨w.heap.size, l.length, cs, rfl, hb, Holds.new w e _, Nat.le_refl _, hn, by rw [← Array.length_toList, hcs, hl], ?_⟩⟩
  rw [hcs, List.take_of_length_le (by omega)]

/-- One value is put behind the call's own. -/
theorem wpList_append_row {P : Program} {w W0 : World} {ops : Array Oper} {rest : List Oper} {o : Oper} {a : Act} {Q : Exit → Act → World → Prop} (hgd : o.guard = none) (s x : Operand) (t e e' : TypeId)
    (ho : o.op = .call { callee := .builtin .append, args := #[s, x], argTypes := #[t, t] }) (ht : P.underlying t = some (.slice e)) {z : Value} {bytes : Nat} (HI : Hid (TyInfo P e z 1 bytes)) (hzs : z.cells.size = 1) (hone : ∀ x, (enc x).oneCell' = true)
    (base : Nat) (v : Value) (l : List α) (HM : Hid (RowM enc e W0 base v l)) (u : α) (hw : w = W0.alloc (.cells #[enc u] e')) (hs : a.eval s = v) {g : Nat} (hx : a.eval x = .slice (some ⟨g, 0, none⟩) 1 1) (hg : g = W0.heap.size)
    (hn : (l.length + 1) * bytes ≤ 140737488355328) (hb1 : 0 < bytes) (hb : base ≤ W0.heap.size)
    (h : ∀ v' w', Hid (RowM enc e w' base v' (l ++ [u])) → Below base W0 w' → Hid (Keeps (fun k => v.ownBlock ≠ some k) W0 w') → wpList P ops Q rest (a.put o.dst v') w') : wpList P ops Q (o :: rest) a w := by
  obtain ⟨i, hi, hz, hsz, hby⟩ := HI.out
  subst hw hg
  refine wpList_append_rd hgd s x t ho base e i z 1 bytes ht hi hz hsz hby hzs (by decide) v l.length _ hs (HM.out.alloc _) (T := fun _ => True) _ 1 [enc u] hx ?_ ?_ hn hb1 (Nat.le_trans hb (by simp)) (fun v' w' hA => h v' w' ?_ (((Below.refl _ _).alloc hb _).trans hA.below) (hidden (((Keeps.refl _ _).alloc _).trans hA.keeps)))
  · exact Rd.fresh (cs := [enc u]) (n := 1) (size := 1) rfl (Nat.le_refl _) (by decide) trivial rfl
  · intro y hy; simp at hy; subst hy; exact hone u
  · have := hA.mine
    refine hidden ?_
    unfold RowM
    rw [List.length_append, List.flatMap_append]
    exact this
end
/-- The same, for texts. -/
theorem wpList_append_str {w W0 : World} {ops : Array Oper} {rest : List Oper} {o : Oper} {a : Act} {Q : Exit → Act → World → Prop} (hgd : o.guard = none) (s x : Operand)
    (ho : o.op = .call { callee := .builtin .append, args := #[s, x], argTypes := #[24, 24] }) (base : Nat) (v : Value) (l : List ByteArray) (HM : Hid (StrsM W0 base v l)) (u : ByteArray) {e' : TypeId} (hw : w = W0.alloc (.cells #[.string u] e')) (hs : a.eval s = v) {g : Nat}
    (hx : a.eval x = .slice (some ⟨g, 0, none⟩) 1 1) (hg : g = W0.heap.size) (hn : l.length ≤ 1000000) (hb : base ≤ W0.heap.size)
    (h : ∀ v' w', Hid (StrsM w' base v' (l ++ [u])) → Below base W0 w' → Hid (Keeps (fun k => v.ownBlock ≠ some k) W0 w') → wpList Tryz.prog ops Q rest (a.put o.dst v') w') : wpList Tryz.prog ops Q (o :: rest) a w :=
  wpList_append_row (enc := Value.string) hgd s x 24 9 e' ho (by kernel_rfl) str_info rfl (fun _ => rfl) base v l HM u hw hs hx hg (by omega) (by decide) hb h

abbrev intV : Int → Value := Value.int .i64
theorem int_info : Hid (TyInfo Tryz.prog 3 (.int .i64 0) 1 8) := hidden (info_parts (show (Tryz.prog.info? 3).map (fun i => (i.zero, i.size, i.bytes)) = some (some (.int .i64 0), 1, 8) by kernel_rfl))
abbrev Ints (w : World) (T : Nat → Prop) (v : Value) (l : List Int) : Prop := Row intV w T v l
abbrev IntsM (w : World) (base : Nat) (v : Value) (l : List Int) : Prop := RowM intV 3 w base v l
theorem wpList_append_i {w W0 : World} {ops : Array Oper} {rest : List Oper} {o : Oper} {a : Act} {Q : Exit → Act → World → Prop} (hgd : o.guard = none) (s x : Operand)
    (ho : o.op = .call { callee := .builtin .append, args := #[s, x], argTypes := #[69, 69] }) (base : Nat) (v : Value) (l : List Int) (HM : Hid (IntsM W0 base v l)) (u : Int) {e' : TypeId} (hw : w = W0.alloc (.cells #[.int .i64 u] e')) (hs : a.eval s = v) {g : Nat}
    (hx : a.eval x = .slice (some ⟨g, 0, none⟩) 1 1) (hg : g = W0.heap.size) (hn : l.length ≤ 1000000000000) (hb : base ≤ W0.heap.size)
    (h : ∀ v' w', Hid (IntsM w' base v' (l ++ [u])) → Below base W0 w' → Hid (Keeps (fun k => v.ownBlock ≠ some k) W0 w') → wpList Tryz.prog ops Q rest (a.put o.dst v') w') : wpList Tryz.prog ops Q (o :: rest) a w :=
  wpList_append_row (enc := intV) hgd s x 69 3 e' ho (by kernel_rfl) int_info rfl (fun _ => rfl) base v l HM u hw hs hx hg (by omega) (by decide) hb h

end Go.Proofs.YtfmdmeokbbpmlaaGreat

namespace Go.Proofs.YtfmdmeokbbpmlaaGreat
open Go.RowKit Go.Shelf

theorem rd_take {w : World} {T : Nat → Prop} {k n c : Nat} {A : Option Addr} {cs : List Value} (h : Rd w T k (.slice A n c) n cs) {i : Nat} (hi : i ≤ n) : Rd w T k (.slice A i c) i (cs.take (i * k)) := by
  obtain ⟨hl, A', c', hv, h1, h2, h3⟩ := h
  simp only [Value.slice.injEq] at hv
  obtain ⟨rfl, _, rfl⟩ := hv
  have hik : i * k ≤ n * k := Nat.mul_le_mul_right _ hi
  refine ⟨by rw [List.length_take]; omega, A, c, rfl, by omega, h2, fun h0 => ?_⟩
  obtain ⟨b, off, e, hT, hc⟩ := h3 (by rw [List.length_take] at h0; omega)
  refine ⟨b, off, e, hT, fun j u hj => hc j u ?_⟩
  have hj2 : j < i * k := by have := (List.getElem?_eq_some_iff.1 hj).1; rw [List.length_take] at this; omega
  rwa [List.getElem?_take_of_lt hj2] at hj
theorem rd_drop {w : World} {T : Nat → Prop} {k n c b off : Nat} {cs : List Value} (h : Rd w T k (.slice (some ⟨b, off, none⟩) n c) n cs) {i : Nat} (hi : i ≤ n) : Rd w T k (.slice (some ⟨b, off + i * k, none⟩) (n - i) (c - i)) (n - i) (cs.drop (i * k)) := by
  obtain ⟨hl, A', c', hv, h1, h2, h3⟩ := h
  simp only [Value.slice.injEq] at hv
  obtain ⟨rfl, _, rfl⟩ := hv
  refine ⟨by rw [List.length_drop, hl, Nat.sub_mul], _, _, rfl, by omega, by omega, fun h0 => ?_⟩
  rw [List.length_drop] at h0
  obtain ⟨b', off', e, hT, hc⟩ := h3 (by omega)
  simp only [Option.some.injEq, Addr.mk.injEq] at e
  obtain ⟨rfl, rfl, _⟩ := e
  refine ⟨b, _, rfl, hT, fun j u hj => ?_⟩
  rw [List.getElem?_drop] at hj
  have := hc _ u hj
  rwa [show off + i * k + j = off + (i * k + j) by omega]
theorem rd_none {w : World} {T : Nat → Prop} {k : Nat} (A : Option Addr) : Rd w T k (.slice A 0 0) 0 [] := ⟨by simp, A, 0, rfl, Nat.le_refl _, by simp [maxLen], fun h => by simp at h⟩

section
variable {α : Type} {R : Rec α}
theorem Rec.all_len (R : Rec α) {xs : List α} {ls : List Value} (h : ls.length = xs.length) : (R.all xs ls).length = xs.length * R.k := by
  unfold Rec.all
  rw [flat_len (fun p : α × Value => R.cells p.1 p.2) R.k (fun p => R.len p.1 p.2), List.length_zip, h, Nat.min_self]
theorem Rec.all_take (R : Rec α) : ∀ (xs : List α) (ls : List Value) (i : Nat), ls.length = xs.length → (R.all xs ls).take (i * R.k) = R.all (xs.take i) (ls.take i) := by
  intro xs
  induction xs with
  | nil => intro ls i h; simp [Rec.all]
  | cons x xs ih =>
    intro ls i h
    match ls, h with
    | l :: ls, h =>
      cases i with
      | zero => simp [Rec.all]
      | succ i =>
        have := ih ls i (by simpa using h)
        unfold Rec.all at this ⊢
        rw [List.take_succ_cons, List.take_succ_cons, List.zip_cons_cons, List.zip_cons_cons, List.flatMap_cons, List.flatMap_cons, List.take_append, R.len, Nat.add_mul, Nat.one_mul, Nat.add_sub_cancel, this, List.take_of_length_le (by rw [R.len]; omega)]
theorem Rec.all_drop (R : Rec α) : ∀ (xs : List α) (ls : List Value) (i : Nat), ls.length = xs.length → (R.all xs ls).drop (i * R.k) = R.all (xs.drop i) (ls.drop i) := by
  intro xs
  induction xs with
  | nil => intro ls i h; simp [Rec.all]
  | cons x xs ih =>
    intro ls i h
    match ls, h with
    | l :: ls, h =>
      cases i with
      | zero => simp [Rec.all]
      | succ i =>
        have := ih ls i (by simpa using h)
        unfold Rec.all at this ⊢
        rw [List.drop_succ_cons, List.drop_succ_cons, List.zip_cons_cons, List.flatMap_cons, List.drop_append, R.len, Nat.add_mul, Nat.one_mul, Nat.add_sub_cancel, this, List.drop_of_length_le (by rw [R.len]; omega), List.nil_append]
theorem Rec.all_append (R : Rec α) (xs ys : List α) (ls ms : List Value) (h : ls.length = xs.length) : R.all (xs ++ ys) (ls ++ ms) = R.all xs ls ++ R.all ys ms := by
  unfold Rec.all
  rw [List.zip_append (by omega), List.flatMap_append]
theorem Rec.all_one (R : Rec α) (xs : List α) (ls : List Value) (h : ∀ l ∈ ls, l.oneCell' = true) : ∀ u ∈ R.all xs ls, u.oneCell' = true := by
  intro u hu
  unfold Rec.all at hu
  rw [List.mem_flatMap] at hu
  obtain ⟨p, hp, hu⟩ := hu
  exact R.one p.1 p.2 (h _ (List.of_mem_zip hp).2) u hu
theorem Recs.ones {w : World} {T : Nat → Prop} {xs : List α} {ls : List Value} (hl : ls.length = xs.length) (h : ∀ (i : Nat) (x : α) (l : Value), xs[i]? = some x → ls[i]? = some l → Rd w T R.kin l (R.m x) (R.inner x)) : ∀ l ∈ ls, l.oneCell' = true := by
  intro l hm
  obtain ⟨i, hi, e⟩ := List.mem_iff_getElem.1 hm
  have hx := List.getElem?_eq_getElem (show i < xs.length by omega)
  obtain ⟨A, c, rfl, _, _⟩ := (h i _ l hx (by rw [List.getElem?_eq_getElem hi, e])).val
  rfl
end

/-- APPEND, a step of a region that draws its order. -/
theorem step_append_rd {P : Program} {w : World} {ops : Array Oper} {o : Oper} {a : Act} {K : Act → World → Prop} {Q : Exit → Act → World → Prop} {E : Prop} (hgd : o.guard = none) (s x : Operand) (t e : TypeId)
    (ho : o.op = .call { callee := .builtin .append, args := #[s, x], argTypes := #[t, t] }) (ht : P.underlying t = some (.slice e)) {z : Value} {size bytes : Nat} (HI : Hid (TyInfo P e z size bytes)) (hzs : z.cells.size = size) (hsz : 0 < size)
    (base : Nat) (v : Value) (n : Nat) (xs : List Value) (HM : Hid (Mine w base e size v n xs)) {T : Nat → Prop} (y : Value) (m : Nat) (news : List Value) (HX : Hid (Rd w T size y m news)) (H1 : Hid (∀ u ∈ news, u.oneCell' = true))
    (hs : a.eval s = v) (hx : a.eval x = y) (hbytes : (n + m) * bytes ≤ 140737488355328) (hb1 : 0 < bytes) (hb : base ≤ w.heap.size)
    (h : ∀ v' w', Hid (Appended w base e size v (n + m) (xs ++ news) v' w') → K (a.put o.dst v') w') :
    if Region.wanted o (yielded ops a.tmps) = true then Oper.wp P o a w K Q else E := by
  have hw : Region.wanted o (yielded ops a.tmps) = true := by simp [Region.wanted, hgd]
  rw [if_pos hw]
  obtain ⟨i, hi, hz, hs', hby⟩ := HI.out
  exact wp_append_rd s x t ho base e i z size bytes ht hi hz hs' hby hzs hsz v n xs hs HM.out (T := T) y m news hx HX.out H1.out hbytes hb1 hb (fun v' w' hA => h v' w' (hidden hA))
end Go.Proofs.YtfmdmeokbbpmlaaGreat

namespace Go.Proofs.YtfmdmeokbbpmlaaGreat
open Go.RowKit Go.Shelf

theorem take_snoc_at' {α : Type} {l : List α} {k : Nat} {x : α} (h : l[k]? = some x) : l.take k ++ [x] = l.take (k + 1) := by
  rw [List.take_add_one, h]; rfl
noncomputable def putOf (l : List Int) (n : Int) : List Int := if holdsB (n ∈ l) = true then l else l.takeWhile (fun x => decide (x < n)) ++ n :: l.dropWhile (fun x => decide (x < n))
noncomputable def setOf (l : List Int) : List Int := l.foldl putOf []
noncomputable def unionOf (a b : List Int) : List Int := b.foldl putOf (setOf a)
theorem putOf_len (l : List Int) (n : Int) : (putOf l n).length ≤ l.length + 1 := by
  unfold putOf
  split
  · omega
  · have := List.takeWhile_append_dropWhile (p := fun x => decide (x < n)) (l := l)
    have h2 := congrArg List.length this
    rw [List.length_append] at h2
    rw [List.length_append, List.length_cons]
    omega
theorem fold_put_len (b : List Int) : ∀ a : List Int, (b.foldl putOf a).length ≤ a.length + b.length := by
  induction b with
  | nil => intro a; simp
  | cons x b ih => intro a; rw [List.foldl_cons, List.length_cons]; have := ih (putOf a x); have := putOf_len a x; omega

/-- How many stand ahead of n. -/
def aheadOf (l : List Int) (n : Int) : Nat := (l.takeWhile fun x => decide (x < n)).length
theorem ahead_le (l : List Int) (n : Int) : aheadOf l n ≤ l.length := by
  unfold aheadOf
  have := List.takeWhile_append_dropWhile (p := fun x => decide (x < n)) (l := l)
  have h2 := congrArg List.length this
  rw [List.length_append] at h2
  omega
theorem takeWhile_take {α : Type} (p : α → Bool) : ∀ l : List α, l.takeWhile p = l.take (l.takeWhile p).length ∧ l.dropWhile p = l.drop (l.takeWhile p).length := by
  intro l
  induction l with
  | nil => simp
  | cons x l ih =>
    rw [List.takeWhile_cons, List.dropWhile_cons]
    split
    · simp only [List.length_cons, List.take_succ_cons, List.drop_succ_cons]
      exact ⟨by rw [← ih.1], ih.2⟩
    · simp
theorem ahead_spec (l : List Int) (n : Int) : l.takeWhile (fun x => decide (x < n)) = l.take (aheadOf l n) ∧ l.dropWhile (fun x => decide (x < n)) = l.drop (aheadOf l n) := takeWhile_take _ l
theorem ahead_lt {l : List Int} {n : Int} : ∀ {k : Nat} {x : Int}, l[k]? = some x → k < aheadOf l n → x < n := by
  unfold aheadOf
  induction l with
  | nil => intro k x h; simp at h
  | cons y l ih =>
    intro k x h hk
    rw [List.takeWhile_cons] at hk
    split at hk
    · rename_i hy
      cases k with
      | zero => simp at h; subst h; simpa using hy
      | succ k => exact ih (by simpa using h) (by simpa using hk)
    · simp at hk
theorem ahead_at {l : List Int} {n x : Int} (h : l[aheadOf l n]? = some x) : ¬ x < n := by
  unfold aheadOf at h
  induction l with
  | nil => simp at h
  | cons y l ih =>
    rw [List.takeWhile_cons] at h
    split at h
    · exact ih (by simpa using h)
    · rename_i hy
      simp at h; subst h; simpa using hy

end Go.Proofs.YtfmdmeokbbpmlaaGreat
