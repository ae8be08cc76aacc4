/-
  Maps keyed by texts, entry for entry. Over any program. gread's reader: what holds of its blocks. gread: once, fresh, of, start. gread: start, bound. gread: bound. gread: rules.
-/
import Derived.Test.YtfmdmeokbbpmlaaGreatB1
import Derived.Maps.Own
import Derived.Test.YtfmdmeokbbpmlaaGreatGrdP
namespace Go.Proofs.YtfmdmeokbbpmlaaGreat
open Go.RowKit Go.Shelf

/-- The entries of a map whose keys were put in this order. -/
def ents : Nat → List (ByteArray × Value) → List MapEntry
  | _, [] => []
  | n, (s, v) :: l => ⟨.string s, v, n⟩ :: ents (n + 1) l
theorem ents_snoc (s : ByteArray) (v : Value) : ∀ (l : List (ByteArray × Value)) (n : Nat), ents n (l ++ [(s, v)]) = ents n l ++ [⟨.string s, v, n + l.length⟩] := by
  intro l
  induction l with
  | nil => intro n; rfl
  | cons x l ih =>
    intro n
    obtain ⟨k, u⟩ := x
    rw [List.cons_append, ents, ents, ih, List.cons_append, List.length_cons, show n + 1 + l.length = n + (l.length + 1) by omega]
theorem ents_len : ∀ (l : List (ByteArray × Value)) (n : Nat), (ents n l).length = l.length := by
  intro l
  induction l with
  | nil => intro n; rfl
  | cons x l ih => intro n; obtain ⟨k, u⟩ := x; rw [ents, List.length_cons, List.length_cons, ih]
/-- What stands at a key. -/
def lookK : List (ByteArray × Value) → ByteArray → Option Value
  | [], _ => none
  | (k, v) :: l, s => if (s == k) = true then some v else lookK l s
theorem find_ents (s : ByteArray) : ∀ (l : List (ByteArray × Value)) (n i : Nat), ∃ j, Instr.findNow .string (.string s) (ents n l) i = some ((lookK l s).map (fun v => (j, v))) := by
  intro l
  induction l with
  | nil => intro n i; exact ⟨0, rfl⟩
  | cons x l ih =>
    intro n i
    obtain ⟨k, u⟩ := x
    rw [ents, lookK, Instr.findNow]
    cases hs : s == k with
    | true => exact ⟨i, by simp [Instr.sameNow, hs]⟩
    | false =>
      obtain ⟨j, hj⟩ := ih (n + 1) (i + 1)
      exact ⟨j, by simp [Instr.sameNow, hs, hj]⟩
section
variable {P : Program} {w : World} {b n : Nat} {t k e : TypeId} {l : List (ByteArray × Value)}
theorem run_lookK (ht : P.underlying t = some (.map k e)) (hk : P.underlying k = some .string) (hb : w.heap[b]? = some (.map (ents 0 l).toArray n)) {z : Value} (hz : (zeroValue e).run P w = .ok z w) (s : ByteArray) (c : Bool) :
    (Instr.lookup t (.map (some b)) (.string s) c).run P w = .ok (match lookK l s with | some v => if c then .tuple #[v, .bool true] else v | none => if c then .tuple #[z, .bool false] else z) w := by
  obtain ⟨j, hj⟩ := find_ents s l 0 0
  cases hl : lookK l s with
  | none =>
    rw [hl] at hj
    simp [Instr.lookup, run_underlying ht, MapKept.run_getObj_map hb, MapKept.run_checkKey hk (k := .string s) trivial, MapKept.run_findKey hk hj, hz, Result.andThen]
  | some v =>
    rw [hl] at hj
    simp [Instr.lookup, run_underlying ht, MapKept.run_getObj_map hb, MapKept.run_checkKey hk (k := .string s) trivial, MapKept.run_findKey hk hj, Result.andThen]
/-- The block of a map, turned. -/
def putMap (w : World) (b : Nat) (l : List (ByteArray × Value)) : World := { w with heap := w.heap.setIfInBounds b (.map (ents 0 l).toArray l.length) }
theorem run_putK (ht : P.underlying t = some (.map k e)) (hk : P.underlying k = some .string) (hb : w.heap[b]? = some (.map (ents 0 l).toArray l.length)) {s : ByteArray} (hl : lookK l s = none) (v : Value) :
    (Instr.mapUpdate t (.map (some b)) (.string s) v).run P w = .ok () (putMap w b (l ++ [(s, v)])) := by
  obtain ⟨j, hj⟩ := find_ents s l 0 0
  rw [hl] at hj
  have e1 : (ents 0 (l ++ [(s, v)])).toArray = (ents 0 l).toArray.push ⟨.string s, v, l.length⟩ := by
    rw [ents_snoc, Nat.zero_add]
    simp
  unfold putMap
  rw [e1, List.length_append, List.length_singleton]
  simp [Instr.mapUpdate, run_underlying ht, MapKept.run_getObj_map hb, MapKept.run_checkKey hk (k := .string s) trivial, MapKept.run_findKey hk hj, MapKept.run_setObj_map _ hb, Result.andThen]
theorem putMap_at (hb : w.heap[b]? = some (.map (ents 0 l).toArray n)) (m : List (ByteArray × Value)) : (putMap w b m).heap[b]? = some (.map (ents 0 m).toArray m.length) := (MapKept.heap_set hb).1
theorem putMap_other (m : List (ByteArray × Value)) {r : Nat} (hr : r ≠ b) : (putMap w b m).heap[r]? = w.heap[r]? := by
  unfold putMap
  simp [Ne.symm hr]
theorem putMap_size (m : List (ByteArray × Value)) : (putMap w b m).heap.size = w.heap.size := by
  unfold putMap
  simp
theorem putMap_below {B : Nat} {w0 : World} (h : Below B w0 w) (hB : B ≤ b) (m : List (ByteArray × Value)) : Below B w0 (putMap w b m) :=
  ⟨h.os, h.tape, h.output, by rw [putMap_size]; exact h.size, fun i hi => (putMap_other m (by omega)).trans (h.block i hi)⟩
end
end Go.Proofs.YtfmdmeokbbpmlaaGreat

namespace Go.Proofs.YtfmdmeokbbpmlaaGreat
open Go.RowKit Go.Shelf

section
variable {α : Type}
def InR (R : Rec α) (w : World) (T : Nat → Prop) (xs : List α) (ls : List Value) : Prop := ∀ (i : Nat) (x : α) (l : Value), xs[i]? = some x → ls[i]? = some l → Rd w T R.kin l (R.m x) (R.inner x)
variable {R : Rec α} {w w' : World} {T T' : Nat → Prop} {xs : List α} {ls : List Value}
theorem InR.keeps (h : InR R w T xs ls) (hk : Keeps T w w') : InR R w' T xs ls := fun i x l a b => (h i x l a b).keeps hk
theorem InR.mono (h : InR R w T xs ls) (hT : ∀ k, T k → T' k) : InR R w T' xs ls := fun i x l a b => (h i x l a b).mono hT
theorem InR.snoc (h : InR R w T xs ls) (hl : ls.length = xs.length) {y : α} {v : Value} (hx : Rd w T R.kin v (R.m y) (R.inner y)) : InR R w T (xs ++ [y]) (ls ++ [v]) := by
  intro i x l a b
  by_cases hi : i < xs.length
  · rw [List.getElem?_append_left hi] at a
    rw [List.getElem?_append_left (by omega)] at b
    exact h i x l a b
  · rw [List.getElem?_append_right (by omega)] at a
    rw [List.getElem?_append_right (by omega), hl] at b
    have h0 : i - xs.length = 0 := by
      have := (List.getElem?_eq_some_iff.1 a).1
      simp at this
      omega
    rw [h0] at a b
    simp at a b
    subst a; subst b
    exact hx
end
def givV (L : List ByteArray) : List (ByteArray × Value) := L.map (fun s => (s, .bool true))
theorem look_giv (L : List ByteArray) (s : ByteArray) : lookK (givV L) s = if inK s L = true then some (.bool true) else none := by
  induction L with
  | nil => rfl
  | cons k L ih =>
    unfold givV at ih ⊢
    rw [List.map_cons, lookK, ih]
    unfold inK
    rw [List.any_cons]
    cases hs : s == k <;> simp
/-- The blocks that may yet be written. -/
def Hot (R B : Nat) (tv rv pv : Value) (k : Nat) : Prop := k = R ∨ k = B ∨ tv.ownBlock = some k ∨ rv.ownBlock = some k ∨ pv.ownBlock = some k
def Cold (w : World) (R B : Nat) (tv rv pv : Value) (k : Nat) : Prop := k < w.heap.size ∧ ¬ Hot R B tv rv pv k
/-- Those of the call's own that will not be written. -/
def ColdN (W0 w : World) (R B : Nat) (tv rv pv : Value) (k : Nat) : Prop := Cold w R B tv rv pv k ∧ W0.heap.size ≤ k
/-- They lie apart. -/
structure Apart (w : World) (R B : Nat) (tv rv pv : Value) : Prop where
  r : R < w.heap.size
  b : B < w.heap.size
  rb : R ≠ B
  t : ∀ k, tv.ownBlock = some k → k < w.heap.size ∧ k ≠ R ∧ k ≠ B ∧ rv.ownBlock ≠ some k ∧ pv.ownBlock ≠ some k
  s : ∀ k, rv.ownBlock = some k → k < w.heap.size ∧ k ≠ R ∧ k ≠ B ∧ pv.ownBlock ≠ some k
  p : ∀ k, pv.ownBlock = some k → k < w.heap.size ∧ k ≠ R ∧ k ≠ B
/-- The reader's blocks. -/
structure GrA (W0 : World) (R B : Nat) (x : St) (tv rv pv : Value) (lt lp : List Value) (w : World) : Prop where
  rd : Holds w R 54 #[tv, rv, pv, .int .i64 x.g.start, .int .i64 x.g.states, .int .i64 x.g.text, .int .i64 x.g.nodes, .int .i64 x.g.pairs, .map (some B)]
  mp : w.heap[B]? = some (.map (ents 0 (givV x.giv)).toArray (givV x.giv).length)
  mt : Mine w W0.heap.size 42 3 tv x.g.toks.length (tokR.all x.g.toks lt)
  mr : Mine w W0.heap.size 9 1 rv x.g.rules.length (x.g.rules.flatMap strC)
  mq : Mine w W0.heap.size 50 2 pv x.g.prods.length (prodR.all x.g.prods lp)
  zt : lt.length = x.g.toks.length
  zp : lp.length = x.g.prods.length
  it : InR tokR w (ColdN W0 w R B tv rv pv) x.g.toks lt
  ip : InR prodR w (ColdN W0 w R B tv rv pv) x.g.prods lp
  ap : Apart w R B tv rv pv
  old : W0.heap.size ≤ R ∧ W0.heap.size ≤ B
  below : Below W0.heap.size W0 w
section
variable {W0 w w' : World} {R B : Nat} {x : St} {tv rv pv : Value} {lt lp : List Value}
theorem Apart.grow (h : Apart w R B tv rv pv) (hz : w.heap.size ≤ w'.heap.size) : Apart w' R B tv rv pv :=
  ⟨Nat.lt_of_lt_of_le h.r hz, Nat.lt_of_lt_of_le h.b hz, h.rb, fun k e => ⟨Nat.lt_of_lt_of_le (h.t k e).1 hz, (h.t k e).2⟩, fun k e => ⟨Nat.lt_of_lt_of_le (h.s k e).1 hz, (h.s k e).2⟩, fun k e => ⟨Nat.lt_of_lt_of_le (h.p k e).1 hz, (h.p k e).2⟩⟩
theorem Cold.grow {k : Nat} (h : Cold w R B tv rv pv k) (hz : w.heap.size ≤ w'.heap.size) : Cold w' R B tv rv pv k := ⟨Nat.lt_of_lt_of_le h.1 hz, h.2⟩
theorem ColdN.grow {k : Nat} (h : ColdN W0 w R B tv rv pv k) (hz : w.heap.size ≤ w'.heap.size) : ColdN W0 w' R B tv rv pv k := ⟨h.1.grow hz, h.2⟩
theorem ColdN.keeps (h : Keeps (Cold w R B tv rv pv) w w') : Keeps (ColdN W0 w R B tv rv pv) w w' := ⟨h.size, fun k hc hl => h.block k hc.1 hl⟩
theorem GrA.later (h : GrA W0 R B x tv rv pv lt lp w) (hb : Below w.heap.size w w') : GrA W0 R B x tv rv pv lt lp w' :=
  ⟨h.rd.below hb h.rd.lt, (hb.block B h.ap.b).trans h.mp, h.mt.below hb, h.mr.below hb, h.mq.below hb, h.zt, h.zp,
    (h.it.keeps (Keeps.of_below hb)).mono (fun _ hk => hk.grow hb.size), (h.ip.keeps (Keeps.of_below hb)).mono (fun _ hk => hk.grow hb.size), h.ap.grow hb.size, h.old, h.below.trans (hb.mono h.below.size)⟩
/-- It reads as a grammar. -/
theorem GrA.is_ (h : GrA W0 R B x tv rv pv lt lp w) : GramIs w (Old w) tv rv pv x.g :=
  ⟨⟨lt, h.zt, h.mt.rd (fun _ _ _ hl => hl), h.it.mono (fun _ hk => hk.1.1)⟩, h.mr.rd (fun _ _ _ hl => hl), ⟨lp, h.zp, h.mq.rd (fun _ _ _ hl => hl), h.ip.mono (fun _ hk => hk.1.1)⟩⟩
/-- .. of the call's own blocks. -/
theorem GrA.isN (h : GrA W0 R B x tv rv pv lt lp w) : GramIs w (fun k => k < w.heap.size ∧ W0.heap.size ≤ k) tv rv pv x.g :=
  ⟨⟨lt, h.zt, h.mt.rd (fun _ _ hb hl => ⟨hl, hb⟩), h.it.mono (fun _ hk => ⟨hk.1.1, hk.2⟩)⟩, h.mr.rd (fun _ _ hb hl => ⟨hl, hb⟩), ⟨lp, h.zp, h.mq.rd (fun _ _ hb hl => ⟨hl, hb⟩), h.ip.mono (fun _ hk => ⟨hk.1.1, hk.2⟩)⟩⟩
theorem GrA.cells (h : GrA W0 R B x tv rv pv lt lp w) : w.cell? ⟨R, 0, none⟩ = some tv ∧ w.cell? ⟨R, 1, none⟩ = some rv ∧ w.cell? ⟨R, 2, none⟩ = some pv ∧ w.cell? ⟨R, 3, none⟩ = some (.int .i64 x.g.start) ∧ w.cell? ⟨R, 4, none⟩ = some (.int .i64 x.g.states) ∧
    w.cell? ⟨R, 5, none⟩ = some (.int .i64 x.g.text) ∧ w.cell? ⟨R, 6, none⟩ = some (.int .i64 x.g.nodes) ∧ w.cell? ⟨R, 7, none⟩ = some (.int .i64 x.g.pairs) ∧ w.cell? ⟨R, 8, none⟩ = some (.map (some B)) :=
  ⟨h.rd.cell 0, h.rd.cell 1, h.rd.cell 2, h.rd.cell 3, h.rd.cell 4, h.rd.cell 5, h.rd.cell 6, h.rd.cell 7, h.rd.cell 8⟩
theorem GrA.frozen (h : GrA W0 R B x tv rv pv lt lp w) (i : Nat) : w.frozen? ⟨R, i, none⟩ = false := h.rd.frozen i
/-- One of the reader's numbers is turned. -/
theorem GrA.num (h : GrA W0 R B x tv rv pv lt lp w) (j : Nat) (n : Int) {y : St} (ht : y.g.toks = x.g.toks) (hr : y.g.rules = x.g.rules) (hp : y.g.prods = x.g.prods) (hg : y.giv = x.giv)
    (hc : (#[tv, rv, pv, .int .i64 x.g.start, .int .i64 x.g.states, .int .i64 x.g.text, .int .i64 x.g.nodes, .int .i64 x.g.pairs, .map (some B)] : Array Value).setIfInBounds j (.int .i64 n) = #[tv, rv, pv, .int .i64 y.g.start, .int .i64 y.g.states, .int .i64 y.g.text, .int .i64 y.g.nodes, .int .i64 y.g.pairs, .map (some B)]) :
    GrA W0 R B y tv rv pv lt lp (w.setCell ⟨R, j, none⟩ (.int .i64 n)) := by
  have hz : (w.setCell ⟨R, j, none⟩ (.int .i64 n)).heap.size = w.heap.size := World.size_setCell ..
  have hC : ∀ k, Cold w R B tv rv pv k → Cold (w.setCell ⟨R, j, none⟩ (.int .i64 n)) R B tv rv pv k := fun k hk => hk.grow (Nat.le_of_eq hz.symm)
  refine ⟨(h.rd.set j _).of_eq hc, ?_, ?_, ?_, ?_, by rw [ht]; exact h.zt, by rw [hp]; exact h.zp, ?_, ?_, h.ap.grow (Nat.le_of_eq hz.symm), h.old, h.below.setCell (p := ⟨R, j, none⟩) h.old.1 _⟩
  · rw [hg]; exact (Below.heap_setCell w ⟨R, j, none⟩ _ B (fun e => h.ap.rb e.symm)).trans h.mp
  · rw [ht]; exact h.mt.set (p := ⟨R, j, none⟩) (fun e => (h.ap.t _ e).2.1 rfl) _
  · rw [hr]; exact h.mr.set (p := ⟨R, j, none⟩) (fun e => (h.ap.s _ e).2.1 rfl) _
  · rw [hp]; exact h.mq.set (p := ⟨R, j, none⟩) (fun e => (h.ap.p _ e).2.1 rfl) _
  · rw [ht]; exact (h.it.keeps ((Keeps.refl _ _).setCell (p := ⟨R, j, none⟩) (fun e => e.1.2 (.inl rfl)) _)).mono (fun k hk => ⟨hC k hk.1, hk.2⟩)
  · rw [hp]; exact (h.ip.keeps ((Keeps.refl _ _).setCell (p := ⟨R, j, none⟩) (fun e => e.1.2 (.inl rfl)) _)).mono (fun k hk => ⟨hC k hk.1, hk.2⟩)
/-- A thing is given. -/
theorem GrA.give (h : GrA W0 R B x tv rv pv lt lp w) (s : ByteArray) : GrA W0 R B ⟨x.g, x.giv ++ [s]⟩ tv rv pv lt lp (putMap w B (givV x.giv ++ [(s, .bool true)])) := by
  have hz : (putMap w B (givV x.giv ++ [(s, .bool true)])).heap.size = w.heap.size := putMap_size _
  have hK : ∀ T : Nat → Prop, ¬ T B → Keeps T w (putMap w B (givV x.giv ++ [(s, .bool true)])) := fun T hT => ⟨Nat.le_of_eq hz.symm, fun k hk _ => putMap_other _ (fun e => hT (e ▸ hk))⟩
  have hC : ∀ k, Cold w R B tv rv pv k → Cold (putMap w B (givV x.giv ++ [(s, .bool true)])) R B tv rv pv k := fun k hk => hk.grow (Nat.le_of_eq hz.symm)
  have hM : ∀ {e : TypeId} {size n : Nat} {v : Value} {xs : List Value}, Mine w W0.heap.size e size v n xs → (∀ k, v.ownBlock = some k → k ≠ B) → Mine (putMap w B (givV x.giv ++ [(s, .bool true)])) W0.heap.size e size v n xs := fun hm hv => hm.keep (fun g e _ _ => putMap_other _ (hv g e))
  refine ⟨(putMap_other _ h.ap.rb).trans h.rd, ?_, hM h.mt (fun k e => (h.ap.t k e).2.2.1), hM h.mr (fun k e => (h.ap.s k e).2.2.1), hM h.mq (fun k e => (h.ap.p k e).2.2), h.zt, h.zp,
    (h.it.keeps (hK _ (fun e => e.1.2 (.inr (.inl rfl))))).mono (fun k hk => ⟨hC k hk.1, hk.2⟩), (h.ip.keeps (hK _ (fun e => e.1.2 (.inr (.inl rfl))))).mono (fun k hk => ⟨hC k hk.1, hk.2⟩), h.ap.grow (Nat.le_of_eq hz.symm), h.old, putMap_below h.below h.old.2 _⟩
  have := putMap_at h.mp (givV x.giv ++ [(s, .bool true)])
  unfold givV at this ⊢
  rw [List.map_append]
  exact this
/-- Where the row that was appended to lies. -/
theorem app_block {e : TypeId} {size n : Nat} {v v' : Value} {xs : List Value} (hA : Appended w W0.heap.size e size v n xs v' w') {k : Nat} (hk : v'.ownBlock = some k) : v.ownBlock = some k ∨ (w.heap.size ≤ k ∧ k < w'.heap.size) := by
  rcases hA.at_ with e | ⟨g, e, h1, h2⟩
  · exact .inl (e ▸ hk)
  · rw [e] at hk
    have := Option.some.inj hk
    exact .inr ⟨by omega, by omega⟩
/-- A token is put. -/
theorem GrA.tok (h : GrA W0 R B x tv rv pv lt lp w) {t : Token} {l v' : Value} (hA : Appended w W0.heap.size 42 3 tv (x.g.toks.length + 1) (tokR.all x.g.toks lt ++ tokR.cells t l) v' w')
    (hl : Rd w (ColdN W0 w R B tv rv pv) 5 l t.rex.length (t.rex.flatMap rxCells)) :
    GrA W0 R B ⟨{ x.g with toks := x.g.toks ++ [t] }, x.giv⟩ v' rv pv (lt ++ [l]) lp (w'.setCell ⟨R, 0, none⟩ v') := by
  have hk := hA.keeps
  have hz : (w'.setCell ⟨R, 0, none⟩ v').heap.size = w'.heap.size := World.size_setCell ..
  have hs := hk.size
  have hb : ∀ {k : Nat}, v'.ownBlock = some k → k < w'.heap.size ∧ k ≠ R ∧ k ≠ B ∧ rv.ownBlock ≠ some k ∧ pv.ownBlock ≠ some k := by
    intro k e
    rcases app_block hA e with e2 | ⟨h1, h2⟩
    · have := h.ap.t k e2
      exact ⟨by omega, this.2⟩
    · refine ⟨h2, fun q => ?_, fun q => ?_, fun q => ?_, fun q => ?_⟩
      · have := h.ap.r; omega
      · have := h.ap.b; omega
      · have := (h.ap.s k q).1; omega
      · have := (h.ap.p k q).1; omega
  have hC : ∀ k, Cold w R B tv rv pv k → Cold (w'.setCell ⟨R, 0, none⟩ v') R B v' rv pv k := by
    intro k hk
    refine ⟨by rw [hz]; exact Nat.lt_of_lt_of_le hk.1 hs, fun q => hk.2 ?_⟩
    rcases q with q | q | q | q | q
    · exact .inl q
    · exact .inr (.inl q)
    · rcases app_block hA q with e2 | ⟨h1, h2⟩
      · exact .inr (.inr (.inl e2))
      · have := hk.1; omega
    · exact .inr (.inr (.inr (.inl q)))
    · exact .inr (.inr (.inr (.inr q)))
  have hKw : Keeps (Cold w R B tv rv pv) w (w'.setCell ⟨R, 0, none⟩ v') := Keeps.setCell ⟨hs, fun k hc hlt => hk.block k (fun e => hc.2 (.inr (.inr (.inl e)))) hlt⟩ (p := ⟨R, 0, none⟩) (fun e => e.2 (.inl rfl)) _
  refine ⟨?_, ?_, ?_, ?_, ?_, by rw [List.length_append, List.length_append, h.zt]; rfl, h.zp, ?_, (h.ip.keeps (ColdN.keeps hKw)).mono (fun k hk => ⟨hC k hk.1, hk.2⟩), ?_, h.old, (h.below.trans hA.below).setCell (p := ⟨R, 0, none⟩) h.old.1 _⟩
  · exact (hk.holds (fun e => (h.ap.t _ e).2.1 rfl) h.rd).set 0 v'
  · refine (Below.heap_setCell w' ⟨R, 0, none⟩ _ B (fun e => h.ap.rb e.symm)).trans ?_
    exact (hk.block B (fun e => (h.ap.t _ e).2.2.1 rfl) h.ap.b).trans h.mp
  · have := hA.mine.set (p := ⟨R, 0, none⟩) (fun e => (hb e).2.1 rfl) v'
    rw [List.length_append]
    rw [Rec.all_append tokR _ _ _ _ h.zt]
    simpa [Rec.all] using this
  · exact (h.mr.keep (fun g e _ hg => hk.block g (fun q => (h.ap.t g q).2.2.2.1 e) hg)).set (p := ⟨R, 0, none⟩) (fun e => (h.ap.s _ e).2.1 rfl) _
  · exact (h.mq.keep (fun g e _ hg => hk.block g (fun q => (h.ap.t g q).2.2.2.2 e) hg)).set (p := ⟨R, 0, none⟩) (fun e => (h.ap.p _ e).2.1 rfl) _
  · exact ((h.it.snoc h.zt hl).keeps (ColdN.keeps hKw)).mono (fun k hk => ⟨hC k hk.1, hk.2⟩)
  · refine ⟨by rw [hz]; exact Nat.lt_of_lt_of_le h.ap.r hs, by rw [hz]; exact Nat.lt_of_lt_of_le h.ap.b hs, h.ap.rb, fun k e => ?_, fun k e => ?_, fun k e => ?_⟩
    · rw [hz]; exact hb e
    · have := h.ap.s k e
      rw [hz]
      exact ⟨by omega, this.2⟩
    · have := h.ap.p k e
      rw [hz]
      exact ⟨by omega, this.2⟩
/-- A rule's name is put. -/
theorem GrA.rule (h : GrA W0 R B x tv rv pv lt lp w) {s : ByteArray} {v' : Value} (hA : Appended w W0.heap.size 9 1 rv (x.g.rules.length + 1) (x.g.rules.flatMap strC ++ [.string s]) v' w') :
    GrA W0 R B ⟨{ x.g with rules := x.g.rules ++ [s] }, x.giv⟩ tv v' pv lt lp (w'.setCell ⟨R, 1, none⟩ v') := by
  have hk := hA.keeps
  have hz : (w'.setCell ⟨R, 1, none⟩ v').heap.size = w'.heap.size := World.size_setCell ..
  have hs := hk.size
  have hb : ∀ {k : Nat}, v'.ownBlock = some k → k < w'.heap.size ∧ k ≠ R ∧ k ≠ B ∧ tv.ownBlock ≠ some k ∧ pv.ownBlock ≠ some k := by
    intro k e
    rcases app_block hA e with e2 | ⟨h1, h2⟩
    · have := h.ap.s k e2
      exact ⟨by omega, this.2.1, this.2.2.1, fun q => (h.ap.t k q).2.2.2.1 e2, this.2.2.2⟩
    · refine ⟨h2, fun q => ?_, fun q => ?_, fun q => ?_, fun q => ?_⟩
      · have := h.ap.r; omega
      · have := h.ap.b; omega
      · have := (h.ap.t k q).1; omega
      · have := (h.ap.p k q).1; omega
  have hC : ∀ k, Cold w R B tv rv pv k → Cold (w'.setCell ⟨R, 1, none⟩ v') R B tv v' pv k := by
    intro k hk
    refine ⟨by rw [hz]; exact Nat.lt_of_lt_of_le hk.1 hs, fun q => hk.2 ?_⟩
    rcases q with q | q | q | q | q
    · exact .inl q
    · exact .inr (.inl q)
    · exact .inr (.inr (.inl q))
    · rcases app_block hA q with e2 | ⟨h1, h2⟩
      · exact .inr (.inr (.inr (.inl e2)))
      · have := hk.1; omega
    · exact .inr (.inr (.inr (.inr q)))
  have hKw : Keeps (Cold w R B tv rv pv) w (w'.setCell ⟨R, 1, none⟩ v') := Keeps.setCell ⟨hs, fun k hc hlt => hk.block k (fun e => hc.2 (.inr (.inr (.inr (.inl e))))) hlt⟩ (p := ⟨R, 1, none⟩) (fun e => e.2 (.inl rfl)) _
  refine ⟨?_, ?_, ?_, ?_, ?_, h.zt, h.zp, (h.it.keeps (ColdN.keeps hKw)).mono (fun k hk => ⟨hC k hk.1, hk.2⟩), (h.ip.keeps (ColdN.keeps hKw)).mono (fun k hk => ⟨hC k hk.1, hk.2⟩), ?_, h.old, (h.below.trans hA.below).setCell (p := ⟨R, 1, none⟩) h.old.1 _⟩
  · exact (hk.holds (fun e => (h.ap.s _ e).2.1 rfl) h.rd).set 1 v'
  · refine (Below.heap_setCell w' ⟨R, 1, none⟩ _ B (fun e => h.ap.rb e.symm)).trans ?_
    exact (hk.block B (fun e => (h.ap.s _ e).2.2.1 rfl) h.ap.b).trans h.mp
  · exact (h.mt.keep (fun g e _ hg => hk.block g (fun q => (h.ap.t g e).2.2.2.1 q) hg)).set (p := ⟨R, 1, none⟩) (fun e => (h.ap.t _ e).2.1 rfl) _
  · have := hA.mine.set (p := ⟨R, 1, none⟩) (fun e => (hb e).2.1 rfl) v'
    rw [List.length_append, List.flatMap_append]
    simpa [strC] using this
  · exact (h.mq.keep (fun g e _ hg => hk.block g (fun q => (h.ap.s g q).2.2.2 e) hg)).set (p := ⟨R, 1, none⟩) (fun e => (h.ap.p _ e).2.1 rfl) _
  · refine ⟨by rw [hz]; exact Nat.lt_of_lt_of_le h.ap.r hs, by rw [hz]; exact Nat.lt_of_lt_of_le h.ap.b hs, h.ap.rb, fun k e => ?_, fun k e => ?_, fun k e => ?_⟩
    · have := h.ap.t k e
      rw [hz]
      exact ⟨by omega, this.2.1, this.2.2.1, fun q => (hb q).2.2.2.1 e, this.2.2.2.2⟩
    · have := hb e
      rw [hz]
      exact ⟨this.1, this.2.1, this.2.2.1, this.2.2.2.2⟩
    · have := h.ap.p k e
      rw [hz]
      exact ⟨by omega, this.2⟩
/-- A production is put. -/
theorem GrA.prod (h : GrA W0 R B x tv rv pv lt lp w) {t : Prod} {l v' : Value} (hA : Appended w W0.heap.size 50 2 pv (x.g.prods.length + 1) (prodR.all x.g.prods lp ++ prodR.cells t l) v' w')
    (hl : Rd w (ColdN W0 w R B tv rv pv) 4 l t.right.length (t.right.flatMap itCells)) :
    GrA W0 R B ⟨{ x.g with prods := x.g.prods ++ [t] }, x.giv⟩ tv rv v' lt (lp ++ [l]) (w'.setCell ⟨R, 2, none⟩ v') := by
  have hk := hA.keeps
  have hz : (w'.setCell ⟨R, 2, none⟩ v').heap.size = w'.heap.size := World.size_setCell ..
  have hs := hk.size
  have hb : ∀ {k : Nat}, v'.ownBlock = some k → k < w'.heap.size ∧ k ≠ R ∧ k ≠ B ∧ tv.ownBlock ≠ some k ∧ rv.ownBlock ≠ some k := by
    intro k e
    rcases app_block hA e with e2 | ⟨h1, h2⟩
    · have := h.ap.p k e2
      exact ⟨by omega, this.2.1, this.2.2, fun q => (h.ap.t k q).2.2.2.2 e2, fun q => (h.ap.s k q).2.2.2 e2⟩
    · refine ⟨h2, fun q => ?_, fun q => ?_, fun q => ?_, fun q => ?_⟩
      · have := h.ap.r; omega
      · have := h.ap.b; omega
      · have := (h.ap.t k q).1; omega
      · have := (h.ap.s k q).1; omega
  have hC : ∀ k, Cold w R B tv rv pv k → Cold (w'.setCell ⟨R, 2, none⟩ v') R B tv rv v' k := by
    intro k hk
    refine ⟨by rw [hz]; exact Nat.lt_of_lt_of_le hk.1 hs, fun q => hk.2 ?_⟩
    rcases q with q | q | q | q | q
    · exact .inl q
    · exact .inr (.inl q)
    · exact .inr (.inr (.inl q))
    · exact .inr (.inr (.inr (.inl q)))
    · rcases app_block hA q with e2 | ⟨h1, h2⟩
      · exact .inr (.inr (.inr (.inr e2)))
      · have := hk.1; omega
  have hKw : Keeps (Cold w R B tv rv pv) w (w'.setCell ⟨R, 2, none⟩ v') := Keeps.setCell ⟨hs, fun k hc hlt => hk.block k (fun e => hc.2 (.inr (.inr (.inr (.inr e))))) hlt⟩ (p := ⟨R, 2, none⟩) (fun e => e.2 (.inl rfl)) _
  refine ⟨?_, ?_, ?_, ?_, ?_, h.zt, by rw [List.length_append, List.length_append, h.zp]; rfl, (h.it.keeps (ColdN.keeps hKw)).mono (fun k hk => ⟨hC k hk.1, hk.2⟩), ?_, ?_, h.old, (h.below.trans hA.below).setCell (p := ⟨R, 2, none⟩) h.old.1 _⟩
  · exact (hk.holds (fun e => (h.ap.p _ e).2.1 rfl) h.rd).set 2 v'
  · refine (Below.heap_setCell w' ⟨R, 2, none⟩ _ B (fun e => h.ap.rb e.symm)).trans ?_
    exact (hk.block B (fun e => (h.ap.p _ e).2.2 rfl) h.ap.b).trans h.mp
  · exact (h.mt.keep (fun g e _ hg => hk.block g (fun q => (h.ap.t g e).2.2.2.2 q) hg)).set (p := ⟨R, 2, none⟩) (fun e => (h.ap.t _ e).2.1 rfl) _
  · exact (h.mr.keep (fun g e _ hg => hk.block g (fun q => (h.ap.s g e).2.2.2 q) hg)).set (p := ⟨R, 2, none⟩) (fun e => (h.ap.s _ e).2.1 rfl) _
  · have := hA.mine.set (p := ⟨R, 2, none⟩) (fun e => (hb e).2.1 rfl) v'
    rw [List.length_append]
    rw [Rec.all_append prodR _ _ _ _ h.zp]
    simpa [Rec.all] using this
  · exact ((h.ip.snoc h.zp hl).keeps (ColdN.keeps hKw)).mono (fun k hk => ⟨hC k hk.1, hk.2⟩)
  · refine ⟨by rw [hz]; exact Nat.lt_of_lt_of_le h.ap.r hs, by rw [hz]; exact Nat.lt_of_lt_of_le h.ap.b hs, h.ap.rb, fun k e => ?_, fun k e => ?_, fun k e => ?_⟩
    · have := h.ap.t k e
      rw [hz]
      exact ⟨by omega, this.2.1, this.2.2.1, this.2.2.2.1, fun q => (hb q).2.2.2.1 e⟩
    · have := h.ap.s k e
      rw [hz]
      exact ⟨by omega, this.2.1, this.2.2.1, fun q => (hb q).2.2.2.2 e⟩
    · have := hb e
      rw [hz]
      exact ⟨this.1, this.2.1, this.2.2.1⟩
/-- What lies still stays so. -/
structure FrG (R B : Nat) (tv rv pv : Value) (W : World) (tv' rv' pv' : Value) (w : World) : Prop where
  k : Keeps (Cold W R B tv rv pv) W w
  c : ∀ q, Cold W R B tv rv pv q → Cold w R B tv' rv' pv' q
theorem FrG.trans {W w w2 : World} {tv rv pv tv' rv' pv' tv2 rv2 pv2 : Value} (h : FrG R B tv rv pv W tv' rv' pv' w) (h2 : FrG R B tv' rv' pv' w tv2 rv2 pv2 w2) : FrG R B tv rv pv W tv2 rv2 pv2 w2 :=
  ⟨⟨Nat.le_trans h.k.size h2.k.size, fun q hc hl => (h2.k.block q (h.c q hc) (Nat.lt_of_lt_of_le hl h.k.size)).trans (h.k.block q hc hl)⟩, fun q hc => h2.c q (h.c q hc)⟩
theorem FrG.later {W w : World} (hb : Below W.heap.size W w) : FrG R B tv rv pv W tv rv pv w := ⟨Keeps.of_below hb, fun _ hk => hk.grow hb.size⟩
theorem FrG.num {W : World} (j : Nat) (v : Value) : FrG R B tv rv pv W tv rv pv (W.setCell ⟨R, j, none⟩ v) :=
  ⟨(Keeps.refl _ _).setCell (p := ⟨R, j, none⟩) (fun e => e.2 (.inl rfl)) _, fun _ hk => hk.grow (Nat.le_of_eq (World.size_setCell ..).symm)⟩
theorem FrG.give {W w : World} (hk : Keeps (fun k => k ≠ B) W w) : FrG R B tv rv pv W tv rv pv w :=
  ⟨⟨hk.size, fun k hc hl => hk.block k (fun e => hc.2 (e ▸ .inr (.inl rfl))) hl⟩, fun _ h => h.grow hk.size⟩
theorem FrG.tok {e : TypeId} {size n : Nat} {v' : Value} {xs : List Value} (hA : Appended w W0.heap.size e size tv n xs v' w') : FrG R B tv rv pv w v' rv pv (w'.setCell ⟨R, 0, none⟩ v') := by
  have hk := hA.keeps
  have hz : (w'.setCell ⟨R, 0, none⟩ v').heap.size = w'.heap.size := World.size_setCell ..
  have hs := hk.size
  refine ⟨Keeps.setCell ⟨hs, fun k hc hlt => hk.block k (fun e => hc.2 (.inr (.inr (.inl e)))) hlt⟩ (p := ⟨R, 0, none⟩) (fun e => e.2 (.inl rfl)) _, ?_⟩
  intro k hk
  refine ⟨by rw [hz]; exact Nat.lt_of_lt_of_le hk.1 hs, fun q => hk.2 ?_⟩
  rcases q with q | q | q | q | q
  · exact .inl q
  · exact .inr (.inl q)
  · rcases app_block hA q with e2 | ⟨h1, h2⟩
    · exact .inr (.inr (.inl e2))
    · have := hk.1; omega
  · exact .inr (.inr (.inr (.inl q)))
  · exact .inr (.inr (.inr (.inr q)))
theorem FrG.rule {e : TypeId} {size n : Nat} {v' : Value} {xs : List Value} (hA : Appended w W0.heap.size e size rv n xs v' w') : FrG R B tv rv pv w tv v' pv (w'.setCell ⟨R, 1, none⟩ v') := by
  have hk := hA.keeps
  have hz : (w'.setCell ⟨R, 1, none⟩ v').heap.size = w'.heap.size := World.size_setCell ..
  have hs := hk.size
  refine ⟨Keeps.setCell ⟨hs, fun k hc hlt => hk.block k (fun e => hc.2 (.inr (.inr (.inr (.inl e))))) hlt⟩ (p := ⟨R, 1, none⟩) (fun e => e.2 (.inl rfl)) _, ?_⟩
  intro k hk
  refine ⟨by rw [hz]; exact Nat.lt_of_lt_of_le hk.1 hs, fun q => hk.2 ?_⟩
  rcases q with q | q | q | q | q
  · exact .inl q
  · exact .inr (.inl q)
  · exact .inr (.inr (.inl q))
  · rcases app_block hA q with e2 | ⟨h1, h2⟩
    · exact .inr (.inr (.inr (.inl e2)))
    · have := hk.1; omega
  · exact .inr (.inr (.inr (.inr q)))
theorem FrG.prod {e : TypeId} {size n : Nat} {v' : Value} {xs : List Value} (hA : Appended w W0.heap.size e size pv n xs v' w') : FrG R B tv rv pv w tv rv v' (w'.setCell ⟨R, 2, none⟩ v') := by
  have hk := hA.keeps
  have hz : (w'.setCell ⟨R, 2, none⟩ v').heap.size = w'.heap.size := World.size_setCell ..
  have hs := hk.size
  refine ⟨Keeps.setCell ⟨hs, fun k hc hlt => hk.block k (fun e => hc.2 (.inr (.inr (.inr (.inr e))))) hlt⟩ (p := ⟨R, 2, none⟩) (fun e => e.2 (.inl rfl)) _, ?_⟩
  intro k hk
  refine ⟨by rw [hz]; exact Nat.lt_of_lt_of_le hk.1 hs, fun q => hk.2 ?_⟩
  rcases q with q | q | q | q | q
  · exact .inl q
  · exact .inr (.inl q)
  · exact .inr (.inr (.inl q))
  · exact .inr (.inr (.inr (.inl q)))
  · rcases app_block hA q with e2 | ⟨h1, h2⟩
    · exact .inr (.inr (.inr (.inr e2)))
    · have := hk.1; omega
end
end Go.Proofs.YtfmdmeokbbpmlaaGreat

namespace Go.Proofs.YtfmdmeokbbpmlaaGreat
open Go.RowKit Go.Shelf

/-- What a line's function leaves. -/
def GrTo (W0 : World) (R B : Nat) (tv rv pv : Value) (W : World) (X : Int ⊕ St) (r : Ending) (w' : World) : Prop := match X with
  | .inl e => r = .returned (.int .i64 e) ∧ Below W0.heap.size W0 w'
  | .inr y => r = .returned (.int .i64 0) ∧ ∃ tv' rv' pv' lt lp, GrA W0 R B y tv' rv' pv' lt lp w' ∧ FrG R B tv rv pv W tv' rv' pv' w'
theorem giv_look {W0 w : World} {R B : Nat} {x : St} {tv rv pv : Value} {lt lp : List Value} (H : GrA W0 R B x tv rv pv lt lp w) (s : ByteArray) :
    (Instr.lookup 52 (.map (some B)) (.string s) false).run Tryz.prog w = .ok (.bool (inK s x.giv)) w := by
  have h := run_lookK (P := Tryz.prog) (t := 52) (k := 9) (e := 4) (by kernel_rfl) (by kernel_rfl) H.mp (z := .bool false) (by kernel_rfl) s false
  rw [h, look_giv]
  cases inK s x.giv <;> rfl
theorem giv_put {W0 w : World} {R B : Nat} {x : St} {tv rv pv : Value} {lt lp : List Value} (H : GrA W0 R B x tv rv pv lt lp w) {s : ByteArray} (hs : inK s x.giv = false) :
    (Instr.mapUpdate 52 (.map (some B)) (.string s) (.bool true)).run Tryz.prog w = .ok () (putMap w B (givV x.giv ++ [(s, .bool true)])) :=
  run_putK (P := Tryz.prog) (t := 52) (k := 9) (e := 4) (by kernel_rfl) (by kernel_rfl) H.mp (by rw [look_giv, hs]; rfl) _
set_option maxRecDepth 20000 in
set_option maxHeartbeats 4000000 in
theorem gr_once (W0 : World) (R B : Nat) (x : St) (tv rv pv : Value) (lt lp : List Value) (s : ByteArray) (W : World) (H : GrA W0 R B x tv rv pv lt lp W) :
    Calls Tryz.prog 60 #[.pointer (some ⟨R, 0, none⟩), .string s] W fun r w' => (inK s x.giv = true ∧ r = .returned (.int .i64 8) ∧ w' = W) ∨ (inK s x.giv = false ∧ r = .returned (.int .i64 0) ∧ Hid (GrA W0 R B ⟨x.g, x.giv ++ [s]⟩ tv rv pv lt lp w') ∧ Keeps (fun k => k ≠ B) W w') := by
  have hl := giv_look H s
  have c8 := H.rd.cell 8
  have c8 : W.cell? ⟨R, 8, none⟩ = some (.map (some B)) := c8
  cases hs : inK s x.giv with
  | true =>
    rw [hs] at hl
    clear H hs
    go_enter Tryz.func60, Tryz.ntmps60
    go_wp2
    go_ret
    exact .inl ⟨trivial, rfl, rfl⟩
  | false =>
    rw [hs] at hl
    have hp := giv_put H hs
    have HF := hidden (H.give s)
    have hK : Keeps (fun k => k ≠ B) W (putMap W B (givV x.giv ++ [(s, .bool true)])) := ⟨Nat.le_of_eq (putMap_size _).symm, fun k hk _ => putMap_other _ hk⟩
    clear H hs
    generalize putMap W B (givV x.giv ++ [(s, .bool true)]) = W2 at *
    go_enter Tryz.func60, Tryz.ntmps60
    go_wp2
    go_ret
    exact .inr ⟨trivial, rfl, HF, hK⟩
set_option maxRecDepth 20000 in
set_option maxHeartbeats 4000000 in
theorem gr_fresh (W0 : World) (R B : Nat) (x : St) (tv rv pv : Value) (lt lp : List Value) (s : ByteArray) (W : World) (H : GrA W0 R B x tv rv pv lt lp W) (hz : s.size ≤ maxLen) (s1 : x.g.toks.length ≤ 100000) :
    Calls Tryz.prog 62 #[.pointer (some ⟨R, 0, none⟩), .string s] W fun r w' => r = .returned (.int .i64 (freshG x.g s)) ∧ Below W.heap.size W w' := by
  have HN := hidden (word_name s W hz)
  have HF := hidden (fun (w' : World) (hb : Below W.heap.size W w') => gram_Find tv rv pv x.g s w' (H.later hb).is_ s1)
  have HC := hidden (fun (w' : World) (hb : Below W.heap.size W w') => (H.later hb).cells)
  have hE : Hid (freshG x.g s = if nameB s = false then 7 else if 0 ≤ findNo x.g s then 8 else 0) := hidden rfl
  rw [hE.out]
  clear H hE
  generalize nameB s = nm at *
  generalize findNo x.g s = n at *
  generalize isRule x.g s = ir at *
  unfold gramCells at HF
  cases nm with
  | false =>
    clear HF HC
    go_enter Tryz.func62, Tryz.ntmps62
    go_wp2_with fail
    refine HN.out.mono ?_
    rintro r w1 ⟨rfl, hb1⟩
    go_wp2
    go_ret
    exact ⟨rfl, hb1⟩
  | true =>
    rw [if_neg (by decide)]
    obtain ⟨e, he⟩ : ∃ e, Hid ((if 0 ≤ n then (8 : Int) else 0) = e) := ⟨_, hidden rfl⟩
    rw [he.out]
    go_enter Tryz.func62, Tryz.ntmps62
    go_wp2_with fail
    refine HN.out.mono ?_
    rintro r w1 ⟨rfl, hb1⟩
    obtain ⟨c0, c1, c2, c3, c4, c5, c6, c7, c8⟩ := HC.out w1 hb1
    have HX := hidden (HF.out w1 hb1)
    clear HF HC HN
    go_wp2_with fail
    refine HX.out.mono ?_
    rintro r w2 ⟨rfl, hb2⟩
    have hbw := hb1.trans (hb2.mono hb1.size)
    clear c0 c1 c2 c3 c4 c5 c6 c7 c8 HX hb1 hb2
    by_cases hn : 0 ≤ n
    · obtain rfl : e = 8 := by rw [← he.out, if_pos hn]
      go_wp2
      go_ret
      exact ⟨rfl, hbw⟩
    · obtain rfl : e = 0 := by rw [← he.out, if_neg hn]
      go_wp2
      go_ret
      exact ⟨rfl, hbw⟩
set_option maxRecDepth 20000 in
set_option maxHeartbeats 4000000 in
theorem gr_of (W0 : World) (R B : Nat) (x : St) (tv rv pv : Value) (lt lp : List Value) (s : ByteArray) (W : World) (H : GrA W0 R B x tv rv pv lt lp W) (s1 : x.g.toks.length ≤ 100000) :
    Calls Tryz.prog 65 #[.pointer (some ⟨R, 0, none⟩), .string s] W fun r w' => r = .returned (.tuple #[.int .i64 (findNo x.g s), .bool (isRule x.g s)]) ∧ Below W.heap.size W w' := by
  have HX := hidden (gram_Find tv rv pv x.g s W H.is_ s1)
  obtain ⟨c0, c1, c2, c3, c4, c5, c6, c7, c8⟩ := H.cells
  clear H
  generalize findNo x.g s = n at *
  generalize isRule x.g s = ir at *
  unfold gramCells at HX
  go_enter Tryz.func65, Tryz.ntmps65
  go_wp2_with fail
  refine HX.out.mono ?_
  rintro r w1 ⟨rfl, hb1⟩
  go_wp2
  exact bodyPost_ret (v := .tuple #[.int .i64 n, .bool ir]) (by simp [results, Tryz.results65, go_sem]) rfl ⟨rfl, hb1⟩
end Go.Proofs.YtfmdmeokbbpmlaaGreat

namespace Go.Proofs.YtfmdmeokbbpmlaaGreat
open Go.RowKit Go.Shelf

theorem start_ok {x : St} {a : ByteArray} : startG x a = if inK startW x.giv = true then .inl 8 else if isRule x.g a = false then .inl 11 else .inr ⟨{ x.g with start := findNo x.g a }, x.giv ++ [startW]⟩ := rfl
set_option maxRecDepth 20000 in
set_option maxHeartbeats 4000000 in
theorem gr_start (W0 : World) (R B : Nat) (x : St) (tv rv pv wv : Value) (lt lp : List Value) (ws : List ByteArray) (a : ByteArray) (W : World) (H : GrA W0 R B x tv rv pv lt lp W) (HS : Strs W (Cold W R B tv rv pv) wv ws) (h1 : ws[1]? = some a) (s1 : x.g.toks.length ≤ 100000) :
    Calls Tryz.prog 40 #[.pointer (some ⟨R, 0, none⟩), wv] W fun r w' => Hid (GrTo W0 R B tv rv pv W (startG x a) r w') := by
  have HO := hidden (gr_once W0 R B x tv rv pv lt lp startW W H)
  have hB := H.below
  obtain ⟨X, HX⟩ : ∃ X, Hid (startG x a = X) := ⟨_, hidden rfl⟩
  rw [HX.out]
  obtain ⟨Aw, cw, rfl, v1, m1⟩ := HS.val
  obtain ⟨b, off, rfl, hT, hc⟩ := strs_at HS h1
  have q1 : (1 : Int) < (ws.length : Int) := by have := (List.getElem?_eq_some_iff.1 h1).1; omega
  have HL := hidden hc
  have hne : b ≠ B := fun e => hT.2 (e ▸ .inr (.inl rfl))
  have hbs := hT.1
  unfold startW at HO
  clear HS h1 H hT hc
  go_enter Tryz.func40, Tryz.ntmps40
  go_wp2_with fail
  refine HO.out.mono ?_
  rintro r w1 (⟨hi, rfl, rfl⟩ | ⟨hi, rfl, HA, hk⟩)
  · have e0 : X = .inl 8 := by rw [← HX.out]; unfold startG startW; rw [hi]; rfl
    subst e0
    clear HX HO HL
    go_wp2
    go_ret
    exact hidden ⟨rfl, hB⟩
  · have hw := hk.cell hne HL.out
    have HF := hidden (gr_of W0 R B ⟨x.g, x.giv ++ [startW]⟩ tv rv pv lt lp a w1 HA.out s1)
    have HFr : Hid (FrG R B tv rv pv W tv rv pv w1) := hidden (FrG.give hk)
    have HX2 : Hid ((if isRule x.g a = false then .inl 11 else .inr ⟨{ x.g with start := findNo x.g a }, x.giv ++ [startW]⟩ : Int ⊕ St) = X) := hidden (by
      rw [← HX.out]; unfold startG; have hi2 : inK startW x.giv = false := hi; rw [hi2]; rfl)
    have HA2 : Hid (GrA W0 R B ⟨x.g, x.giv ++ [startW]⟩ tv rv pv lt lp w1) := HA
    clear HX HO HL hk hi HA
    go_wp2_with fail
    refine HF.out.mono ?_
    rintro r w2 ⟨rfl, hb2⟩
    have HB := hidden (HA2.out.later hb2)
    replace HFr := hidden (HFr.out.trans (FrG.later hb2))
    clear HF HA2 hw hb2
    dsimp only
    have hbz := HB.out.below
    cases hir : isRule x.g a with
    | false =>
      have e0 : X = .inl 11 := by rw [← HX2.out, hir]; rfl
      subst e0
      clear HX2 HB
      go_wp2
      go_ret
      exact hidden ⟨rfl, hbz⟩
    | true =>
      have e0 : X = .inr ⟨{ x.g with start := findNo x.g a }, x.giv ++ [startW]⟩ := by rw [← HX2.out, hir]; rfl
      subst e0
      have HC := hidden (HB.out.num 3 (findNo x.g a) (y := ⟨{ x.g with start := findNo x.g a }, x.giv ++ [startW]⟩) rfl rfl rfl rfl rfl)
      have c3 := HB.out.rd.cell 3
      have c3 : w2.cell? ⟨R, 3, none⟩ = some (.int .i64 x.g.start) := c3
      have f3 := HB.out.frozen 3
      clear HX2 HB
      go_wp2
      go_ret
      exact hidden ⟨rfl, tv, rv, pv, lt, lp, HC.out, HFr.out.trans (FrG.num 3 _)⟩
theorem bndI_cases (a : ByteArray) : (bndI a = 0 ∧ a = wStates) ∨ (bndI a = 1 ∧ a = wText) ∨ (bndI a = 2 ∧ a = wNodes) ∨ (bndI a = 3 ∧ a = wPairs) ∨ (bndI a = 4 ∧ eqB a wStates = false ∧ eqB a wText = false ∧ eqB a wNodes = false ∧ eqB a wPairs = false) := by
  have hn : ∀ {b : ByteArray}, (a == b) = false → eqB a b = false := fun {b} h => eqB_false (fun e => by rw [e, (ba_beq b b).2 rfl] at h; cases h)
  unfold bndI
  cases h0 : a == wStates with
  | true => exact .inl ⟨rfl, (ba_beq _ _).1 h0⟩
  | false =>
    cases h1 : a == wText with
    | true => exact .inr (.inl ⟨rfl, (ba_beq _ _).1 h1⟩)
    | false =>
      cases h2 : a == wNodes with
      | true => exact .inr (.inr (.inl ⟨rfl, (ba_beq _ _).1 h2⟩))
      | false =>
        cases h3 : a == wPairs with
        | true => exact .inr (.inr (.inr (.inl ⟨rfl, (ba_beq _ _).1 h3⟩)))
        | false => exact .inr (.inr (.inr (.inr ⟨rfl, hn h0, hn h1, hn h2, hn h3⟩)))
end Go.Proofs.YtfmdmeokbbpmlaaGreat

namespace Go.Proofs.YtfmdmeokbbpmlaaGreat
open Go.RowKit Go.Shelf

theorem lit_eql (a b : ByteArray) (l : List UInt8) (hb : b.toList = l) : (a.toList == l) = eqB a b := by rw [← hb]; exact strs_eql a b
set_option maxRecDepth 20000 in
set_option maxHeartbeats 8000000 in
theorem gr_bound (W0 : World) (R B : Nat) (x : St) (tv rv pv wv : Value) (lt lp : List Value) (ws : List ByteArray) (a c : ByteArray) (W : World) (H : GrA W0 R B x tv rv pv lt lp W) (HS : Strs W (Cold W R B tv rv pv) wv ws) (h1 : ws[1]? = some a) (h2 : ws[2]? = some c) (haz : a.size ≤ 1000000) (hcz : c.size ≤ maxLen) :
    Calls Tryz.prog 37 #[.pointer (some ⟨R, 0, none⟩), wv] W fun r w' => Hid (GrTo W0 R B tv rv pv W (boundG x a c) r w') := by
  have HO := hidden (gr_once W0 R B x tv rv pv lt lp (wBoundS ++ a) W H)
  have hB := H.below
  obtain ⟨X, HX⟩ : ∃ X, Hid (boundG x a c = X) := ⟨_, hidden rfl⟩
  rw [HX.out]
  obtain ⟨Aw, cw, rfl, v1, m1⟩ := HS.val
  obtain ⟨b, off, rfl, hT, hc⟩ := strs_at HS h1
  obtain ⟨b', off', e9, hT', hc'⟩ := strs_at HS h2
  cases e9
  have q1 : (1 : Int) < (ws.length : Int) := by have := (List.getElem?_eq_some_iff.1 h2).1; omega
  have q2 : (2 : Int) < (ws.length : Int) := by have := (List.getElem?_eq_some_iff.1 h2).1; omega
  have HL := hidden hc'
  have hne : b ≠ B := fun e => hT.2 (e ▸ .inr (.inl rfl))
  have hbs := hT.1
  have ht0 : wStates.toList = [115, 116, 97, 116, 101, 115] := by rw [ByteArray.toList_eq]; rfl
  have ht1 : wText.toList = [116, 101, 120, 116] := by rw [ByteArray.toList_eq]; rfl
  have ht2 : wNodes.toList = [110, 111, 100, 101, 115] := by rw [ByteArray.toList_eq]; rfl
  have ht3 : wPairs.toList = [112, 97, 105, 114, 115] := by rw [ByteArray.toList_eq]; rfl
  have g0 := lit_eql a wStates _ ht0
  have g1 := lit_eql a wText _ ht1
  have g2 := lit_eql a wNodes _ ht2
  have g3 := lit_eql a wPairs _ ht3
  unfold wBoundS at HO
  have hsz : ¬ 9223372036854775807 < 6 + a.size := by omega
  clear HS h1 h2 H hT hT' ht0 ht1 ht2 ht3
  rcases bndI_cases a with ⟨hi0, hi1⟩ | ⟨hi0, hi1⟩ | ⟨hi0, hi1⟩ | ⟨hi0, hi1⟩ | ⟨hi0, hi1, hi2, hi3, hi4⟩
  · -- wStates
    have hI : bndI a = 0 := hi0
    have he : eqB a wStates = true := eqB_true hi1
    rw [he] at g0
    clear g1
    clear g2
    clear g3
    have hX : X = if inK (wBoundS ++ a) x.giv = true then .inl 8 else if (readN c.data.toList 4096).2 ≠ 0 then .inl (readN c.data.toList 4096).2 else .inr ⟨{ x.g with states := (readN c.data.toList 4096).1 }, x.giv ++ [wBoundS ++ a]⟩ := by
      rw [← HX.out]; unfold boundG; rw [hI]; rfl
    have HXx := hidden hX
    clear hX HX hI he hi0 hi1
    have HN := hidden (fun w' => num_Read c 4096 w' (by decide) (by decide) hcz)
    generalize readN c.data.toList 4096 = rn at *
    obtain ⟨n, e⟩ := rn
    dsimp only at HN HXx
    go_enter Tryz.func37, Tryz.ntmps37
    go_wp2_with fail
    refine HO.out.mono ?_
    rintro r w1 (⟨hi, rfl, rfl⟩ | ⟨hi, rfl, HA, hk⟩)
    · have hi' : inK (wBoundS ++ a) x.giv = true := hi
      have e0 : X = .inl 8 := by rw [HXx.out, if_pos hi']
      subst e0
      clear HXx HO HL hi hi'
      go_wp2
      go_ret
      exact hidden ⟨rfl, hB⟩
    · have hw := hk.cell hne HL.out
      have HFr : Hid (FrG R B tv rv pv W tv rv pv w1) := hidden (FrG.give hk)
      have HX2 : Hid (X = if e ≠ 0 then .inl e else .inr ⟨{ x.g with states := n }, x.giv ++ [wBoundS ++ a]⟩) := hidden (by have hi' : inK (wBoundS ++ a) x.giv = false := hi; rw [HXx.out, hi']; rfl)
      have HA2 : Hid (GrA W0 R B ⟨x.g, x.giv ++ [wBoundS ++ a]⟩ tv rv pv lt lp w1) := HA
      clear HXx HO HL hk hi HA
      go_wp2_with fail
      refine (HN.out w1).mono ?_
      rintro r w2 ⟨rfl, rfl⟩
      have HC := hidden (HA2.out.num 4 n (y := ⟨{ x.g with states := n }, x.giv ++ [wBoundS ++ a]⟩) rfl rfl rfl rfl rfl)
      have c3 := HA2.out.rd.cell 4
      have c3 : w1.cell? ⟨R, 4, none⟩ = some (.int .i64 x.g.states) := c3
      have f3 := HA2.out.frozen 4
      have hbz := HC.out.below
      clear HN hw HA2
      by_cases h0 : e ≠ 0
      · have e0 : X = .inl e := by rw [HX2.out, if_pos h0]
        subst e0
        clear HX2 HC h0
        go_wp2
        go_ret
        exact hidden ⟨rfl, hbz⟩
      · have e0 : X = .inr ⟨{ x.g with states := n }, x.giv ++ [wBoundS ++ a]⟩ := by rw [HX2.out, if_neg h0]
        subst e0
        obtain rfl : e = 0 := Classical.not_not.1 h0
        clear HX2 h0
        go_wp2
        go_ret
        exact hidden ⟨rfl, tv, rv, pv, lt, lp, HC.out, HFr.out.trans (FrG.num 4 _)⟩
  · -- wText
    have hI : bndI a = 1 := hi0
    have he : eqB a wText = true := eqB_true hi1
    rw [he] at g1
    have hf0 : eqB a wStates = false := eqB_false (fun e => by rw [hi1] at e; exact absurd (congrArg (fun s : ByteArray => s.data.toList) e) (by decide))
    rw [hf0] at g0
    clear hf0
    clear g2
    clear g3
    have hX : X = if inK (wBoundS ++ a) x.giv = true then .inl 8 else if (readN c.data.toList 65536).2 ≠ 0 then .inl (readN c.data.toList 65536).2 else .inr ⟨{ x.g with text := (readN c.data.toList 65536).1 }, x.giv ++ [wBoundS ++ a]⟩ := by
      rw [← HX.out]; unfold boundG; rw [hI]; rfl
    have HXx := hidden hX
    clear hX HX hI he hi0 hi1
    have HN := hidden (fun w' => num_Read c 65536 w' (by decide) (by decide) hcz)
    generalize readN c.data.toList 65536 = rn at *
    obtain ⟨n, e⟩ := rn
    dsimp only at HN HXx
    go_enter Tryz.func37, Tryz.ntmps37
    go_wp2_with fail
    refine HO.out.mono ?_
    rintro r w1 (⟨hi, rfl, rfl⟩ | ⟨hi, rfl, HA, hk⟩)
    · have hi' : inK (wBoundS ++ a) x.giv = true := hi
      have e0 : X = .inl 8 := by rw [HXx.out, if_pos hi']
      subst e0
      clear HXx HO HL hi hi'
      go_wp2
      go_ret
      exact hidden ⟨rfl, hB⟩
    · have hw := hk.cell hne HL.out
      have HFr : Hid (FrG R B tv rv pv W tv rv pv w1) := hidden (FrG.give hk)
      have HX2 : Hid (X = if e ≠ 0 then .inl e else .inr ⟨{ x.g with text := n }, x.giv ++ [wBoundS ++ a]⟩) := hidden (by have hi' : inK (wBoundS ++ a) x.giv = false := hi; rw [HXx.out, hi']; rfl)
      have HA2 : Hid (GrA W0 R B ⟨x.g, x.giv ++ [wBoundS ++ a]⟩ tv rv pv lt lp w1) := HA
      clear HXx HO HL hk hi HA
      go_wp2_with fail
      refine (HN.out w1).mono ?_
      rintro r w2 ⟨rfl, rfl⟩
      have HC := hidden (HA2.out.num 5 n (y := ⟨{ x.g with text := n }, x.giv ++ [wBoundS ++ a]⟩) rfl rfl rfl rfl rfl)
      have c3 := HA2.out.rd.cell 5
      have c3 : w1.cell? ⟨R, 5, none⟩ = some (.int .i64 x.g.text) := c3
      have f3 := HA2.out.frozen 5
      have hbz := HC.out.below
      clear HN hw HA2
      by_cases h0 : e ≠ 0
      · have e0 : X = .inl e := by rw [HX2.out, if_pos h0]
        subst e0
        clear HX2 HC h0
        go_wp2
        go_ret
        exact hidden ⟨rfl, hbz⟩
      · have e0 : X = .inr ⟨{ x.g with text := n }, x.giv ++ [wBoundS ++ a]⟩ := by rw [HX2.out, if_neg h0]
        subst e0
        obtain rfl : e = 0 := Classical.not_not.1 h0
        clear HX2 h0
        go_wp2
        go_ret
        exact hidden ⟨rfl, tv, rv, pv, lt, lp, HC.out, HFr.out.trans (FrG.num 5 _)⟩
  · -- wNodes
    have hI : bndI a = 2 := hi0
    have he : eqB a wNodes = true := eqB_true hi1
    rw [he] at g2
    have hf0 : eqB a wStates = false := eqB_false (fun e => by rw [hi1] at e; exact absurd (congrArg (fun s : ByteArray => s.data.toList) e) (by decide))
    rw [hf0] at g0
    clear hf0
    have hf1 : eqB a wText = false := eqB_false (fun e => by rw [hi1] at e; exact absurd (congrArg (fun s : ByteArray => s.data.toList) e) (by decide))
    rw [hf1] at g1
    clear hf1
    clear g3
    have hX : X = if inK (wBoundS ++ a) x.giv = true then .inl 8 else if (readN c.data.toList 65536).2 ≠ 0 then .inl (readN c.data.toList 65536).2 else .inr ⟨{ x.g with nodes := (readN c.data.toList 65536).1 }, x.giv ++ [wBoundS ++ a]⟩ := by
      rw [← HX.out]; unfold boundG; rw [hI]; rfl
    have HXx := hidden hX
    clear hX HX hI he hi0 hi1
    have HN := hidden (fun w' => num_Read c 65536 w' (by decide) (by decide) hcz)
    generalize readN c.data.toList 65536 = rn at *
    obtain ⟨n, e⟩ := rn
    dsimp only at HN HXx
    go_enter Tryz.func37, Tryz.ntmps37
    go_wp2_with fail
    refine HO.out.mono ?_
    rintro r w1 (⟨hi, rfl, rfl⟩ | ⟨hi, rfl, HA, hk⟩)
    · have hi' : inK (wBoundS ++ a) x.giv = true := hi
      have e0 : X = .inl 8 := by rw [HXx.out, if_pos hi']
      subst e0
      clear HXx HO HL hi hi'
      go_wp2
      go_ret
      exact hidden ⟨rfl, hB⟩
    · have hw := hk.cell hne HL.out
      have HFr : Hid (FrG R B tv rv pv W tv rv pv w1) := hidden (FrG.give hk)
      have HX2 : Hid (X = if e ≠ 0 then .inl e else .inr ⟨{ x.g with nodes := n }, x.giv ++ [wBoundS ++ a]⟩) := hidden (by have hi' : inK (wBoundS ++ a) x.giv = false := hi; rw [HXx.out, hi']; rfl)
      have HA2 : Hid (GrA W0 R B ⟨x.g, x.giv ++ [wBoundS ++ a]⟩ tv rv pv lt lp w1) := HA
      clear HXx HO HL hk hi HA
      go_wp2_with fail
      refine (HN.out w1).mono ?_
      rintro r w2 ⟨rfl, rfl⟩
      have HC := hidden (HA2.out.num 6 n (y := ⟨{ x.g with nodes := n }, x.giv ++ [wBoundS ++ a]⟩) rfl rfl rfl rfl rfl)
      have c3 := HA2.out.rd.cell 6
      have c3 : w1.cell? ⟨R, 6, none⟩ = some (.int .i64 x.g.nodes) := c3
      have f3 := HA2.out.frozen 6
      have hbz := HC.out.below
      clear HN hw HA2
      by_cases h0 : e ≠ 0
      · have e0 : X = .inl e := by rw [HX2.out, if_pos h0]
        subst e0
        clear HX2 HC h0
        go_wp2
        go_ret
        exact hidden ⟨rfl, hbz⟩
      · have e0 : X = .inr ⟨{ x.g with nodes := n }, x.giv ++ [wBoundS ++ a]⟩ := by rw [HX2.out, if_neg h0]
        subst e0
        obtain rfl : e = 0 := Classical.not_not.1 h0
        clear HX2 h0
        go_wp2
        go_ret
        exact hidden ⟨rfl, tv, rv, pv, lt, lp, HC.out, HFr.out.trans (FrG.num 6 _)⟩
  · -- wPairs
    have hI : bndI a = 3 := hi0
    have he : eqB a wPairs = true := eqB_true hi1
    rw [he] at g3
    have hf0 : eqB a wStates = false := eqB_false (fun e => by rw [hi1] at e; exact absurd (congrArg (fun s : ByteArray => s.data.toList) e) (by decide))
    rw [hf0] at g0
    clear hf0
    have hf1 : eqB a wText = false := eqB_false (fun e => by rw [hi1] at e; exact absurd (congrArg (fun s : ByteArray => s.data.toList) e) (by decide))
    rw [hf1] at g1
    clear hf1
    have hf2 : eqB a wNodes = false := eqB_false (fun e => by rw [hi1] at e; exact absurd (congrArg (fun s : ByteArray => s.data.toList) e) (by decide))
    rw [hf2] at g2
    clear hf2
    have hX : X = if inK (wBoundS ++ a) x.giv = true then .inl 8 else if (readN c.data.toList 1048576).2 ≠ 0 then .inl (readN c.data.toList 1048576).2 else .inr ⟨{ x.g with pairs := (readN c.data.toList 1048576).1 }, x.giv ++ [wBoundS ++ a]⟩ := by
      rw [← HX.out]; unfold boundG; rw [hI]; rfl
    have HXx := hidden hX
    clear hX HX hI he hi0 hi1
    have HN := hidden (fun w' => num_Read c 1048576 w' (by decide) (by decide) hcz)
    generalize readN c.data.toList 1048576 = rn at *
    obtain ⟨n, e⟩ := rn
    dsimp only at HN HXx
    go_enter Tryz.func37, Tryz.ntmps37
    go_wp2_with fail
    refine HO.out.mono ?_
    rintro r w1 (⟨hi, rfl, rfl⟩ | ⟨hi, rfl, HA, hk⟩)
    · have hi' : inK (wBoundS ++ a) x.giv = true := hi
      have e0 : X = .inl 8 := by rw [HXx.out, if_pos hi']
      subst e0
      clear HXx HO HL hi hi'
      go_wp2
      go_ret
      exact hidden ⟨rfl, hB⟩
    · have hw := hk.cell hne HL.out
      have HFr : Hid (FrG R B tv rv pv W tv rv pv w1) := hidden (FrG.give hk)
      have HX2 : Hid (X = if e ≠ 0 then .inl e else .inr ⟨{ x.g with pairs := n }, x.giv ++ [wBoundS ++ a]⟩) := hidden (by have hi' : inK (wBoundS ++ a) x.giv = false := hi; rw [HXx.out, hi']; rfl)
      have HA2 : Hid (GrA W0 R B ⟨x.g, x.giv ++ [wBoundS ++ a]⟩ tv rv pv lt lp w1) := HA
      clear HXx HO HL hk hi HA
      go_wp2_with fail
      refine (HN.out w1).mono ?_
      rintro r w2 ⟨rfl, rfl⟩
      have HC := hidden (HA2.out.num 7 n (y := ⟨{ x.g with pairs := n }, x.giv ++ [wBoundS ++ a]⟩) rfl rfl rfl rfl rfl)
      have c3 := HA2.out.rd.cell 7
      have c3 : w1.cell? ⟨R, 7, none⟩ = some (.int .i64 x.g.pairs) := c3
      have f3 := HA2.out.frozen 7
      have hbz := HC.out.below
      clear HN hw HA2
      by_cases h0 : e ≠ 0
      · have e0 : X = .inl e := by rw [HX2.out, if_pos h0]
        subst e0
        clear HX2 HC h0
        go_wp2
        go_ret
        exact hidden ⟨rfl, hbz⟩
      · have e0 : X = .inr ⟨{ x.g with pairs := n }, x.giv ++ [wBoundS ++ a]⟩ := by rw [HX2.out, if_neg h0]
        subst e0
        obtain rfl : e = 0 := Classical.not_not.1 h0
        clear HX2 h0
        go_wp2
        go_ret
        exact hidden ⟨rfl, tv, rv, pv, lt, lp, HC.out, HFr.out.trans (FrG.num 7 _)⟩
  · have e0 : X = .inl 7 := by rw [← HX.out]; unfold boundG; rw [hi0]; rfl
    subst e0
    rw [hi1] at g0
    rw [hi2] at g1
    rw [hi3] at g2
    rw [hi4] at g3
    clear HX HO HL hi0 hi1 hi2 hi3 hi4
    go_enter Tryz.func37, Tryz.ntmps37
    go_wp2
    go_ret
    exact hidden ⟨rfl, hB⟩
end Go.Proofs.YtfmdmeokbbpmlaaGreat

namespace Go.Proofs.YtfmdmeokbbpmlaaGreat
open Go.RowKit Go.Shelf

set_option maxRecDepth 20000 in
set_option maxHeartbeats 16000000 in
theorem gr_rules (W0 : World) (R B : Nat) (x : St) (tv rv pv wv : Value) (lt lp : List Value) (w0 : ByteArray) (ws : List ByteArray) (W : World) (H : GrA W0 R B x tv rv pv lt lp W) (HS : Strs W (Cold W R B tv rv pv) wv (w0 :: ws))
    (hz : ∀ s ∈ ws, s.size ≤ maxLen) (s1 : x.g.toks.length ≤ 100000) (s2 : x.g.rules.length + ws.length ≤ 1000000) :
    Calls Tryz.prog 39 #[.pointer (some ⟨R, 0, none⟩), wv] W fun r w' => Hid (GrTo W0 R B tv rv pv W (rulesG x ws) r w') := by
  obtain ⟨X, HX⟩ : ∃ X, Hid (rulesG x ws = X) := ⟨_, hidden rfl⟩
  rw [HX.out]
  obtain ⟨Aw, cw, rfl, v1, m1⟩ := HS.val
  obtain ⟨b, off, rfl, hT, hc0⟩ := strs_at (i := 0) HS rfl
  rw [List.length_cons] at *
  unfold maxLen at m1
  by_cases hc1 : cw = 1
  · obtain rfl : ws = [] := List.eq_nil_of_length_eq_zero (by omega)
    have e0 : X = .inr x := HX.out.symm
    subst e0
    have HA0 := hidden H
    clear HX HS H hc0 hT
    subst hc1
    rw [List.length_nil] at *
    go_enter Tryz.func39, Tryz.ntmps39
    go_upto_region 2 with fail
    go_loopg [11] 0 (fun gh kk wr => gh = 0 ∧ kk = .int .i64 0 ∧ Hid (GrA W0 R B x tv rv pv lt lp wr) ∧ Hid (FrG R B tv rv pv W tv rv pv wr))
    case atStart => exact ⟨rfl, rfl, HA0, hidden (FrG.later (Below.refl _ _))⟩
    case round =>
      clear HA0
      obtain ⟨rfl, rfl, HA0, HF0⟩ := hrel
      go_wp2
      go_ret
      exact hidden ⟨rfl, tv, rv, pv, lt, lp, HA0.out, HF0.out⟩
  · have HS0 : Hid (Strs W (Cold W R B tv rv pv) (.slice (some ⟨b, off, none⟩) (ws.length + 1) cw) (w0 :: ws)) := hidden HS
    have HX0 : Hid (rulesG ⟨{ x.g with rules := x.g.rules ++ ws.take 0 }, x.giv⟩ (ws.drop 0) = X) := hidden (by rw [List.take_zero, List.append_nil, List.drop_zero]; exact HX.out)
    have HA0 : Hid (GrA W0 R B ⟨{ x.g with rules := x.g.rules ++ ws.take 0 }, x.giv⟩ tv rv pv lt lp W) := hidden (by rw [List.take_zero, List.append_nil]; exact H)
    clear HX HS H hc0 hT
    go_enter Tryz.func39, Tryz.ntmps39
    go_upto_region 2 with fail
    go_loopg [11] ws.length (fun gh kk wr => ∃ (k : Nat) (rv' : Value), k ≤ ws.length ∧ gh = ws.length - k ∧ kk = .int .i64 k ∧ Hid (GrA W0 R B ⟨{ x.g with rules := x.g.rules ++ ws.take k }, x.giv⟩ tv rv' pv lt lp wr) ∧ Hid (rulesG ⟨{ x.g with rules := x.g.rules ++ ws.take k }, x.giv⟩ (ws.drop k) = X) ∧ Hid (Strs wr (Cold wr R B tv rv' pv) (.slice (some ⟨b, off, none⟩) (ws.length + 1) cw) (w0 :: ws)) ∧ Hid (FrG R B tv rv pv W tv rv' pv wr))
    case atStart => exact ⟨0, rv, Nat.zero_le _, rfl, rfl, HA0, HX0, HS0, hidden (FrG.later (Below.refl _ _))⟩
    case round =>
      clear HA0 HX0 HS0
      obtain ⟨k, rv', hk, rfl, rfl, HA, HX, HS, HFr⟩ := hrel
      have hB := HA.out.below
      by_cases hlt : k < ws.length
      · have q5 : (k : Int) < (ws.length : Int) := by omega
        have hx := List.getElem?_eq_getElem hlt
        have hx2 : (w0 :: ws)[k + 1]? = some ws[k] := by rw [List.getElem?_cons_succ]; exact hx
        have hdr : ws.drop k = ws[k] :: ws.drop (k + 1) := List.drop_eq_getElem_cons hlt
        have htk : ws.take (k + 1) = ws.take k ++ [ws[k]] := by rw [List.take_add_one, hx]; rfl
        have hzs := hz _ (List.getElem_mem hlt)
        obtain ⟨b', off', e9, hT, hc0⟩ := strs_at HS.out hx2
        cases e9
        have hbs := hT.1
        generalize ws[k] = s at *
        have HF := hidden (gr_fresh W0 R B _ tv rv' pv lt lp s wr HA.out hzs s1)
        dsimp only at HF
        have HX2 : Hid ((if freshG { x.g with rules := x.g.rules ++ ws.take k } s ≠ 0 then .inl (freshG { x.g with rules := x.g.rules ++ ws.take k } s) else rulesG ⟨{ x.g with rules := x.g.rules ++ ws.take (k + 1) }, x.giv⟩ (ws.drop (k + 1)) : Int ⊕ St) = X) := hidden (by
          rw [← HX.out, hdr, rulesG, htk, List.append_assoc])
        rw [Nat.add_comm k 1, ← Nat.add_assoc] at hc0
        clear HX hx hx2 hdr hT
        generalize freshG { x.g with rules := x.g.rules ++ ws.take k } s = fr at *
        go_upto_region 3 with fail
        go_wp2_with fail
        refine HF.out.mono ?_
        rintro r w1 ⟨rfl, hb1⟩
        clear HF hc0 hbs
        by_cases hf : fr ≠ 0
        · have e0 : X = .inl fr := by rw [← HX2.out, if_pos hf]
          subst e0
          have hbz := hB.trans (hb1.mono hB.size)
          clear HX2 HA HS
          go_wp2
          go_ret
          exact hidden ⟨rfl, hbz⟩
        · obtain rfl : fr = 0 := Classical.not_not.1 hf
          have HX3 : Hid (rulesG ⟨{ x.g with rules := x.g.rules ++ ws.take (k + 1) }, x.giv⟩ (ws.drop (k + 1)) = X) := hidden (by rw [← HX2.out, if_neg (by decide)])
          have hb2 := hb1.alloc hb1.size (.cells #[.string s] 9)
          have HA2 := hidden (HA.out.later hb2)
          have HFr2 := hidden (HFr.out.trans (FrG.later hb2))
          have HS2 : Hid (Strs (w1.alloc (.cells #[.string s] 9)) (Cold (w1.alloc (.cells #[.string s] 9)) R B tv rv' pv) (.slice (some ⟨b, off, none⟩) (ws.length + 1) cw) (w0 :: ws)) := hidden ((Rd.keeps HS.out (Keeps.of_below hb2)).mono (fun _ hk => hk.grow hb2.size))
          have hy := (HA.out.later hb1).rd.cell 1
          have hy : w1.cell? ⟨R, 1, none⟩ = some rv' := hy
          have hRl := (HA.out.later hb1).ap.r
          have HM := hidden HA2.out.mr
          have HX1 := hidden (Rd.single w1 9 (.string s) w1.heap.size rfl)
          have H1 := one_str s
          have hsz : W0.heap.size ≤ (w1.alloc (.cells #[.string s] 9)).heap.size := HA2.out.below.size
          have hln : (x.g.rules ++ ws.take k).length ≤ 1000000 := by rw [List.length_append, List.length_take]; omega
          clear HX2 HA HS hb1 hb2 hf
          dsimp only at HM
          obtain ⟨nr, hnr⟩ : ∃ n, (x.g.rules ++ ws.take k).length = n := ⟨_, rfl⟩
          rw [hnr] at HM hln
          go_wp2_with (at_builtin; refine wpList_append_all rfl _ _ 24 9 rfl (by kernel_rfl) str_info rfl (by decide) W0.heap.size _ nr _ HM _ _ _ HX1 H1 rfl rfl (by omega) (by decide) hsz ?_; intro v' w2 hA; obtain ⟨A9, c9, rfl⟩ := hA.out.mine.value; have hr := hA.out.keeps.holds (fun e => (HA2.out.ap.s _ e).2.1 rfl) HA2.out.rd; have zf := hr.frozen 1; have y1 := hr.cell 1)
          subst hnr
          have hc : FrG R B tv rv' pv _ tv _ pv _ := FrG.rule hA.out
          have HFr3 := hidden (HFr2.out.trans hc)
          have HS3 : Hid (Strs (w2.setCell ⟨R, 1, none⟩ (.slice A9 ((x.g.rules ++ ws.take k).length + 1) c9)) (Cold (w2.setCell ⟨R, 1, none⟩ (.slice A9 ((x.g.rules ++ ws.take k).length + 1) c9)) R B tv (.slice A9 ((x.g.rules ++ ws.take k).length + 1) c9) pv) (.slice (some ⟨b, off, none⟩) (ws.length + 1) cw) (w0 :: ws)) := hidden ((Rd.keeps HS2.out hc.k).mono hc.c)
          have HP : Hid (GrA W0 R B ⟨{ x.g with rules := x.g.rules ++ ws.take (k + 1) }, x.giv⟩ tv (.slice A9 ((x.g.rules ++ ws.take k).length + 1) c9) pv lt lp (w2.setCell ⟨R, 1, none⟩ (.slice A9 ((x.g.rules ++ ws.take k).length + 1) c9))) := hidden (by
            have h := HA2.out.rule (s := s) hA.out
            rw [htk, ← List.append_assoc]
            exact h)
          clear hc hA HA2 HS2 HM HX1
          go_roundg (ws.length - (k + 1))
          case measure => omega
          case rel => exact ⟨k + 1, _, by omega, rfl, by go_num, HP, HX3, HS3, HFr3⟩
      · obtain rfl : k = ws.length := by omega
        have q5 : ¬ (ws.length : Int) < (ws.length : Int) := by omega
        have e0 : X = .inr ⟨{ x.g with rules := x.g.rules ++ ws }, x.giv⟩ := by rw [← HX.out, List.drop_length, List.take_length, rulesG]
        subst e0
        rw [List.take_length] at HA
        clear HX HS
        go_wp2
        go_ret
        exact hidden ⟨rfl, tv, rv', pv, lt, lp, HA.out, HFr.out⟩
end Go.Proofs.YtfmdmeokbbpmlaaGreat
