/-
  A range over a function whose iterator names anything that a round must keep (XKit's range_law names blocks). The words of a tree: where each one's bytes begin and end. Plain. The iterator over the words of a tree (yield.words): what it hands to yield. yield.Find. yield.Span. strings.Builder at this program: what is written, and read. yield.Text.
-/
import Derived.Test.YtdbbjlphlbndkaaGreatB1
import Derived.Test.YtdbbjlphlbndkaaGreatT6
import Derived.Test.YtdbbjlphlbndkaaGreatT2
import Derived.Test.YtdbbjlphlbndkaaGreatT1
import Derived.Sort.BigQuietIn
import Derived.Test.YtdbbjlphlbndkaaGreatT5
import Derived.Shelf.Strings.BuilderK
namespace Go.Proofs.YtdbbjlphlbndkaaGreat.T
open Go.RowKit Go.Shelf

/-- How a round may be left. -/
def roundEndK {α : Type} (Kp : World → World → Prop) (I : List α → World → Prop) (Ix : Code → List α → World → Prop) (xs : List α) (W : World) : Exit → Act → World → Prop
  | .normal, _, W' => KeepsOthers W W' ∧ Kp W W' ∧ I xs W'
  | .ret, _, W' => KeepsOthers W W' ∧ Ix .ret xs W'
  | .exit id, _, W' => KeepsOthers W W' ∧ Ix (.exit id) xs W'
  | .goto t, _, W' => KeepsOthers W W' ∧ Ix (.goto t) xs W'
  | .panic _, _, _ => False
  | .outgrown, _, _ => False

/-- What is owed when a round's assignment is done, the body not yet begun. -/
def StartedK {α : Type} (P : Program) (n B N : Nat) (Kp : World → World → Prop) (I : List α → World → Prop) (Ix : Code → List α → World → Prop) (body : Code) (pre : List α) (x : α) (W : World) (a' : Act) (W' : World) : Prop :=
  KeepsOthers W W' ∧ Kp W W' ∧ I pre W' ∧
    ∀ (W2 : World) (l2 : Nat) (pre2 : List α), Calm B W' W2 → I pre2 W2 → pre2.length < N → B ≤ l2 → (∃ r, W2.heap[l2]? = some (.loop r)) →
      body.wpIn (Fence.wide.inRound l2) (n - 1 - 1) P (roundEndK Kp I Ix (pre2 ++ [x]) W2) a' W2

theorem range_lawK {α : Type} {P : Program} {n : Nat} {g : Operand} {ps : Array Tmp} {assign body : Code} {Q : Exit → Act → World → Prop} {a : Act} {w : World} (h1 : 1 ≤ n)
    {gf : Nat} {lb : Array Value} (hg : a.eval g = .func (.func gf) #[] lb) (eg : ∀ args w, (callFunc gf args).run P w = .ok (.enter gf args) w)
    {encs : α → Array Value} {Kp : World → World → Prop} {S Sp : List α → Prop} {N : Nat} {w0 : World} (hseq : SeqStopsK Fence.wide (n - 1) P gf lb encs Kp S Sp N w0)
    (hKt : ∀ {A B C : World}, Kp A B → Kp B C → Kp A C) (hKb : ∀ (W : World) (l : Nat) (o o' : Obj), w.heap.size ≤ l → W.heap[l]? = some o → o.isCells = false → o.isWalk = false → Kp W (W.putObj l o')) (hb0 : Below w0.heap.size w0 w)
    (hps : ∀ x, (encs x).size = ps.size)
    (I : List α → World → Prop) (Ix : Code → List α → World → Prop) (hI : Steady w.heap.size I) (hIx : ∀ c, Steady w.heap.size (Ix c)) (h0 : I [] w)
    (hround : ∀ (l : Nat) (pre : List α) (x : α) (W : World), I pre W →
      assign.wpIn (Fence.wide.inRound l) (n - 1 - 1) P (Exit.then (StartedK P n w.heap.size N Kp I Ix body pre x W) (fun _ _ _ => False))
        { tmps := (ps.zip (encs x)).foldl (fun t (p, v) => t.setIfInBounds p v) a.tmps, defers := [] } W)
    (hdone : ∀ (D : Nat) (xs : List α) (W : World), w.heap.size ≤ D → S xs → I xs W → W.heap[D]? = some (.deferred (some [])) → Q .normal { a with defers := markOf D :: a.defers } W)
    (hstop : ∀ (D : Nat) (c : Code) (pre : List α) (W : World), w.heap.size ≤ D → Sp pre → Ix c pre W → W.heap[D]? = some (.deferred (some [])) → c.wpIn Fence.wide n P Q { a with defers := markOf D :: a.defers } W) :
    (Code.rangeFunc g ps assign body).wpIn Fence.wide n P Q a w := by
  refine wpIn_rangeFunc_ownH (F := Fence.wide) rfl h1 hg trivial eg hseq hKt hKb hb0 hps I Ix hI.ownFrom (fun c => (hIx c).ownFrom) h0
    (fun x a' W => ∀ (W2 : World) (l2 : Nat) (pre2 : List α), Calm w.heap.size W W2 → I pre2 W2 → pre2.length < N → w.heap.size ≤ l2 → (∃ r, W2.heap[l2]? = some (.loop r)) →
        body.wpIn (Fence.wide.inRound l2) (n - 1 - 1) P (roundEndK Kp I Ix (pre2 ++ [x]) W2) a' W2)
    (fun x a' => Steady.ownFrom (fun _ W W' h hc W2 l2 pre2 hc2 => h W2 l2 pre2 (hc.trans hc2)))
    (fun l pre x W K hi hK => ?_) (fun l pre x a' W hl hr hi hax hlen => ?_) hdone hstop
  · refine wpIn_mono (hround l pre x W hi) ?_
    intro e a' W' hq
    cases e with
    | normal => exact hK a' W' (hq.1.from _) hq.2.1 hq.2.2.1 hq.2.2.2
    | _ => exact hq
  · refine wpIn_mono (hax W l pre (Calm.refl _ _) hi hlen hl hr) ?_
    intro e a' W' hq
    cases e with
    | normal => exact ⟨hq.1.from _, hq.2.1, hq.2.2⟩
    | ret => exact ⟨hq.1.from _, hq.2⟩
    | exit id => exact ⟨hq.1.from _, hq.2⟩
    | goto t => exact ⟨hq.1.from _, hq.2⟩
    | panic c => exact hq
    | outgrown => exact hq

/-- The blocks of T lie as they lay, and so does every block of cells of type e. -/
structure KeepsT (T : Nat → Prop) (e : TypeId) (W W' : World) : Prop where
  keeps : Keeps T W W'
  typed : ∀ (k : Nat) (cs : Array Value), W.heap[k]? = some (.cells cs e) → W'.heap[k]? = some (.cells cs e)
section
variable {T : Nat → Prop} {e : TypeId} {W W' W2 : World}
theorem KeepsT.refl (W : World) : KeepsT T e W W := ⟨Keeps.refl _ _, fun _ _ h => h⟩
theorem KeepsT.trans (h : KeepsT T e W W') (k : KeepsT T e W' W2) : KeepsT T e W W2 := ⟨h.keeps.trans k.keeps, fun i cs hi => k.typed i cs (h.typed i cs hi)⟩
theorem KeepsT.below {B : Nat} (hT : ∀ k, T k → k < B) (hB : W.heap.size ≤ B) (h : Below B W W') : KeepsT T e W W' := by
  refine ⟨⟨h.size, fun k hk _ => h.block k (hT k hk)⟩, fun k cs hk => ?_⟩
  have : k < W.heap.size := (Array.getElem?_eq_some_iff.1 hk).1
  exact (h.block k (by omega)).trans hk
theorem KeepsT.setCell {b i : Nat} {s : Option Nat} {u : Value} {cs : Array Value} {e' : TypeId} (h : KeepsT T e W W') (hp : ¬ T b) (hb : W'.heap[b]? = some (.cells cs e')) (he : e' ≠ e) : KeepsT T e W (W'.setCell ⟨b, i, s⟩ u) := by
  refine ⟨h.keeps.setCell (p := ⟨b, i, s⟩) hp u, fun k cs' hk => ?_⟩
  have h1 := h.typed k cs' hk
  have : k ≠ b := fun e0 => by
    subst e0
    rw [hb] at h1
    simp only [Option.some.injEq, Obj.cells.injEq] at h1
    exact he h1.2.1
  exact (Below.heap_setCell W' ⟨b, i, s⟩ u k this).trans h1
theorem KeepsT.loop {l : Nat} {o o' : Obj} (hT : ∀ k, T k → k < l) (ho : W.heap[l]? = some o) (hc : o.isCells = false) : KeepsT T e W (W.putObj l o') := by
  refine ⟨⟨by simp, fun k hk _ => World.putObj_heap_other (by have := hT k hk; omega)⟩, fun k cs hk => ?_⟩
  have : k ≠ l := fun e0 => by subst e0; rw [ho] at hk; cases hk; cases hc
  rw [World.putObj_heap_other this]
  exact hk
end
end Go.Proofs.YtdbbjlphlbndkaaGreat.T

namespace Go.Proofs.YtdbbjlphlbndkaaGreat.T
open Go.RowKit Go.Shelf

def leafAt (t : List Node) (i : Nat) : Node := (t[i]?).getD ⟨0, 0, 0, [], ⟨#[]⟩⟩
def leadSum (ps : List Piece) : Nat := (ps.map fun p => p.text.size).sum
def wordLen (x : Node) : Nat := leadSum x.lead + x.text.size
/-- Where the k-th word's bytes begin. -/
def fromY (t : List Node) (L : List Nat) (k : Nat) : Nat := ((L.take k).map fun i => wordLen (leafAt t i)).sum
theorem fromY_zero (t : List Node) (L : List Nat) : fromY t L 0 = 0 := rfl
theorem fromY_succ {t : List Node} {L : List Nat} {k i : Nat} (h : L[k]? = some i) : fromY t L (k + 1) = fromY t L k + wordLen (leafAt t i) := by
  obtain ⟨hk, e⟩ := List.getElem?_eq_some_iff.1 h
  unfold fromY
  rw [List.take_succ_eq_append_getElem hk, e, List.map_append, List.sum_append]
  simp
theorem leafAt_of {t : List Node} {i : Nat} {x : Node} (h : t[i]? = some x) : leafAt t i = x := by unfold leafAt; rw [h]; rfl
theorem leadSum_take {ps : List Piece} {j : Nat} {p : Piece} (h : ps[j]? = some p) : leadSum (ps.take (j + 1)) = leadSum (ps.take j) + p.text.size := by
  obtain ⟨hj, e⟩ := List.getElem?_eq_some_iff.1 h
  unfold leadSum
  rw [List.take_succ_eq_append_getElem hj, e, List.map_append, List.sum_append]
  simp
theorem leadSum_bulk (ps : List Piece) : leadSum ps + ps.length ≤ bulkP ps := by
  unfold leadSum bulkP
  induction ps with
  | nil => simp
  | cons p ps ih => simp only [List.map_cons, List.sum_cons, List.length_cons]; omega
theorem leadSum_le (ps : List Piece) (j : Nat) : leadSum (ps.take j) ≤ leadSum ps := by
  unfold leadSum
  conv => rhs; rw [← List.take_append_drop j ps]
  rw [List.map_append, List.sum_append]
  omega
theorem wordLen_bulk (x : Node) : wordLen x + x.lead.length ≤ bulkN x := by
  have := leadSum_bulk x.lead
  unfold wordLen bulkN
  omega
theorem sum_filter_le (f : Nat → Nat) (p : Nat → Bool) (l : List Nat) : ((l.filter p).map f).sum ≤ (l.map f).sum := by
  induction l with
  | nil => simp
  | cons x l ih =>
    rw [List.filter_cons]
    split
    · simp only [List.map_cons, List.sum_cons]; omega
    · simp only [List.map_cons, List.sum_cons]; omega
theorem sum_all (t : List Node) (f : Node → Nat) : ((List.range t.length).map fun i => f (leafAt t i)).sum = (t.map f).sum := by
  congr 1
  apply List.ext_getElem?
  intro i
  rw [List.getElem?_map, List.getElem?_map]
  by_cases hi : i < t.length
  · rw [List.getElem?_range hi, List.getElem?_eq_getElem hi, Option.map_some, Option.map_some, leafAt_of (List.getElem?_eq_getElem hi)]
  · rw [List.getElem?_eq_none (by simp; omega), List.getElem?_eq_none (by omega)]; rfl
theorem wordLen_all (t : List Node) : (t.map wordLen).sum ≤ bulkT t := by
  unfold bulkT
  induction t with
  | nil => simp
  | cons x t ih =>
    simp only [List.map_cons, List.sum_cons]
    have := wordLen_bulk x
    omega
theorem mem_sum {l : List Nat} {x : Nat} (h : x ∈ l) : x ≤ l.sum := by
  induction l with
  | nil => cases h
  | cons y l ih =>
    rw [List.sum_cons]
    rcases List.mem_cons.1 h with rfl | h
    · omega
    · have := ih h; omega
theorem fromY_all (t : List Node) : fromY t (leavesOf t) (leavesOf t).length ≤ bulkT t := by
  unfold fromY
  rw [List.take_length]
  unfold leavesOf leavesTo
  split
  · unfold texts
    refine Nat.le_trans (sum_filter_le _ _ _) ?_
    rw [sum_all t wordLen]
    exact wordLen_all t
  · simp
theorem fromY_mono (t : List Node) (L : List Nat) {j k : Nat} (h : j ≤ k) : fromY t L j ≤ fromY t L k := by
  induction k with
  | zero => rw [show j = 0 by omega]; exact Nat.le_refl _
  | succ k ih =>
    by_cases hj : j = k + 1
    · rw [hj]; exact Nat.le_refl _
    · refine Nat.le_trans (ih (by omega)) ?_
      cases hk : L[k]? with
      | some i => rw [fromY_succ hk]; omega
      | none =>
        have := List.getElem?_eq_none_iff.1 hk
        unfold fromY
        rw [List.take_of_length_le (by omega), List.take_of_length_le (by omega)]
        exact Nat.le_refl _
theorem fromY_le (t : List Node) {k : Nat} (h : k ≤ (leavesOf t).length) : fromY t (leavesOf t) k ≤ bulkT t := Nat.le_trans (fromY_mono t _ h) (fromY_all t)
theorem bulk_len (t : List Node) : t.length ≤ bulkT t := by
  unfold bulkT
  induction t with
  | nil => simp
  | cons x t ih => simp only [List.map_cons, List.sum_cons, List.length_cons]; unfold bulkN at *; omega
theorem bulk_at {t : List Node} {i : Nat} {x : Node} (h : t[i]? = some x) : bulkN x ≤ bulkT t := by
  unfold bulkT
  exact mem_sum (List.mem_map.2 ⟨x, List.mem_of_getElem? h, rfl⟩)
end Go.Proofs.YtdbbjlphlbndkaaGreat.T

namespace Go.Proofs.YtdbbjlphlbndkaaGreat.T
open Go.RowKit Go.Shelf
attribute [local go_sem] Oper.semAt_some

/-- A word: the number of its leaf among the leaves, and where its lead lies. -/
abbrev Wd (w : World) (T : Nat → Prop) (t : List Node) := { x : Nat × Option Addr × Nat // ∃ i, (leavesOf t)[x.1]? = some i ∧ i < t.length ∧ Pcs w T (.slice x.2.1 (leafAt t i).lead.length x.2.2) (leafAt t i).lead }
noncomputable def nodeY (t : List Node) (k : Nat) : Nat := ((leavesOf t)[k]?).getD 0
noncomputable def ownY (t : List Node) (k : Nat) : Nat := fromY t (leavesOf t) k + leadSum (leafAt t (nodeY t k)).lead
noncomputable abbrev valY {w : World} {T : Nat → Prop} {t : List Node} (x : Wd w T t) : Value := .agg #[.int .i64 (nodeY t x.1.1 : Int), .int .i64 (fromY t (leavesOf t) x.1.1 : Int), .int .i64 (ownY t x.1.1 : Int), .slice x.1.2.1 (leafAt t (nodeY t x.1.1)).lead.length x.1.2.2, .int .i64 (leafAt t (nodeY t x.1.1)).n, .string (leafAt t (nodeY t x.1.1)).text]
noncomputable abbrev encY {w : World} {T : Nat → Prop} {t : List Node} (x : Wd w T t) : Array Value := #[valY x]

theorem word_end (a b c : Int) (A : Option Addr) (m cp : Nat) (tok : Int) (x : ByteArray) (w : World) (h : 0 ≤ c ∧ c ≤ 1000000000000) (hx : x.size ≤ 1000000000000) :
    Calls Tryz.prog 54 #[.agg #[.int .i64 a, .int .i64 b, .int .i64 c, .slice A m cp, .int .i64 tok, .string x]] w fun r w' => r = .returned (.int .i64 (c + x.size)) ∧ Below w.heap.size w w' := by
  go_enter Tryz.func54, Tryz.ntmps54
  go_wp2
  go_ret
  exact ⟨rfl, (by repeat (first | (with_reducible exact Below.refl _ _) | (with_reducible assumption) | (with_reducible refine Below.drew ?_) | (with_reducible refine below_drewN ?_ _) | ((with_reducible refine below_alloc ?_ ?_); (focus (first | omega | (simp; done) | (simp; omega)))) | ((with_reducible refine below_set ?_ ?_); (focus (first | omega | (simp; done) | (simp; omega))))))⟩

theorem _root_.Go.Proofs.YtdbbjlphlbndkaaGreat.Mine.typed {w w' : World} {base : Nat} {e : TypeId} {size n : Nat} {v : Value} {xs : List Value} {T : Nat → Prop} (h : Mine w base e size v n xs) (hk : KeepsT T e w w') : Mine w' base e size v n xs := by
  rcases h with ⟨h1, h2⟩ | h
  · refine .inl ⟨h1, ?_⟩
    rcases h2 with h2 | ⟨g, cap, cur, rfl, hb, hg, r⟩
    · exact .inl h2
    · exact .inr ⟨g, cap, cur, rfl, hb, hk.typed g _ hg, r⟩
  · exact .inr h
theorem range_prefix {m n : Nat} (h : m ≤ n) : List.range m <+: List.range n := ⟨(List.range (n - m)).map (m + ·), by rw [← List.range_add]; congr 1; omega⟩
theorem encY_of {w : World} {T : Nat → Prop} {t : List Node} {k i : Nat} {x : Node} {A : Option Addr} {c : Nat} (h : ∃ i, (leavesOf t)[k]? = some i ∧ i < t.length ∧ Pcs w T (.slice A (leafAt t i).lead.length c) (leafAt t i).lead) (hi : (leavesOf t)[k]? = some i) (hx : leafAt t i = x) :
    encY (⟨(k, A, c), h⟩ : Wd w T t) = #[.agg #[.int .i64 (i : Int), .int .i64 (fromY t (leavesOf t) k : Int), .int .i64 ((fromY t (leavesOf t) k : Int) + (leadSum x.lead : Int)), .slice A x.lead.length c, .int .i64 x.n, .string x.text]] := by
  have h1 : nodeY t k = i := by unfold nodeY; rw [hi]; rfl
  unfold encY valY ownY
  dsimp only
  rw [h1, hx, Int.natCast_add]

set_option maxRecDepth 20000 in
set_option maxHeartbeats 4000000 in
theorem ywords1_in (n : Nat) (hn : 1 ≤ n) (l Bt : Nat) (w0 : World) (T : Nat → Prop) (hT : ∀ k, T k → k < w0.heap.size) (t : List Node) (v : Value) (h4 : bulkT t ≤ 1000000000) (hN : Nds w0 T v t) (hTB : T Bt) (hct : w0.cell? ⟨Bt, 0, none⟩ = some v) (J Jx : List (Wd w0 T t) → World → Prop)
    (hY : ∀ pre x W, J pre W → pre.length < (leavesOf t).length → YieldAt Fence.wide (n - 1) Tryz.prog l (encY x) W fun e W' =>
      (e = .returned (.bool true) ∧ J (pre ++ [x]) W' ∧ KeepsT T 3 W W') ∨ (e = .returned (.bool false) ∧ Jx (pre ++ [x]) W'))
    (hd : ∀ pre W W', J pre W → Below W.heap.size W W' → J pre W') (W : World) (hW : Below w0.heap.size w0 W) (h0 : J [] W) :
    CallsIn Fence.wide n Tryz.prog 75 #[.func (.yield l) #[] #[], .pointer (some ⟨Bt, 0, none⟩)] W fun e W' => (∃ v, e = .returned v) ∧
      ((∃ ys : List (Wd w0 T t), ys.map (·.1.1) = List.range (leavesOf t).length ∧ J ys W') ∨ (∃ pre : List (Wd w0 T t), pre.map (·.1.1) <+: List.range (leavesOf t).length ∧ Jx pre W')) := by
  have h5 := bulk_len t
  have hBt := hT _ hTB
  have hNW := hN.below hW hT
  have HA := hidden (arena_leaves v t W (by omega) (hNW.mono (fun k hk => Nat.lt_of_lt_of_le (hT k hk) hW.size)))
  have hctW : W.cell? ⟨Bt, 0, none⟩ = some v := (hW.cell (p := ⟨Bt, 0, none⟩) hBt).trans hct
  clear hNW
  obtain ⟨A, c, rfl, hc1, hc2⟩ := hN.value
  unfold maxLen at hc2
  have HN := hidden hN
  have HJ0 := hidden h0
  clear hN h0
  refine callsIn_of_wp Tryz.func75 rfl trivial ?_ rfl
  simp only [Tryz.ntmps75, List.size_toArray, List.length_cons, List.length_nil, Nat.reduceAdd, Nat.reduceSub, Array.replicate_succ, Array.replicate_zero, List.push_toArray, List.append_toArray, List.nil_append, List.cons_append]
  gi_wp2_with (refine ⟨trivial, ?_⟩; gi_at_call 76; refine (callsIn_wide.2 HA.out).mono ?_; rintro r w2 ⟨⟨u, rfl, HM⟩, hb2⟩; obtain ⟨A2, c2, rfl⟩ := HM.out.value)
  have hll : (leavesOf t).length ≤ t.length := leavesTo_len t t.length
  have hbz2 := hb2.size
  have HK2 : Hid (Keeps T w0 w2) := hidden ((Keeps.of_below hW).trans (Keeps.of_below hb2))
  have HJ2 := hidden (hd _ _ _ HJ0.out hb2)
  have HLt := hidden (leavesOf_lt t)
  have hFr := fun k (h : k ≤ (leavesOf t).length) => fromY_le t h
  have hFs := fun k i (h : (leavesOf t)[k]? = some i) => fromY_succ (t := t) h
  have HFr := hidden hFr
  have HFs := hidden hFs
  clear hFr hFs HJ0 HA hctW
  gi_loopw [3, 13] (fun at_ kk wr => ∃ (k : Nat) (pre : List (Wd w0 T t)), kk = .int .i64 k ∧ k ≤ (leavesOf t).length ∧ at_ = .int .i64 (fromY t (leavesOf t) k : Nat) ∧ Hid (pre.map (·.1.1) = List.range k) ∧ Hid (J pre wr) ∧ Hid (Mine wr W.heap.size 3 1 (.slice A2 (leavesOf t).length c2) (leavesOf t).length (ints (leavesOf t))) ∧ Hid (Keeps T w0 wr))
    (fun _ kk _ => (leavesOf t).length - (intOf kk).toNat)
  case atStart => exact ⟨0, [], rfl, by omega, rfl, hidden rfl, HJ2, HM, HK2⟩
  case round =>
    clear HM HK2 HJ2
    obtain ⟨k, pre, rfl, hk, rfl, HP, HJ, HM, HK⟩ := hrel
    by_cases hlt : k < (leavesOf t).length
    · have hi := List.getElem?_eq_getElem hlt
      have HI : Hid ((leavesOf t)[k]? = some (leavesOf t)[k]) := hidden hi
      have hit := HLt.out _ (List.mem_of_getElem? hi)
      obtain ⟨b2, o2, rfl, _, z0⟩ := (HM.out.rd (T := fun _ => True) (fun _ _ _ _ => trivial)).ints_at hi
      generalize (leavesOf t)[k] = i at *
      obtain ⟨b, off, c', hv, _, _, hTb, hat⟩ := HN.out.open_ (by intro e; subst e; simp at hit)
      simp only [Value.slice.injEq] at hv
      obtain ⟨rfl, _, rfl⟩ := hv
      have hx := List.getElem?_eq_getElem hit
      obtain ⟨lv, x0, x1, x2, x3, x4, hpc⟩ := hat i _ hx
      have HX : Hid (leafAt t i = t[i]) := hidden (leafAt_of hx)
      have hF1 := HFs.out k i hi
      have hF2 := HFr.out (k + 1) (by omega)
      rw [hF1, HX.out] at hF2
      generalize t[i] = x at *
      obtain ⟨A3, c3, rfl, d1, d2⟩ := hpc.value
      unfold maxLen at d2
      have hw : ∃ i, (leavesOf t)[k]? = some i ∧ i < t.length ∧ Pcs w0 T (.slice A3 (leafAt t i).lead.length c3) (leafAt t i).lead := ⟨i, hi, hit, by rw [HX.out]; exact hpc⟩
      have HEnc := hidden (encY_of hw hi HX.out)
      have HPc := hidden (hpc.keeps HK.out)
      have y0 := HK.out.cell (a := ⟨b, _, none⟩) hTb x0
      have y1 := HK.out.cell (a := ⟨b, _, none⟩) hTb x1
      have y2 := HK.out.cell (a := ⟨b, _, none⟩) hTb x2
      have y3 := HK.out.cell (a := ⟨b, _, none⟩) hTb x3
      have y4 := HK.out.cell (a := ⟨b, _, none⟩) hTb x4
      have hct2 := HK.out.cell (a := ⟨Bt, 0, none⟩) hTB hct
      have HF1 : Hid (((fromY t (leavesOf t) (k + 1) : Nat) : Int) = fromY t (leavesOf t) k + leadSum x.lead + x.text.size) := hidden (by rw [hF1, HX.out]; unfold wordLen; omega)
      unfold wordLen at hF2
      clear hi hat hx x0 x1 x2 x3 x4 hpc hF1
      generalize fromY t (leavesOf t) k = F at *
      obtain ⟨wo, rfl⟩ : ∃ wo, wo = wr := ⟨_, rfl⟩
      gi_wp2
      gi_loopw [35] (fun jj wi => ∃ j : Nat, jj = .int .i64 j ∧ j ≤ x.lead.length ∧ Holds wi (wo.heap.size + 1) 100 #[.int .i64 (i : Int), .int .i64 (F : Int), .int .i64 ((F : Int) + leadSum (x.lead.take j)), .slice A3 x.lead.length c3, .int .i64 x.n, .string x.text] ∧ Below wo.heap.size wo wi)
        (fun jj _ => x.lead.length - (intOf jj).toNat)
      case atStart => exact ⟨0, rfl, by omega, Holds.of_eq (Holds.new_at (by simp)) (by simp [leadSum]), (by repeat (first | (with_reducible exact Below.refl _ _) | (with_reducible assumption) | (with_reducible refine Below.drew ?_) | (with_reducible refine below_drewN ?_ _) | ((with_reducible refine below_alloc ?_ ?_); (focus (first | omega | (simp; done) | (simp; omega)))) | ((with_reducible refine below_set ?_ ?_); (focus (first | omega | (simp; done) | (simp; omega))))))⟩
      case round =>
        obtain ⟨j, rfl, hj, h7, hbi⟩ := hrel
        have k0 : wr.cell? ⟨wo.heap.size + 1, 0, none⟩ = some (.int .i64 (i : Int)) := h7.cell 0
        have k1 : wr.cell? ⟨wo.heap.size + 1, 1, none⟩ = some (.int .i64 (F : Int)) := h7.cell 1
        have k2 : wr.cell? ⟨wo.heap.size + 1, 2, none⟩ = some (.int .i64 ((F : Int) + leadSum (x.lead.take j))) := h7.cell 2
        have k3 : wr.cell? ⟨wo.heap.size + 1, 3, none⟩ = some (.slice A3 x.lead.length c3) := h7.cell 3
        have k4 : wr.cell? ⟨wo.heap.size + 1, 4, none⟩ = some (.int .i64 x.n) := h7.cell 4
        have k5 : wr.cell? ⟨wo.heap.size + 1, 5, none⟩ = some (.string x.text) := h7.cell 5
        have kf := h7.frozen 2
        have l7 := h7.lt
        have hbz := hbi.size
        have hsl := leadSum_le x.lead j
        by_cases hjl : j < x.lead.length
        · have hp := List.getElem?_eq_getElem hjl
          have HPi := HPc.out.keeps (Keeps.of_below hbi)
          obtain ⟨b3, o3, c3', hv, _, _, hT3, hat3⟩ := HPi.open_ (by intro e; rw [e] at hjl; simp at hjl)
          simp only [Value.slice.injEq] at hv
          obtain ⟨rfl, _, rfl⟩ := hv
          obtain ⟨p0, p1⟩ := hat3 j _ hp
          have hst := leadSum_take hp
          have hsl2 := leadSum_le x.lead (j + 1)
          generalize x.lead[j] = p at *
          have HSt : Hid (((leadSum (x.lead.take (j + 1)) : Nat) : Int) = leadSum (x.lead.take j) + p.text.size) := hidden (by rw [hst]; omega)
          rw [hst] at hsl2
          have h7' := HPi
          clear hp hat3 HPi h7' hst
          generalize leadSum (x.lead.take j) = s1 at *
          have q1 : wr.heap.size ≠ wo.heap.size + 1 := by omega
          gi_wp2
          go_roundw
          case rel =>
            refine ⟨j + 1, by go_num, by omega, ?_, ?_⟩
            · rw [HSt.out]
              exact Holds.alloc ((h7.set 2 _).of_eq (by simp [Int.add_assoc])) _
            · exact (by repeat (first | (with_reducible exact Below.refl _ _) | (with_reducible assumption) | (with_reducible refine Below.drew ?_) | (with_reducible refine below_drewN ?_ _) | ((with_reducible refine below_alloc ?_ ?_); (focus (first | omega | (simp; done) | (simp; omega)))) | ((with_reducible refine below_set ?_ ?_); (focus (first | omega | (simp; done) | (simp; omega))))))
          case measure => simp [intOf]; omega
        · obtain rfl : j = x.lead.length := by omega
          rw [List.take_length] at *
          clear hsl
          have hFb : 0 ≤ (F : Int) + leadSum x.lead ∧ (F : Int) + leadSum x.lead ≤ 1000000000000 := by omega
          have hxb : x.text.size ≤ 1000000000000 := by omega
          gi_wp2_with fail
          refine ⟨trivial, (callsIn_wide.2 (word_end _ _ _ _ _ _ _ _ _ hFb hxb)).mono ?_⟩
          rintro e w' ⟨rfl, hbe⟩
          clear hFb hxb
          have hbe2 := hbi.trans (hbe.mono hbz)
          have hbz3 := hbe2.size
          obtain ⟨g0, gf⟩ := old_cells hbe
          have m0 := (g0 _ 0 l7).trans k0
          have m1 := (g0 _ 1 l7).trans k1
          have m2 := (g0 _ 2 l7).trans k2
          have m3 := (g0 _ 3 l7).trans k3
          have m4 := (g0 _ 4 l7).trans k4
          have m5 := (g0 _ 5 l7).trans k5
          clear g0 gf k0 k1 k2 k3 k4 k5 kf h7 y0 y1 y2 y3 y4 z0 hct2
          have HJ3 := hidden (hd _ _ _ HJ.out hbe2)
          obtain ⟨fn, tmps, assign, body, hy, hR⟩ := hY pre ⟨(k, A3, c3), hw⟩ w' HJ3.out (by have := congrArg List.length HP.out; simp at this; omega)
          have HR := hidden hR
          rw [HEnc.out] at hy
          clear hR
          have HP1 : Hid ((pre ++ [(⟨(k, A3, c3), hw⟩ : Wd w0 T t)]).map (fun y : Wd w0 T t => y.1.1) = List.range (k + 1)) := hidden (by rw [List.map_append, HP.out, List.range_succ]; rfl)
          gi_wp2
          refine HR.out.mono ?_
          rintro e W3 (⟨rfl, hJ4, hk4⟩ | ⟨rfl, hJx4⟩)
          · have hM4 := hidden ((HM.out.keep (fun _ _ _ hg => hbe2.block _ hg)).typed hk4)
            have hK4 := hidden ((HK.out.below hbe2).trans hk4.keeps)
            gi_wp2
            go_roundw
            case rel => exact ⟨k + 1, _, by go_num, by omega, by rw [HF1.out], HP1, hidden hJ4, hM4, hK4⟩
            case measure => simp [intOf]; omega
          · gi_wp2
            refine bodyPost_ret (results_none rfl _ _ _) rfl ?_
            exact ⟨⟨_, rfl⟩, .inr ⟨_, by rw [HP1.out]; exact range_prefix (by omega), hJx4⟩⟩
    · obtain rfl : k = (leavesOf t).length := by omega
      gi_wp2
      exact ⟨rfl, _, results_none rfl _ _ _, ⟨_, rfl⟩, .inl ⟨pre, HP.out, HJ.out⟩⟩

theorem ywords1_stops (n : Nat) (hn : 1 ≤ n) (Bt : Nat) (w0 : World) (T : Nat → Prop) (hT : ∀ k, T k → k < w0.heap.size) (t : List Node) (v : Value) (h4 : bulkT t ≤ 1000000000) (hN : Nds w0 T v t) (hTB : T Bt) (hct : w0.cell? ⟨Bt, 0, none⟩ = some v) :
    SeqStopsK Fence.wide n Tryz.prog 75 #[.pointer (some ⟨Bt, 0, none⟩)] encY (KeepsT T 3) (fun ys : List (Wd w0 T t) => ys.map (·.1.1) = List.range (leavesOf t).length) (fun pre => pre.map (·.1.1) <+: List.range (leavesOf t).length) (leavesOf t).length w0 :=
  fun l J Jx W hW hJ _ hY h0 =>
    ywords1_in n hn l Bt w0 T hT t v h4 hN hTB hct J Jx hY (fun pre W W' h hb => hJ pre W W' none h ⟨hb.os, hb.tape, hb.output, hb.size, fun k hk _ => hb.block k hk⟩ (fun r e => by cases e)) W hW h0

theorem yield_words (v : Value) (A : Option Addr) (n c : Nat) (hv : v = .slice A n c) (w : World) :
    Calls Tryz.prog 51 #[v] w fun e w' => e = .returned (.func (.func 75) #[] #[.pointer (some ⟨w.heap.size, 0, none⟩)]) ∧ w.alloc (.cells #[v] 27) = w' := by
  subst hv
  go_enter Tryz.func51, Tryz.ntmps51
  go_wp2
  go_ret
  exact ⟨rfl, rfl⟩
end Go.Proofs.YtdbbjlphlbndkaaGreat.T

namespace Go.Proofs.YtdbbjlphlbndkaaGreat.T
open Go.RowKit Go.Shelf
attribute [local go_sem] Oper.semAt_some
attribute [local simp] wide_round_fn

def hitY (t : List Node) (at_ : Int) (k : Nat) : Prop := (fromY t (leavesOf t) k : Int) ≤ at_ ∧ at_ < (fromY t (leavesOf t) (k + 1) : Int)
noncomputable instance (t : List Node) (at_ : Int) (k : Nat) : Decidable (hitY t at_ k) := by unfold hitY; exact inferInstance
noncomputable def findY (t : List Node) (at_ : Int) : List Nat → Int
  | [] => -1
  | k :: r => if hitY t at_ k then (nodeY t k : Int) else findY t at_ r
noncomputable def findOf (t : List Node) (at_ : Int) : Int := findY t at_ (List.range (leavesOf t).length)
theorem findY_miss {t : List Node} {at_ : Int} : ∀ l : List Nat, (∀ k ∈ l, ¬ hitY t at_ k) → findY t at_ l = -1 := by
  intro l
  induction l with
  | nil => intro _; rfl
  | cons x l ih => intro h; unfold findY; rw [if_neg (h x (by simp))]; exact ih (fun k hk => h k (by simp [hk]))
theorem findY_hit {t : List Node} {at_ : Int} {x : Nat} (hx : hitY t at_ x) : ∀ l r : List Nat, (∀ k ∈ l, ¬ hitY t at_ k) → findY t at_ (l ++ x :: r) = (nodeY t x : Int) := by
  intro l r
  induction l with
  | nil => intro _; unfold findY; rw [List.nil_append]; exact if_pos hx
  | cons y l ih => intro h; rw [List.cons_append]; unfold findY; rw [if_neg (h y (by simp))]; exact ih (fun k hk => h k (by simp [hk]))

theorem wd_facts {w : World} {T : Nat → Prop} {t : List Node} (x : Wd w T t) : x.1.1 < (leavesOf t).length ∧ nodeY t x.1.1 < t.length ∧ ((ownY t x.1.1 : Nat) : Int) + (leafAt t (nodeY t x.1.1)).text.size = (fromY t (leavesOf t) (x.1.1 + 1) : Nat) ∧ fromY t (leavesOf t) (x.1.1 + 1) ≤ bulkT t ∧ fromY t (leavesOf t) x.1.1 ≤ ownY t x.1.1 := by
  obtain ⟨⟨k, A, c⟩, i, hi, hit, hp⟩ := x
  have hk := (List.getElem?_eq_some_iff.1 hi).1
  have h1 : nodeY t k = i := by unfold nodeY; rw [hi]; rfl
  have h2 := fromY_succ (t := t) hi
  have h3 := fromY_le t (k := k + 1) (by omega)
  unfold ownY
  dsimp only at *
  rw [h1]
  unfold wordLen at h2
  exact ⟨hk, hit, by rw [h2]; omega, h3, by omega⟩

def FdI (w : World) {w1 : World} {T : Nat → Prop} {t : List Node} (at_ : Int) (pre : List (Wd w1 T t)) (W : World) : Prop :=
  Holds W w.heap.size 3 #[.int .i64 at_] ∧ Holds W (w.heap.size + 1) 3 #[.int .i64 0] ∧ (∀ k ∈ pre.map (·.1.1), ¬ hitY t at_ k) ∧ Below w.heap.size w W ∧ w.heap.size + 1 + 1 < W.heap.size
def FdX (w : World) {w1 : World} {T : Nat → Prop} {t : List Node} (at_ : Int) (c : Code) (pre : List (Wd w1 T t)) (W : World) : Prop :=
  c = .ret ∧ ∃ pre' x, pre = pre' ++ [x] ∧ (∀ k ∈ pre'.map (·.1.1), ¬ hitY t at_ k) ∧ hitY t at_ x.1.1 ∧ Holds W (w.heap.size + 1) 3 #[.int .i64 (nodeY t x.1.1 : Int)] ∧ Below w.heap.size w W

end Go.Proofs.YtdbbjlphlbndkaaGreat.T

namespace Go.Proofs.YtdbbjlphlbndkaaGreat.T
open Go.RowKit Go.Shelf
attribute [local go_sem] Oper.semAt_some
attribute [local simp] wide_round_fn

/-- A word more: where the part is, so far. -/
noncomputable def stepP (t : List Node) (i z : Nat) (s : Nat × Nat × Bool) (k : Nat) : Nat × Nat × Bool :=
  if i + z ≤ nodeY t k then s else if nodeY t k < i then (fromY t (leavesOf t) (k + 1), fromY t (leavesOf t) (k + 1), s.2.2)
  else (if s.2.2 then s.1 else ownY t k, fromY t (leavesOf t) (k + 1), true)
noncomputable def spanP (t : List Node) (i z : Nat) (l : List Nat) : Nat × Nat × Bool := l.foldl (stepP t i z) (0, 0, false)
theorem spanP_snoc (t : List Node) (i z : Nat) (l : List Nat) (k : Nat) : spanP t i z (l ++ [k]) = stepP t i z (spanP t i z l) k := by unfold spanP; rw [List.foldl_append]; rfl
theorem nodeY_of {t : List Node} {k i : Nat} (h : (leavesOf t)[k]? = some i) : nodeY t k = i := by unfold nodeY; rw [h]; rfl
theorem texts_rise (t : List Node) (n : Nat) : (texts t n).Pairwise (· < ·) := List.Pairwise.sublist List.filter_sublist List.pairwise_lt_range
theorem leavesOf_rise (t : List Node) : (leavesOf t).Pairwise (· < ·) := by
  unfold leavesOf leavesTo
  split
  · exact texts_rise t _
  · exact List.Pairwise.nil
theorem nodeY_mono {t : List Node} {j k : Nat} (h : j < k) (hk : k < (leavesOf t).length) : nodeY t j < nodeY t k := by
  have hj : j < (leavesOf t).length := by omega
  rw [nodeY_of (List.getElem?_eq_getElem hj), nodeY_of (List.getElem?_eq_getElem hk)]
  exact List.pairwise_iff_getElem.1 (leavesOf_rise t) j k hj hk h
theorem spanP_idle {t : List Node} {i z : Nat} : ∀ (l : List Nat) (s : Nat × Nat × Bool), (∀ k ∈ l, i + z ≤ nodeY t k) → l.foldl (stepP t i z) s = s := by
  intro l
  induction l with
  | nil => intro s _; rfl
  | cons x l ih =>
    intro s h
    rw [List.foldl_cons]
    have : stepP t i z s x = s := by unfold stepP; rw [if_pos (h x (by simp))]
    rw [this]
    exact ih s (fun k hk => h k (by simp [hk]))
/-- Where the walk may stop, it has all. -/
theorem spanP_stop {t : List Node} {i z : Nat} {pre : List Nat} {x : Nat} (h : (pre ++ [x]) <+: List.range (leavesOf t).length) (hx : i + z ≤ nodeY t x) : spanP t i z (List.range (leavesOf t).length) = spanP t i z pre := by
  obtain ⟨r, hr⟩ := h
  have hpos : pre.length < (leavesOf t).length := by
    have := congrArg List.length hr
    simp at this; omega
  have hat : ∀ j y, (pre ++ [x] ++ r)[j]? = some y → y = j ∧ j < (leavesOf t).length := fun j y hj => by
    rw [hr] at hj
    obtain ⟨h1, h2⟩ := List.getElem?_eq_some_iff.1 hj
    simp at h1 h2
    exact ⟨h2.symm, h1⟩
  have hxx := (hat pre.length x (by simp)).1
  rw [← hr]
  unfold spanP
  rw [List.append_assoc, List.foldl_append]
  refine spanP_idle _ _ (fun k hk => ?_)
  rw [List.singleton_append, List.mem_cons] at hk
  rcases hk with rfl | hk
  · exact hx
  · obtain ⟨j, hj⟩ := List.getElem?_of_mem hk
    have := hat (pre.length + 1 + j) k (by
      rw [List.getElem?_append_right (by simp)]
      simpa using hj)
    have hm := nodeY_mono (t := t) (j := x) (k := k) (by omega) (by omega)
    omega

noncomputable def spanOf (t : List Node) (i : Int) : Nat × Nat × Bool := if placeB t i then ((spanP t i.toNat (sz t i.toNat) (List.range (leavesOf t).length)).1, (spanP t i.toNat (sz t i.toNat) (List.range (leavesOf t).length)).2.1, true) else (0, 0, false)

structure SpC (w : World) (v : Value) (I B6 : Nat) (W : World) : Prop where
  b0 : Holds W w.heap.size 27 #[v]
  b1 : Holds W (w.heap.size + 1) 3 #[.int .i64 I]
  b2 : Holds W (w.heap.size + 1 + 1) 60 #[.int .i64 0, .int .i64 0]
  b3 : Holds W (w.heap.size + 1 + 1 + 1) 4 #[.bool false]
  below : Below w.heap.size w W
  lt : w.heap.size + 1 + 1 + 1 < B6
  lt2 : B6 + 1 + 1 < W.heap.size
theorem SpC.calm {w W W' : World} {v : Value} {I B6 B : Nat} (h : SpC w v I B6 W) (hB : w.heap.size ≤ B) (hc : Calm B W W') : SpC w v I B6 W' :=
  ⟨hc.holds h.b0, hc.holds h.b1, hc.holds h.b2, hc.holds h.b3, h.below.trans (hc.below hB h.below.size), h.lt, Nat.lt_of_lt_of_le h.lt2 hc.size⟩
theorem SpC.later {w W W' : World} {v : Value} {I B6 : Nat} (h : SpC w v I B6 W) (hb : Below W.heap.size W W') : SpC w v I B6 W' :=
  ⟨h.b0.below hb h.b0.lt, h.b1.below hb h.b1.lt, h.b2.below hb h.b2.lt, h.b3.below hb h.b3.lt, h.below.trans (hb.mono h.below.size), h.lt, Nat.lt_of_lt_of_le h.lt2 hb.size⟩
theorem SpC.set {w W : World} {v : Value} {I B6 b i : Nat} (h : SpC w v I B6 W) (hp : w.heap.size + 1 + 1 + 1 < b) (u : Value) : SpC w v I B6 (W.setCell ⟨b, i, none⟩ u) :=
  ⟨h.b0.far (p := ⟨b, i, none⟩) (by dsimp only; omega) u, h.b1.far (p := ⟨b, i, none⟩) (by dsimp only; omega) u, h.b2.far (p := ⟨b, i, none⟩) (by dsimp only; omega) u, h.b3.far (p := ⟨b, i, none⟩) (by dsimp only; omega) u, h.below.setCell (p := ⟨b, i, none⟩) (by dsimp only; omega) u, h.lt, by simpa [World.setCell] using h.lt2⟩
def SpD {w1 : World} {T : Nat → Prop} {t : List Node} (I B6 : Nat) (pre : List (Wd w1 T t)) (W : World) : Prop :=
  Holds W B6 60 #[.int .i64 ((spanP t I (sz t I) (pre.map (·.1.1))).1 : Nat), .int .i64 ((spanP t I (sz t I) (pre.map (·.1.1))).2.1 : Nat)] ∧
  Holds W (B6 + 1) 4 #[.bool (spanP t I (sz t I) (pre.map (·.1.1))).2.2]
def SpI (w : World) (v : Value) {w1 : World} {T : Nat → Prop} {t : List Node} (I B6 : Nat) (pre : List (Wd w1 T t)) (W : World) : Prop := SpC w v I B6 W ∧ SpD I B6 pre W
def SpX (w : World) {w1 : World} {T : Nat → Prop} {t : List Node} (I : Nat) (c : Code) (pre : List (Wd w1 T t)) (W : World) : Prop :=
  c = .ret ∧ ∃ pre' x, pre = pre' ++ [x] ∧ I + sz t I ≤ nodeY t x.1.1 ∧
    Holds W (w.heap.size + 1 + 1) 60 #[.int .i64 ((spanP t I (sz t I) (pre'.map (·.1.1))).1 : Nat), .int .i64 ((spanP t I (sz t I) (pre'.map (·.1.1))).2.1 : Nat)] ∧
    Holds W (w.heap.size + 1 + 1 + 1) 4 #[.bool true] ∧ Below w.heap.size w W

theorem span_no {t : List Node} {i : Int} (h : placeB t i = false) : spanOf t i = (0, 0, false) := by unfold spanOf; rw [h]; rfl

set_option maxRecDepth 20000 in
set_option maxHeartbeats 4000000 in
theorem yield_span_no (v : Value) (t : List Node) (i : Int) (w : World) (h4 : bulkT t ≤ 1000000000) (hN : Nds w (Old w) v t) (hp : placeB t i = false) :
    Calls Tryz.prog 29 #[v, .int .i64 i] w fun r w' => r = .returned (.tuple #[.agg #[.int .i64 0, .int .i64 0], .bool false]) ∧ Below w.heap.size w w' := by
  have h5 := bulk_len t
  have HR := hidden (fun (w' : World) (hb : Below w.heap.size w w') => arena_right v t w' (by omega) (hN.old hb))
  obtain ⟨A, c, rfl, hc1, hc2⟩ := hN.value
  unfold maxLen at hc2
  have HC : i < 0 ∨ (0 ≤ i ∧ (t.length : Int) ≤ i) ∨ (0 ≤ i ∧ i < (t.length : Int) ∧ treeB t = false) := by
    by_cases a : i < 0
    · exact .inl a
    · by_cases b : (t.length : Int) ≤ i
      · exact .inr (.inl ⟨by omega, b⟩)
      · refine .inr (.inr ⟨by omega, by omega, ?_⟩)
        cases ht : treeB t with
        | false => rfl
        | true => rw [placeB_iff.2 ⟨by omega, by omega, treeB_iff.1 ht⟩] at hp; cases hp
  clear hp hN
  rcases HC with a | ⟨a, b⟩ | ⟨a, b, ht⟩
  · (refine (callsIn_wide (n := 5)).1 ?_; refine callsIn_of_wp_marks Tryz.func29 rfl trivial ?_ rfl; simp only [Tryz.ntmps29, List.size_toArray, List.length_cons, List.length_nil, Nat.reduceAdd, Nat.reduceSub, Array.replicate_succ, Array.replicate_zero, List.push_toArray, List.append_toArray, List.nil_append, List.cons_append])
    gi_wp2
    refine ⟨trivial, ?_⟩
    gi_wp2
    refine leaves_marks (B := w.heap.size) [] _ ⟨by simp, by simp⟩ ?_
    intro W' hc
    have e2 : W'.cell? ⟨w.heap.size + 1 + 1, 0, none⟩ = _ := (hc.holds (g := w.heap.size + 1 + 1) (t := 60) (cs := #[.int .i64 0, .int .i64 0]) (by (apply Holds.of_eq; focus (repeat (first | (with_reducible assumption) | ((with_reducible apply holds_new); (focus (first | rfl | (simp; done)))) | (with_reducible apply holds_set) | ((with_reducible apply holds_far); (focus (first | omega | (simp; done) | (simp; omega)))) | (with_reducible apply Holds.alloc) | (with_reducible apply Holds.drew)))); rfl)).cell 0
    have e3 : W'.cell? ⟨w.heap.size + 1 + 1, 1, none⟩ = _ := (hc.holds (g := w.heap.size + 1 + 1) (t := 60) (cs := #[.int .i64 0, .int .i64 0]) (by (apply Holds.of_eq; focus (repeat (first | (with_reducible assumption) | ((with_reducible apply holds_new); (focus (first | rfl | (simp; done)))) | (with_reducible apply holds_set) | ((with_reducible apply holds_far); (focus (first | omega | (simp; done) | (simp; omega)))) | (with_reducible apply Holds.alloc) | (with_reducible apply Holds.drew)))); rfl)).cell 1
    have e4 : W'.cell? ⟨w.heap.size + 1 + 1 + 1, 0, none⟩ = _ := (hc.holds (g := w.heap.size + 1 + 1 + 1) (t := 4) (cs := #[.bool false]) (by (apply Holds.of_eq; focus (repeat (first | (with_reducible assumption) | ((with_reducible apply holds_new); (focus (first | rfl | (simp; done)))) | (with_reducible apply holds_set) | ((with_reducible apply holds_far); (focus (first | omega | (simp; done) | (simp; omega)))) | (with_reducible apply Holds.alloc) | (with_reducible apply Holds.drew)))); rfl)).cell 0
    refine ⟨.tuple #[.agg #[.int .i64 0, .int .i64 0], .bool false], ?_, rfl, ?_⟩
    · simp [results, Tryz.f29, go_sem, e2, e3, e4]
    · refine Below.trans ?_ (hc.below (Nat.le_refl _) (by simp; try omega))
      exact (by repeat (first | (with_reducible exact Below.refl _ _) | (with_reducible assumption) | (with_reducible refine Below.drew ?_) | (with_reducible refine below_drewN ?_ _) | ((with_reducible refine below_alloc ?_ ?_); (focus (first | omega | (simp; done) | (simp; omega)))) | ((with_reducible refine below_set ?_ ?_); (focus (first | omega | (simp; done) | (simp; omega))))))
  · have b' : decide (i < (t.length : Int)) = false := decide_eq_false (by omega)
    (refine (callsIn_wide (n := 5)).1 ?_; refine callsIn_of_wp_marks Tryz.func29 rfl trivial ?_ rfl; simp only [Tryz.ntmps29, List.size_toArray, List.length_cons, List.length_nil, Nat.reduceAdd, Nat.reduceSub, Array.replicate_succ, Array.replicate_zero, List.push_toArray, List.append_toArray, List.nil_append, List.cons_append])
    gi_wp2
    refine ⟨trivial, ?_⟩
    gi_wp2
    refine leaves_marks (B := w.heap.size) [] _ ⟨by simp, by simp⟩ ?_
    intro W' hc
    have e2 : W'.cell? ⟨w.heap.size + 1 + 1, 0, none⟩ = _ := (hc.holds (g := w.heap.size + 1 + 1) (t := 60) (cs := #[.int .i64 0, .int .i64 0]) (by (apply Holds.of_eq; focus (repeat (first | (with_reducible assumption) | ((with_reducible apply holds_new); (focus (first | rfl | (simp; done)))) | (with_reducible apply holds_set) | ((with_reducible apply holds_far); (focus (first | omega | (simp; done) | (simp; omega)))) | (with_reducible apply Holds.alloc) | (with_reducible apply Holds.drew)))); rfl)).cell 0
    have e3 : W'.cell? ⟨w.heap.size + 1 + 1, 1, none⟩ = _ := (hc.holds (g := w.heap.size + 1 + 1) (t := 60) (cs := #[.int .i64 0, .int .i64 0]) (by (apply Holds.of_eq; focus (repeat (first | (with_reducible assumption) | ((with_reducible apply holds_new); (focus (first | rfl | (simp; done)))) | (with_reducible apply holds_set) | ((with_reducible apply holds_far); (focus (first | omega | (simp; done) | (simp; omega)))) | (with_reducible apply Holds.alloc) | (with_reducible apply Holds.drew)))); rfl)).cell 1
    have e4 : W'.cell? ⟨w.heap.size + 1 + 1 + 1, 0, none⟩ = _ := (hc.holds (g := w.heap.size + 1 + 1 + 1) (t := 4) (cs := #[.bool false]) (by (apply Holds.of_eq; focus (repeat (first | (with_reducible assumption) | ((with_reducible apply holds_new); (focus (first | rfl | (simp; done)))) | (with_reducible apply holds_set) | ((with_reducible apply holds_far); (focus (first | omega | (simp; done) | (simp; omega)))) | (with_reducible apply Holds.alloc) | (with_reducible apply Holds.drew)))); rfl)).cell 0
    refine ⟨.tuple #[.agg #[.int .i64 0, .int .i64 0], .bool false], ?_, rfl, ?_⟩
    · simp [results, Tryz.f29, go_sem, e2, e3, e4]
    · refine Below.trans ?_ (hc.below (Nat.le_refl _) (by simp; try omega))
      exact (by repeat (first | (with_reducible exact Below.refl _ _) | (with_reducible assumption) | (with_reducible refine Below.drew ?_) | (with_reducible refine below_drewN ?_ _) | ((with_reducible refine below_alloc ?_ ?_); (focus (first | omega | (simp; done) | (simp; omega)))) | ((with_reducible refine below_set ?_ ?_); (focus (first | omega | (simp; done) | (simp; omega))))))
  · rw [ht] at HR
    clear ht
    (refine (callsIn_wide (n := 5)).1 ?_; refine callsIn_of_wp_marks Tryz.func29 rfl trivial ?_ rfl; simp only [Tryz.ntmps29, List.size_toArray, List.length_cons, List.length_nil, Nat.reduceAdd, Nat.reduceSub, Array.replicate_succ, Array.replicate_zero, List.push_toArray, List.append_toArray, List.nil_append, List.cons_append])
    gi_wp2_with fail
    refine ⟨trivial, (callsIn_wide.2 (HR.out _ (by repeat (first | (with_reducible exact Below.refl _ _) | (with_reducible assumption) | (with_reducible refine Below.drew ?_) | (with_reducible refine below_drewN ?_ _) | ((with_reducible refine below_alloc ?_ ?_); (focus (first | omega | (simp; done) | (simp; omega)))) | ((with_reducible refine below_set ?_ ?_); (focus (first | omega | (simp; done) | (simp; omega)))))))).mono ?_⟩
    rintro e w2 ⟨rfl, hb2⟩
    have hz2 := hb2.size
    have g2 := Holds.below (g := w.heap.size + 1 + 1) (t := 60) (cs := #[.int .i64 0, .int .i64 0]) (by repeat (first | (with_reducible assumption) | ((with_reducible refine holds_new ?_); (focus (first | rfl | (simp; done)))) | (with_reducible refine Holds.alloc ?_ _) | (with_reducible refine Holds.drew ?_))) hb2 (by simp)
    have g3 := Holds.below (g := w.heap.size + 1 + 1 + 1) (t := 4) (cs := #[.bool false]) (by repeat (first | (with_reducible assumption) | ((with_reducible refine holds_new ?_); (focus (first | rfl | (simp; done)))) | (with_reducible refine Holds.alloc ?_ _) | (with_reducible refine Holds.drew ?_))) hb2 (by simp)
    have hb := Below.trans (B := w.heap.size) (a := w) (by repeat (first | (with_reducible exact Below.refl _ _) | (with_reducible assumption) | (with_reducible refine Below.drew ?_) | (with_reducible refine below_drewN ?_ _) | ((with_reducible refine below_alloc ?_ ?_); (focus (first | omega | (simp; done) | (simp; omega)))) | ((with_reducible refine below_set ?_ ?_); (focus (first | omega | (simp; done) | (simp; omega)))))) (hb2.mono (by simp; omega))
    have f2 := g2.frozen 0; have f3 := g3.frozen 0; have f4 := g2.frozen 1; have l2 := g2.lt; have l3 := g3.lt
    have k2 : w2.cell? ⟨w.heap.size + 1 + 1, 0, none⟩ = _ := g2.cell 0
    have k3 : w2.cell? ⟨w.heap.size + 1 + 1, 1, none⟩ = _ := g2.cell 1
    have k4 : w2.cell? ⟨w.heap.size + 1 + 1 + 1, 0, none⟩ = _ := g3.cell 0
    have hbz := hb.size
    clear hb2 HR hz2
    gi_wp2
    refine leaves_marks (B := w.heap.size) [] _ ⟨by simp, by simp⟩ ?_
    intro W' hc
    have e2 : W'.cell? ⟨w.heap.size + 1 + 1, 0, none⟩ = _ := (hc.holds (g := w.heap.size + 1 + 1) (t := 60) (cs := #[.int .i64 0, .int .i64 0]) (by (apply Holds.of_eq; focus (repeat (first | (with_reducible assumption) | ((with_reducible apply holds_new); (focus (first | rfl | (simp; done)))) | (with_reducible apply holds_set) | ((with_reducible apply holds_far); (focus (first | omega | (simp; done) | (simp; omega)))) | (with_reducible apply Holds.alloc) | (with_reducible apply Holds.drew)))); rfl)).cell 0
    have e3 : W'.cell? ⟨w.heap.size + 1 + 1, 1, none⟩ = _ := (hc.holds (g := w.heap.size + 1 + 1) (t := 60) (cs := #[.int .i64 0, .int .i64 0]) (by (apply Holds.of_eq; focus (repeat (first | (with_reducible assumption) | ((with_reducible apply holds_new); (focus (first | rfl | (simp; done)))) | (with_reducible apply holds_set) | ((with_reducible apply holds_far); (focus (first | omega | (simp; done) | (simp; omega)))) | (with_reducible apply Holds.alloc) | (with_reducible apply Holds.drew)))); rfl)).cell 1
    have e4 : W'.cell? ⟨w.heap.size + 1 + 1 + 1, 0, none⟩ = _ := (hc.holds (g := w.heap.size + 1 + 1 + 1) (t := 4) (cs := #[.bool false]) (by (apply Holds.of_eq; focus (repeat (first | (with_reducible assumption) | ((with_reducible apply holds_new); (focus (first | rfl | (simp; done)))) | (with_reducible apply holds_set) | ((with_reducible apply holds_far); (focus (first | omega | (simp; done) | (simp; omega)))) | (with_reducible apply Holds.alloc) | (with_reducible apply Holds.drew)))); rfl)).cell 0
    refine ⟨.tuple #[.agg #[.int .i64 0, .int .i64 0], .bool false], ?_, rfl, ?_⟩
    · simp [results, Tryz.f29, go_sem, e2, e3, e4]
    · refine Below.trans ?_ (hc.below (Nat.le_refl _) (by simp; try omega))
      exact (by repeat (first | (with_reducible exact Below.refl _ _) | (with_reducible assumption) | (with_reducible refine Below.drew ?_) | (with_reducible refine below_drewN ?_ _) | ((with_reducible refine below_alloc ?_ ?_); (focus (first | omega | (simp; done) | (simp; omega)))) | ((with_reducible refine below_set ?_ ?_); (focus (first | omega | (simp; done) | (simp; omega))))))

theorem treeB_of_place {t : List Node} {i : Int} (h : placeB t i = true) : treeB t = true := treeB_iff.2 (placeB_iff.1 h).2.2

set_option maxRecDepth 20000 in
set_option maxHeartbeats 8000000 in
theorem yield_span_yes (v : Value) (t : List Node) (I : Nat) (w : World) (h4 : bulkT t ≤ 1000000000) (hN : Nds w (Old w) v t) (hp : placeB t I = true) :
    Calls Tryz.prog 29 #[v, .int .i64 I] w fun r w' => r = .returned (.tuple #[.agg #[.int .i64 (spanOf t I).1, .int .i64 (spanOf t I).2.1], .bool true]) ∧ Below w.heap.size w w' := by
  have h5 := bulk_len t
  have HR := hidden (fun (w' : World) (hb : Below w.heap.size w w') => arena_right v t w' (by omega) (hN.old hb))
  rw [treeB_of_place hp] at HR
  have HS : Hid (spanOf t I = ((spanP t I (sz t I) (List.range (leavesOf t).length)).1, (spanP t I (sz t I) (List.range (leavesOf t).length)).2.1, true)) := hidden (by unfold spanOf; rw [hp]; rfl)
  generalize spanOf t I = so at *
  have HN := hidden hN
  obtain ⟨p1, p2, p3⟩ := placeB_iff.1 hp
  have HT := hidden p3
  have hI : I < t.length := by omega
  obtain ⟨b, off, c, rfl, hc1, hc2, hTb, _⟩ := hN.open_ (by intro e; subst e; simp at hI)
  unfold maxLen at hc2
  clear hN p1 p2 p3 hp
  have q1 : decide ((I : Int) < 0) = false := decide_eq_false (by omega)
  have q2 : decide (t.length ≤ I) = false := decide_eq_false (by omega)
  (refine (callsIn_wide (n := 5)).1 ?_; refine callsIn_of_wp_marks Tryz.func29 rfl trivial ?_ rfl; simp only [Tryz.ntmps29, List.size_toArray, List.length_cons, List.length_nil, Nat.reduceAdd, Nat.reduceSub, Array.replicate_succ, Array.replicate_zero, List.push_toArray, List.append_toArray, List.nil_append, List.cons_append])
  gi_wp2_with fail
  refine ⟨trivial, (callsIn_wide.2 (HR.out _ (by repeat (first | (with_reducible exact Below.refl _ _) | (with_reducible assumption) | (with_reducible refine Below.drew ?_) | (with_reducible refine below_drewN ?_ _) | ((with_reducible refine below_alloc ?_ ?_); (focus (first | omega | (simp; done) | (simp; omega)))) | ((with_reducible refine below_set ?_ ?_); (focus (first | omega | (simp; done) | (simp; omega)))))))).mono ?_⟩
  rintro e w2 ⟨rfl, hb2⟩
  have hz2 := hb2.size
  have g0 := Holds.below (g := w.heap.size) (t := 27) (cs := #[.slice (some ⟨b, off, none⟩) t.length c]) (by repeat (first | (with_reducible assumption) | ((with_reducible refine holds_new ?_); (focus (first | rfl | (simp; done)))) | (with_reducible refine Holds.alloc ?_ _) | (with_reducible refine Holds.drew ?_))) hb2 (by simp; omega)
  have g1 := Holds.below (g := w.heap.size + 1) (t := 3) (cs := #[.int .i64 (I : Int)]) (by repeat (first | (with_reducible assumption) | ((with_reducible refine holds_new ?_); (focus (first | rfl | (simp; done)))) | (with_reducible refine Holds.alloc ?_ _) | (with_reducible refine Holds.drew ?_))) hb2 (by simp)
  have g2 := Holds.below (g := w.heap.size + 1 + 1) (t := 60) (cs := #[.int .i64 0, .int .i64 0]) (by repeat (first | (with_reducible assumption) | ((with_reducible refine holds_new ?_); (focus (first | rfl | (simp; done)))) | (with_reducible refine Holds.alloc ?_ _) | (with_reducible refine Holds.drew ?_))) hb2 (by simp)
  have g3 := Holds.below (g := w.heap.size + 1 + 1 + 1) (t := 4) (cs := #[.bool false]) (by repeat (first | (with_reducible assumption) | ((with_reducible refine holds_new ?_); (focus (first | rfl | (simp; done)))) | (with_reducible refine Holds.alloc ?_ _) | (with_reducible refine Holds.drew ?_))) hb2 (by simp)
  have hb := Below.trans (B := w.heap.size) (a := w) (by repeat (first | (with_reducible exact Below.refl _ _) | (with_reducible assumption) | (with_reducible refine Below.drew ?_) | (with_reducible refine below_drewN ?_ _) | ((with_reducible refine below_alloc ?_ ?_); (focus (first | omega | (simp; done) | (simp; omega)))) | ((with_reducible refine below_set ?_ ?_); (focus (first | omega | (simp; done) | (simp; omega)))))) (hb2.mono (by simp; omega))
  have k0 := g0.c0; have l3 := g3.lt; have l0 := g0.lt
  have hbz := hb.size
  clear hb2 HR hz2
  gi_wp2_with (refine ⟨trivial, ?_⟩; gi_at_call 51; refine (callsIn_wide.2 (yield_words _ _ _ _ rfl _)).mono ?_; rintro e w' ⟨rfl, rfl⟩)
  have HB6 : Hid (∃ B6, B6 = w2.heap.size) := hidden ⟨_, rfl⟩
  have hN2 := (HN.out.below hb old_lt)
  have hz2 : w.heap.size + 1 + 1 + 1 < w2.heap.size := l3
  refine range_lawK (by omega) rfl (enters_of Tryz.func75 (by kernel_rfl) rfl)
    (ywords1_stops 4 (by omega) (w2.heap.size + 1 + 1) _ (fun k => k < w.heap.size ∨ k = w2.heap.size + 1 + 1) (by intro k hk; simp; omega) t (.slice (some ⟨b, off, none⟩) t.length c) h4 (((hN2.alloc _).alloc _).alloc _ |>.mono (fun k hk => .inl hk)) (.inr rfl) (by go_simp))
    KeepsT.trans (fun W l o o' hl ho hc _ => KeepsT.loop (by intro k hk; simp at hl; omega) ho hc) (Below.refl _ _) (fun _ => rfl)
    (SpI w (.slice (some ⟨b, off, none⟩) t.length c) I w2.heap.size) (SpX w I) ?i0 ?ix ?start ?round ?done ?stop
  case i0 =>
    rintro pre W W' ⟨h0, h1, h2⟩ hc
    exact ⟨h0.calm (by simp; omega) hc, hc.holds h1, hc.holds h2⟩
  case ix =>
    rintro c pre W W' ⟨h, pre', x, h0, h1, h2, h3, hb⟩ hc
    exact ⟨h, pre', x, h0, h1, hc.holds h2, hc.holds h3, hb.trans (hc.below (by simp; omega) hb.size)⟩
  case start => exact ⟨⟨(((g0.alloc _).alloc _).alloc _), (((g1.alloc _).alloc _).alloc _), (((g2.alloc _).alloc _).alloc _), (((g3.alloc _).alloc _).alloc _), ((hb.alloc hbz _).alloc (by simp; omega) _).alloc (by simp; omega) _, l3, by simp⟩, Holds.of_eq (cs := #[.int .i64 0, .int .i64 0]) (by repeat (first | (with_reducible assumption) | ((with_reducible refine holds_new ?_); (focus (first | rfl | (simp; done)))) | (with_reducible refine Holds.alloc ?_ _) | (with_reducible refine Holds.drew ?_))) rfl, Holds.of_eq (cs := #[.bool false]) (by repeat (first | (with_reducible assumption) | ((with_reducible refine holds_new ?_); (focus (first | rfl | (simp; done)))) | (with_reducible refine Holds.alloc ?_ _) | (with_reducible refine Holds.drew ?_))) rfl⟩
  case round =>
    rintro l pre x W ⟨h0, h1, h2⟩
    obtain ⟨f1, f2, f3, f4, f5⟩ := wd_facts x
    have hz := h0.lt2
    have hbW := h0.below.size
    dsimp only [encY, valY]
    gi_wp2
    refine ⟨KeepsOthers.alloc _ _, KeepsT.below (B := W.heap.size) (by omega) (Nat.le_refl _) (by repeat (first | (with_reducible exact Below.refl _ _) | (with_reducible assumption) | (with_reducible refine Below.drew ?_) | (with_reducible refine below_drewN ?_ _) | ((with_reducible refine below_alloc ?_ ?_); (focus (first | omega | (simp; done) | (simp; omega)))) | ((with_reducible refine below_set ?_ ?_); (focus (first | omega | (simp; done) | (simp; omega)))))), ⟨h0.later (by repeat (first | (with_reducible exact Below.refl _ _) | (with_reducible assumption) | (with_reducible refine Below.drew ?_) | (with_reducible refine below_drewN ?_ _) | ((with_reducible refine below_alloc ?_ ?_); (focus (first | omega | (simp; done) | (simp; omega)))) | ((with_reducible refine below_set ?_ ?_); (focus (first | omega | (simp; done) | (simp; omega)))))), h1.alloc _, h2.alloc _⟩, ?_⟩
    rintro W2 l2 pre2 hc2 ⟨m0, m6, m7⟩ hlen2 hl2 hr2
    have m5 := hc2.holds (Holds.new W _ _)
    have hzB := hc2.size
    simp at hzB
    clear h0 h1 h2 hc2 g0 g1 g2 g3 k0 hN2
    have HSn := hidden (spanP_snoc t I (sz t I) (pre2.map (·.1.1)) x.1.1)
    have HFin : Hid (∀ w', KeepsOthers W2 w' → KeepsT (fun k => k < w.heap.size ∨ k = w2.heap.size + 1 + 1) 3 W2 w' → SpC w (.slice (some ⟨b, off, none⟩) t.length c) I w2.heap.size w' →
        Holds w' w2.heap.size 60 #[.int .i64 ((stepP t I (sz t I) (spanP t I (sz t I) (pre2.map (·.1.1))) x.1.1).1 : Nat), .int .i64 ((stepP t I (sz t I) (spanP t I (sz t I) (pre2.map (·.1.1))) x.1.1).2.1 : Nat)] →
        Holds w' (w2.heap.size + 1) 4 #[.bool (stepP t I (sz t I) (spanP t I (sz t I) (pre2.map (·.1.1))) x.1.1).2.2] →
        roundEndK (KeepsT (fun k => k < w.heap.size ∨ k = w2.heap.size + 1 + 1) 3) (SpI w (.slice (some ⟨b, off, none⟩) t.length c) I w2.heap.size) (SpX w I) (pre2 ++ [x]) W2 .normal { tmps := #[], defers := [] } w') := hidden (fun w' a1 a2 a3 a4 a5 => by
      refine ⟨a1, a2, a3, ?_⟩
      unfold SpD
      rw [List.map_append, List.map_cons, List.map_nil, HSn.out]
      exact ⟨a4, a5⟩)
    have HRet : Hid (∀ w', KeepsOthers W2 w' → I + sz t I ≤ nodeY t x.1.1 → Holds w' (w.heap.size + 1 + 1) 60 #[.int .i64 ((spanP t I (sz t I) (pre2.map (·.1.1))).1 : Nat), .int .i64 ((spanP t I (sz t I) (pre2.map (·.1.1))).2.1 : Nat)] → Holds w' (w.heap.size + 1 + 1 + 1) 4 #[.bool true] → Below w.heap.size w w' →
        roundEndK (KeepsT (fun k => k < w.heap.size ∨ k = w2.heap.size + 1 + 1) 3) (SpI w (.slice (some ⟨b, off, none⟩) t.length c) I w2.heap.size) (SpX w I) (pre2 ++ [x]) W2 .ret { tmps := #[], defers := [] } w') := hidden (fun w' a1 a2 a3 a4 a5 => ⟨a1, rfl, pre2, x, rfl, a2, a3, a4, a5⟩)
    have HSt : Hid (stepP t I (sz t I) (spanP t I (sz t I) (pre2.map (·.1.1))) x.1.1 = if I + sz t I ≤ nodeY t x.1.1 then spanP t I (sz t I) (pre2.map (·.1.1)) else if nodeY t x.1.1 < I then (fromY t (leavesOf t) (x.1.1 + 1), fromY t (leavesOf t) (x.1.1 + 1), (spanP t I (sz t I) (pre2.map (·.1.1))).2.2) else (if (spanP t I (sz t I) (pre2.map (·.1.1))).2.2 then (spanP t I (sz t I) (pre2.map (·.1.1))).1 else ownY t x.1.1, fromY t (leavesOf t) (x.1.1 + 1), true)) := hidden rfl
    unfold SpD at *
    generalize stepP t I (sz t I) (spanP t I (sz t I) (pre2.map (·.1.1))) x.1.1 = s2 at *
    generalize spanP t I (sz t I) (pre2.map (·.1.1)) = s1 at *
    obtain ⟨sa, sb, sm⟩ := s1
    have HXI : Hid (∃ y, y = x) := hidden ⟨x, rfl⟩
    generalize hnd : nodeY t x.1.1 = nd at *
    generalize fromY t (leavesOf t) x.1.1 = f0 at *
    generalize fromY t (leavesOf t) (x.1.1 + 1) = fe at *
    generalize ownY t x.1.1 = ow at *
    generalize (leafAt t nd).text = tx at *
    generalize (leafAt t nd).lead.length = ln at *
    generalize (leafAt t nd).n = tk at *
    have HW := hidden (word_end (nd : Int) f0 ow x.1.2.1 ln x.1.2.2 tk tx)
    generalize x.1.2.1 = xA at *
    generalize x.1.2.2 = xc at *
    dsimp only at m6 m7
    --BODY
    have hN3 := (HN.out.below m0.below old_lt).size_cell HT.out hI
    obtain ⟨z1, z2, z3⟩ := tree_node HT.out hI
    have e1 : 0 ≤ (ow : Int) ∧ (ow : Int) ≤ 1000000000000 := by omega
    have e2 : tx.size ≤ 1000000000000 := by omega
    have HC := hidden (HW.out)
    generalize sz t I = z at *
    have HND := hidden hnd
    clear hnd hlen2 hl2 hr2 z3
    have HQ : Hid (KeepsOthers W2 W2 ∧ KeepsT (fun k => k < w.heap.size ∨ k = w2.heap.size + 1 + 1) 3 W2 W2) := hidden ⟨KeepsOthers.refl _, KeepsT.refl _⟩
    have HT2 : Hid (∀ k, (k < w.heap.size ∨ k = w2.heap.size + 1 + 1) → k < W2.heap.size) := hidden (by have := m0.lt2; have := m0.below.size; intro k hk; omega)
    have HE := hidden m0; have H5 := hidden m5; have H6 := hidden m6; have H7 := hidden m7
    have ya := Ext.cell m0.b0.c0; have yb := Ext.cell m0.b1.c0; have yc := Ext.cell hN3
    have yd : ∀ x : Ext W2, x.w.cell? ⟨W.heap.size, 0, none⟩ = some (.int .i64 nd) := Ext.cell (m5.cell 0)
    clear hN3 m0 m5 m6 m7
    by_cases q5 : I + z ≤ nd
    · have q6 : decide (I + z ≤ nd) = true := decide_eq_true q5
      have q7 : decide ((I : Int) + z ≤ nd) = true := decide_eq_true (by omega)
      gi_wp2
      refine wpIn_region_ext (by kernel_rfl) (by kernel_rfl) rfl ?_
      repeat (gi_big_quiet_step (fail))
      refine wpQuietIn_nil ?_
      intro w3 hb3
      clear ya yb yc yd
      have m0 := HE.out.later hb3
      have m5 := H5.out.below hb3 H5.out.lt; have m6 := H6.out.below hb3 H6.out.lt; have m7 := H7.out.below hb3 H7.out.lt
      have HK := hidden (KeepsOthers.of_below hb3)
      have HKT : Hid (KeepsT (fun k => k < w.heap.size ∨ k = w2.heap.size + 1 + 1) 3 W2 w3) := hidden (KeepsT.below HT2.out (Nat.le_refl _) hb3)
      have hz3 := hb3.size
      have ll := m0.lt; have ll2 := m0.lt2; have ll3 := m0.below.size
      clear HE H5 H6 H7 HQ hb3
      have c1 : w3.cell? ⟨w.heap.size + 1, 0, none⟩ = some (.int .i64 I) := m0.b1.cell 0
      have c2 : w3.cell? ⟨w.heap.size, 0, none⟩ = some (.slice (some ⟨b, off, none⟩) t.length c) := m0.b0.cell 0
      have c3 : w3.cell? ⟨w2.heap.size, 0, none⟩ = some (.int .i64 sa) := m6.cell 0
      have c4 : w3.cell? ⟨w2.heap.size, 1, none⟩ = some (.int .i64 sb) := m6.cell 1
      have c5 : w3.cell? ⟨w2.heap.size + 1, 0, none⟩ = some (.bool sm) := m7.cell 0
      have d0 : w3.cell? ⟨W.heap.size, 0, none⟩ = some (.int .i64 nd) := m5.cell 0
      have d1 : w3.cell? ⟨W.heap.size, 1, none⟩ = some (.int .i64 f0) := m5.cell 1
      have d2 : w3.cell? ⟨W.heap.size, 2, none⟩ = some (.int .i64 ow) := m5.cell 2
      have d3 : w3.cell? ⟨W.heap.size, 3, none⟩ = some (.slice xA ln xc) := m5.cell 3
      have d4 : w3.cell? ⟨W.heap.size, 4, none⟩ = some (.int .i64 tk) := m5.cell 4
      have d5 : w3.cell? ⟨W.heap.size, 5, none⟩ = some (.string tx) := m5.cell 5
      have fa0 := m6.frozen 0; have fa1 := m6.frozen 1; have fb := m7.frozen 0
      have l6 := m6.lt; have l7 := m7.lt; have l5 := m5.lt
      have fr0 := m0.b2.frozen 0; have fr1 := m0.b2.frozen 1; have fr2 := m0.b3.frozen 0; have lr := m0.b2.lt; have lr2 := m0.b3.lt
      have r0 : w3.cell? ⟨w.heap.size + 1 + 1, 0, none⟩ = some (.int .i64 0) := m0.b2.cell 0
      have r1 : w3.cell? ⟨w.heap.size + 1 + 1, 1, none⟩ = some (.int .i64 0) := m0.b2.cell 1
      have r2 : w3.cell? ⟨w.heap.size + 1 + 1 + 1, 0, none⟩ = some (.bool false) := m0.b3.cell 0
      gi_wp2
      refine HRet.out _ ((HK.out.trans (KeepsOthers.setCell _ _ _)).trans (KeepsOthers.setCell _ _ _) |>.trans (KeepsOthers.setCell _ _ _)) q5 ?_ ?_ ?_
      · exact ((m0.b2.set 0 _).set 1 _).far (p := ⟨w.heap.size + 1 + 1 + 1, 0, none⟩) (by dsimp only; omega) _
      · exact ((m0.b3.far (p := ⟨w.heap.size + 1 + 1, 0, none⟩) (by dsimp only; omega) _).far (p := ⟨w.heap.size + 1 + 1, 1, none⟩) (by dsimp only; omega) _).set 0 _
      · have hb := m0.below
        exact (by repeat (first | (with_reducible exact Below.refl _ _) | (with_reducible assumption) | (with_reducible refine Below.drew ?_) | (with_reducible refine below_drewN ?_ _) | ((with_reducible refine below_alloc ?_ ?_); (focus (first | omega | (simp; done) | (simp; omega)))) | ((with_reducible refine below_set ?_ ?_); (focus (first | omega | (simp; done) | (simp; omega))))))
    · have q6 : decide (I + z ≤ nd) = false := decide_eq_false q5
      have q7 : decide ((I : Int) + z ≤ nd) = false := decide_eq_false (by omega)
      by_cases q8 : nd < I
      · have q9 : decide (nd < I) = true := decide_eq_true q8
        gi_wp2
        refine wpIn_region_ext (by kernel_rfl) (by kernel_rfl) rfl ?_
        repeat (gi_big_quiet_step (fail))
        refine wpQuietIn_nil ?_
        intro w3 hb3
        clear ya yb yc yd
        have m0 := HE.out.later hb3
        have m5 := H5.out.below hb3 H5.out.lt; have m6 := H6.out.below hb3 H6.out.lt; have m7 := H7.out.below hb3 H7.out.lt
        have HK := hidden (KeepsOthers.of_below hb3)
        have HKT : Hid (KeepsT (fun k => k < w.heap.size ∨ k = w2.heap.size + 1 + 1) 3 W2 w3) := hidden (KeepsT.below HT2.out (Nat.le_refl _) hb3)
        have hz3 := hb3.size
        have ll := m0.lt; have ll2 := m0.lt2; have ll3 := m0.below.size
        clear HE H5 H6 H7 HQ hb3
        have c1 : w3.cell? ⟨w.heap.size + 1, 0, none⟩ = some (.int .i64 I) := m0.b1.cell 0
        have c2 : w3.cell? ⟨w.heap.size, 0, none⟩ = some (.slice (some ⟨b, off, none⟩) t.length c) := m0.b0.cell 0
        have c3 : w3.cell? ⟨w2.heap.size, 0, none⟩ = some (.int .i64 sa) := m6.cell 0
        have c4 : w3.cell? ⟨w2.heap.size, 1, none⟩ = some (.int .i64 sb) := m6.cell 1
        have c5 : w3.cell? ⟨w2.heap.size + 1, 0, none⟩ = some (.bool sm) := m7.cell 0
        have d0 : w3.cell? ⟨W.heap.size, 0, none⟩ = some (.int .i64 nd) := m5.cell 0
        have d1 : w3.cell? ⟨W.heap.size, 1, none⟩ = some (.int .i64 f0) := m5.cell 1
        have d2 : w3.cell? ⟨W.heap.size, 2, none⟩ = some (.int .i64 ow) := m5.cell 2
        have d3 : w3.cell? ⟨W.heap.size, 3, none⟩ = some (.slice xA ln xc) := m5.cell 3
        have d4 : w3.cell? ⟨W.heap.size, 4, none⟩ = some (.int .i64 tk) := m5.cell 4
        have d5 : w3.cell? ⟨W.heap.size, 5, none⟩ = some (.string tx) := m5.cell 5
        have fa0 := m6.frozen 0; have fa1 := m6.frozen 1; have fb := m7.frozen 0
        have l6 := m6.lt; have l7 := m7.lt; have l5 := m5.lt
        gi_wp2
        have y0 := Ext.cell d0; have y1 := Ext.cell d1; have y2 := Ext.cell d2; have y3 := Ext.cell d3; have y4 := Ext.cell d4; have y5 := Ext.cell d5
        clear c1 c2 c3 c4 c5 d0 d1 d2 d3 d4 d5 fa0 fa1 fb
        refine wpIn_region_ext_tail 5 (by kernel_rfl) (by kernel_rfl) rfl ?_
        simp only [List.take_succ_cons, List.take_zero, List.drop_succ_cons, List.drop_zero]
        repeat (gi_big_quiet_step ((gi_at_call 54; exact Ext.callIn (callsIn_wide.2 (HC.out _ e1 e2)))))
        refine wpQuietIn_nil ?_
        intro w4 hb4
        clear y0 y1 y2 y3 y4 y5
        replace m0 := m0.later hb4; replace m6 := m6.below hb4 l6; replace m7 := m7.below hb4 l7
        replace HK := hidden (HK.out.trans (KeepsOthers.of_below hb4))
        replace HKT := hidden (HKT.out.trans (KeepsT.below (e := 3) (fun k hk => Nat.lt_of_lt_of_le (HT2.out k hk) hz3) (Nat.le_refl _) hb4))
        have hz4 := hb4.size
        have c3 : w4.cell? ⟨w2.heap.size, 0, none⟩ = some (.int .i64 sa) := m6.cell 0
        have c4 : w4.cell? ⟨w2.heap.size, 1, none⟩ = some (.int .i64 sb) := m6.cell 1
        have c5 : w4.cell? ⟨w2.heap.size + 1, 0, none⟩ = some (.bool sm) := m7.cell 0
        have fa0 := m6.frozen 0; have fa1 := m6.frozen 1; have fb := m7.frozen 0
        have l8 := m6.lt; have l9 := m7.lt
        clear hb4
        gi_wp2
        have hs : Hid (s2 = (fe, fe, sm)) := hidden (by rw [HSt.out, if_neg q5, if_pos q8])
        refine HFin.out _ ((HK.out.trans (KeepsOthers.setCell _ _ _)).trans (KeepsOthers.setCell _ _ _)) ?_ ((m0.set (by omega) _).set (by omega) _) ?_ ?_
        · exact KeepsT.setCell (KeepsT.setCell HKT.out (by omega) m6 (by decide)) (by omega) (m6.set 0 _) (by decide)
        · rw [hs.out]
          exact (m6.set 0 _).set 1 _
        · rw [hs.out]
          exact (m7.far (p := ⟨w2.heap.size, 0, none⟩) (by dsimp only; omega) _).far (p := ⟨w2.heap.size, 1, none⟩) (by dsimp only; omega) _
      · have q9 : decide (nd < I) = false := decide_eq_false q8
        cases sm with
        | false =>
          gi_wp2
          refine wpIn_region_ext (by kernel_rfl) (by kernel_rfl) rfl ?_
          repeat (gi_big_quiet_step (fail))
          refine wpQuietIn_nil ?_
          intro w3 hb3
          clear ya yb yc yd
          have m0 := HE.out.later hb3
          have m5 := H5.out.below hb3 H5.out.lt; have m6 := H6.out.below hb3 H6.out.lt; have m7 := H7.out.below hb3 H7.out.lt
          have HK := hidden (KeepsOthers.of_below hb3)
          have HKT : Hid (KeepsT (fun k => k < w.heap.size ∨ k = w2.heap.size + 1 + 1) 3 W2 w3) := hidden (KeepsT.below HT2.out (Nat.le_refl _) hb3)
          have hz3 := hb3.size
          have ll := m0.lt; have ll2 := m0.lt2; have ll3 := m0.below.size
          clear HE H5 H6 H7 HQ hb3
          have c1 : w3.cell? ⟨w.heap.size + 1, 0, none⟩ = some (.int .i64 I) := m0.b1.cell 0
          have c2 : w3.cell? ⟨w.heap.size, 0, none⟩ = some (.slice (some ⟨b, off, none⟩) t.length c) := m0.b0.cell 0
          have c3 : w3.cell? ⟨w2.heap.size, 0, none⟩ = some (.int .i64 sa) := m6.cell 0
          have c4 : w3.cell? ⟨w2.heap.size, 1, none⟩ = some (.int .i64 sb) := m6.cell 1
          have c5 : w3.cell? ⟨w2.heap.size + 1, 0, none⟩ = some (.bool false) := m7.cell 0
          have d0 : w3.cell? ⟨W.heap.size, 0, none⟩ = some (.int .i64 nd) := m5.cell 0
          have d1 : w3.cell? ⟨W.heap.size, 1, none⟩ = some (.int .i64 f0) := m5.cell 1
          have d2 : w3.cell? ⟨W.heap.size, 2, none⟩ = some (.int .i64 ow) := m5.cell 2
          have d3 : w3.cell? ⟨W.heap.size, 3, none⟩ = some (.slice xA ln xc) := m5.cell 3
          have d4 : w3.cell? ⟨W.heap.size, 4, none⟩ = some (.int .i64 tk) := m5.cell 4
          have d5 : w3.cell? ⟨W.heap.size, 5, none⟩ = some (.string tx) := m5.cell 5
          have fa0 := m6.frozen 0; have fa1 := m6.frozen 1; have fb := m7.frozen 0
          have l6 := m6.lt; have l7 := m7.lt; have l5 := m5.lt
          gi_wp2
          have y0 := Ext.cell d0; have y1 := Ext.cell d1; have y2 := Ext.cell d2; have y3 := Ext.cell d3; have y4 := Ext.cell d4; have y5 := Ext.cell d5
          clear c1 c2 c3 c4 c5 d0 d1 d2 d3 d4 d5 fa0 fa1 fb
          refine wpIn_region_ext_tail 6 (by kernel_rfl) (by kernel_rfl) rfl ?_
          simp only [List.take_succ_cons, List.take_zero, List.drop_succ_cons, List.drop_zero]
          repeat (gi_big_quiet_step ((gi_at_call 54; exact Ext.callIn (callsIn_wide.2 (HC.out _ e1 e2)))))
          refine wpQuietIn_nil ?_
          intro w4 hb4
          clear y0 y1 y2 y3 y4 y5
          replace m0 := m0.later hb4; replace m6 := m6.below hb4 l6; replace m7 := m7.below hb4 l7
          replace HK := hidden (HK.out.trans (KeepsOthers.of_below hb4))
          replace HKT := hidden (HKT.out.trans (KeepsT.below (e := 3) (fun k hk => Nat.lt_of_lt_of_le (HT2.out k hk) hz3) (Nat.le_refl _) hb4))
          have hz4 := hb4.size
          have c3 : w4.cell? ⟨w2.heap.size, 0, none⟩ = some (.int .i64 sa) := m6.cell 0
          have c4 : w4.cell? ⟨w2.heap.size, 1, none⟩ = some (.int .i64 sb) := m6.cell 1
          have c5 : w4.cell? ⟨w2.heap.size + 1, 0, none⟩ = some (.bool false) := m7.cell 0
          have fa0 := m6.frozen 0; have fa1 := m6.frozen 1; have fb := m7.frozen 0
          have l8 := m6.lt; have l9 := m7.lt
          clear hb4
          gi_wp2
          have hs : Hid (s2 = (ow, fe, true)) := hidden (by rw [HSt.out, if_neg q5, if_neg q8]; rfl)
          refine HFin.out _ (((HK.out.trans (KeepsOthers.setCell _ _ _)).trans (KeepsOthers.setCell _ _ _)).trans (KeepsOthers.setCell _ _ _)) ?_ (((m0.set (by omega) _).set (by omega) _).set (by omega) _) ?_ ?_
          · exact KeepsT.setCell (KeepsT.setCell (KeepsT.setCell HKT.out (by omega) m6 (by decide)) (by omega) (m6.set 0 _) (by decide)) (by omega) ((m7.far (p := ⟨w2.heap.size, 0, none⟩) (by dsimp only; omega) _).far (p := ⟨w2.heap.size, 1, none⟩) (by dsimp only; omega) _) (by decide)
          · rw [hs.out]
            exact ((m6.set 0 _).set 1 _).far (p := ⟨w2.heap.size + 1, 0, none⟩) (by dsimp only; omega) _
          · rw [hs.out]
            exact ((m7.far (p := ⟨w2.heap.size, 0, none⟩) (by dsimp only; omega) _).far (p := ⟨w2.heap.size, 1, none⟩) (by dsimp only; omega) _).set 0 _
        | true =>
          gi_wp2
          refine wpIn_region_ext (by kernel_rfl) (by kernel_rfl) rfl ?_
          repeat (gi_big_quiet_step (fail))
          refine wpQuietIn_nil ?_
          intro w3 hb3
          clear ya yb yc yd
          have m0 := HE.out.later hb3
          have m5 := H5.out.below hb3 H5.out.lt; have m6 := H6.out.below hb3 H6.out.lt; have m7 := H7.out.below hb3 H7.out.lt
          have HK := hidden (KeepsOthers.of_below hb3)
          have HKT : Hid (KeepsT (fun k => k < w.heap.size ∨ k = w2.heap.size + 1 + 1) 3 W2 w3) := hidden (KeepsT.below HT2.out (Nat.le_refl _) hb3)
          have hz3 := hb3.size
          have ll := m0.lt; have ll2 := m0.lt2; have ll3 := m0.below.size
          clear HE H5 H6 H7 HQ hb3
          have c1 : w3.cell? ⟨w.heap.size + 1, 0, none⟩ = some (.int .i64 I) := m0.b1.cell 0
          have c2 : w3.cell? ⟨w.heap.size, 0, none⟩ = some (.slice (some ⟨b, off, none⟩) t.length c) := m0.b0.cell 0
          have c3 : w3.cell? ⟨w2.heap.size, 0, none⟩ = some (.int .i64 sa) := m6.cell 0
          have c4 : w3.cell? ⟨w2.heap.size, 1, none⟩ = some (.int .i64 sb) := m6.cell 1
          have c5 : w3.cell? ⟨w2.heap.size + 1, 0, none⟩ = some (.bool true) := m7.cell 0
          have d0 : w3.cell? ⟨W.heap.size, 0, none⟩ = some (.int .i64 nd) := m5.cell 0
          have d1 : w3.cell? ⟨W.heap.size, 1, none⟩ = some (.int .i64 f0) := m5.cell 1
          have d2 : w3.cell? ⟨W.heap.size, 2, none⟩ = some (.int .i64 ow) := m5.cell 2
          have d3 : w3.cell? ⟨W.heap.size, 3, none⟩ = some (.slice xA ln xc) := m5.cell 3
          have d4 : w3.cell? ⟨W.heap.size, 4, none⟩ = some (.int .i64 tk) := m5.cell 4
          have d5 : w3.cell? ⟨W.heap.size, 5, none⟩ = some (.string tx) := m5.cell 5
          have fa0 := m6.frozen 0; have fa1 := m6.frozen 1; have fb := m7.frozen 0
          have l6 := m6.lt; have l7 := m7.lt; have l5 := m5.lt
          gi_wp2_with fail
          refine CallsIn.mono (F := Fence.wide.inRound l2) (callsIn_wide.2 (HC.out _ e1 e2)) ?_
          rintro e w4 ⟨rfl, hb4⟩
          clear c1 c2 c3 c4 c5 d0 d1 d2 d3 d4 d5 fa0 fa1 fb
          replace m0 := m0.later hb4; replace m6 := m6.below hb4 l6; replace m7 := m7.below hb4 l7
          replace HK := hidden (HK.out.trans (KeepsOthers.of_below hb4))
          replace HKT := hidden (HKT.out.trans (KeepsT.below (e := 3) (fun k hk => Nat.lt_of_lt_of_le (HT2.out k hk) hz3) (Nat.le_refl _) hb4))
          have hz4 := hb4.size
          have c4 : w4.cell? ⟨w2.heap.size, 1, none⟩ = some (.int .i64 sb) := m6.cell 1
          have fa1 := m6.frozen 1
          have l8 := m6.lt
          clear hb4
          gi_wp2
          have hs : Hid (s2 = (sa, fe, true)) := hidden (by rw [HSt.out, if_neg q5, if_neg q8]; rfl)
          refine HFin.out _ (HK.out.trans (KeepsOthers.setCell _ _ _)) ?_ (m0.set (by omega) _) ?_ ?_
          · exact KeepsT.setCell HKT.out (by omega) m6 (by decide)
          · rw [hs.out]
            exact m6.set 1 _
          · rw [hs.out]
            exact m7.far (p := ⟨w2.heap.size, 1, none⟩) (by dsimp only; omega) _
  case done =>
    rintro D xs W hD hS ⟨m0, m6, m7⟩ hK
    rw [hS] at m6 m7
    generalize spanP t I (sz t I) (List.range (leavesOf t).length) = s1 at *
    obtain ⟨sa, sb, sm⟩ := s1
    dsimp only at m6 m7 HS
    have ll := m0.lt; have ll2 := m0.lt2; have ll3 := m0.below.size
    have c3 : W.cell? ⟨w2.heap.size, 0, none⟩ = some (.int .i64 sa) := m6.cell 0
    have c4 : W.cell? ⟨w2.heap.size, 1, none⟩ = some (.int .i64 sb) := m6.cell 1
    have fr0 := m0.b2.frozen 0; have fr1 := m0.b2.frozen 1; have fr2 := m0.b3.frozen 0; have lr := m0.b2.lt; have lr2 := m0.b3.lt
    have r0 : W.cell? ⟨w.heap.size + 1 + 1, 0, none⟩ = some (.int .i64 0) := m0.b2.cell 0
    have r1 : W.cell? ⟨w.heap.size + 1 + 1, 1, none⟩ = some (.int .i64 0) := m0.b2.cell 1
    have r2 : W.cell? ⟨w.heap.size + 1 + 1 + 1, 0, none⟩ = some (.bool false) := m0.b3.cell 0
    gi_wp2
    refine leaves_marks (B := w.heap.size) [D] _ ⟨by simp, ?_⟩ ?_
    · intro D' hD'
      simp at hD'
      subst hD'
      simp at hD
      exact ⟨by omega, by rw [Below.heap_setCell _ _ _ _ (by dsimp only; omega), Below.heap_setCell _ _ _ _ (by dsimp only; omega), Below.heap_setCell _ _ _ _ (by dsimp only; omega)]; exact hK⟩
    · intro W' hc
      have q2 := hc.holds (((m0.b2.set 0 (.int .i64 sa)).set 1 (.int .i64 sb)).far (p := ⟨w.heap.size + 1 + 1 + 1, 0, none⟩) (by dsimp only; omega) (.bool true))
      have q3 := hc.holds (((m0.b3.far (p := ⟨w.heap.size + 1 + 1, 0, none⟩) (by dsimp only; omega) (.int .i64 sa)).far (p := ⟨w.heap.size + 1 + 1, 1, none⟩) (by dsimp only; omega) (.int .i64 sb)).set 0 (.bool true))
      have e1 : W'.cell? ⟨w.heap.size + 1 + 1, 0, none⟩ = some (.int .i64 sa) := q2.cell 0
      have e2 : W'.cell? ⟨w.heap.size + 1 + 1, 1, none⟩ = some (.int .i64 sb) := q2.cell 1
      have e3 : W'.cell? ⟨w.heap.size + 1 + 1 + 1, 0, none⟩ = some (.bool true) := q3.cell 0
      have hb := m0.below
      refine ⟨.tuple #[.agg #[.int .i64 sa, .int .i64 sb], .bool true], ?_, ?_, ?_⟩
      · simp [results, Tryz.f29, go_sem, e1, e2, e3]
      · rw [HS.out]
      · refine Below.trans ?_ (hc.below (Nat.le_refl _) (by simp; omega))
        exact (by repeat (first | (with_reducible exact Below.refl _ _) | (with_reducible assumption) | (with_reducible refine Below.drew ?_) | (with_reducible refine below_drewN ?_ _) | ((with_reducible refine below_alloc ?_ ?_); (focus (first | omega | (simp; done) | (simp; omega)))) | ((with_reducible refine below_set ?_ ?_); (focus (first | omega | (simp; done) | (simp; omega))))))
  case stop =>
    rintro D c pre W hD hS ⟨rfl, pre', x, rfl, h1, h2, h3, hb⟩ hK
    have HP : Hid (spanP t I (sz t I) (List.range (leavesOf t).length) = spanP t I (sz t I) (pre'.map (·.1.1))) := hidden (spanP_stop (by rw [List.map_append] at hS; exact hS) h1)
    rw [HP.out] at HS
    generalize spanP t I (sz t I) (pre'.map (·.1.1)) = s1 at *
    obtain ⟨sa, sb, sm⟩ := s1
    dsimp only at h2 HS
    gi_wp2
    refine leaves_marks (B := w.heap.size) [D] _ ⟨by simp, ?_⟩ ?_
    · intro D' hD'
      simp at hD'
      subst hD'
      simp at hD
      exact ⟨by omega, hK⟩
    · intro W' hc
      have e1 : W'.cell? ⟨w.heap.size + 1 + 1, 0, none⟩ = some (.int .i64 sa) := (hc.holds h2).cell 0
      have e2 : W'.cell? ⟨w.heap.size + 1 + 1, 1, none⟩ = some (.int .i64 sb) := (hc.holds h2).cell 1
      have e3 : W'.cell? ⟨w.heap.size + 1 + 1 + 1, 0, none⟩ = some (.bool true) := (hc.holds h3).cell 0
      refine ⟨.tuple #[.agg #[.int .i64 sa, .int .i64 sb], .bool true], ?_, ?_, ?_⟩
      · simp [results, Tryz.f29, go_sem, e1, e2, e3]
      · rw [HS.out]
      · exact hb.trans (hc.below (Nat.le_refl _) hb.size)
end Go.Proofs.YtdbbjlphlbndkaaGreat.T

namespace Go.Proofs.YtdbbjlphlbndkaaGreat.T
open Go.RowKit Go.Shelf

def bd_lays_ren : Go.Shelf.Ren := ⟨fun | 169 => 53 | n => n, fun | 70 => 90 | 9 => 9 | 0 => 0 | 72 => 93 | 37 => 91 | 127 => 133 | 3 => 3 | 5 => 5 | n => n, fun | n => n⟩
theorem bd_lays : Lays.n169 Tryz.prog bd_lays_ren := {
  mixed := by kernel_rfl
  f169 := Tryz.func53.trans (congrArg some (by kernel_rfl))
  t0 := Tryz.underlying0
  a0 := Tryz.isAgg0
  z0 := Tryz.sizeOf0
  v0 := Tryz.zeroValue0
  t3 := Tryz.underlying3
  a3 := Tryz.isAgg3
  z3 := Tryz.sizeOf3
  v3 := Tryz.zeroValue3
  t9 := Tryz.underlying9
  a9 := Tryz.isAgg9
  z9 := Tryz.sizeOf9
  v9 := Tryz.zeroValue9
  t37 := Tryz.underlying91
  a37 := Tryz.isAgg91
  z37 := Tryz.sizeOf91
  v37 := Tryz.zeroValue91
  t70 := Tryz.underlying90
  a70 := Tryz.isAgg90
  z70 := Tryz.sizeOf90
  v70 := Tryz.zeroValue90
  t72 := Tryz.underlying93
  a72 := Tryz.isAgg93
  z72 := Tryz.sizeOf93
  v72 := Tryz.zeroValue93
  t127 := Tryz.underlying133
  a127 := Tryz.isAgg133
  z127 := Tryz.sizeOf133
  v127 := Tryz.zeroValue133 }
theorem bd_extra : Builder.Extra Tryz.prog bd_lays_ren := {
  sizeBuilder := by kernel_rfl
  liesBuilder := by kernel_rfl
  t5 := Tryz.underlying5
  a5 := Tryz.isAgg5
  z5 := Tryz.sizeOf5
  v5 := Tryz.zeroValue5
  infoByte := by kernel_rfl
  cellsByte := by kernel_rfl
  sizeByte := by kernel_rfl
  neB5 := by decide }

/-- A builder of the call's own, that holds bytes. -/
def Bd (B b : Nat) (l : List UInt8) (w : World) : Prop := Lib.IsBuilderF 93 5 B b (Lib.byteCells l) w

theorem bd_string (B b : Nat) (l : List UInt8) (w : World) (h : Bd B b l w) (hBw : B ≤ w.heap.size) :
    Calls Tryz.prog 53 #[.pointer (some ⟨b, 0, none⟩)] w fun e w' => e = .returned (.string ⟨l.toArray⟩) ∧ Below B w w' ∧ Lib.OthersKept 5 (some b) w w' :=
  (Any.Builder_String_any_k bd_lays bd_extra B b l w h hBw).mono fun _ _ h => ⟨h.1, h.2.2⟩

set_option maxRecDepth 100000 in
set_option maxHeartbeats 1000000 in
theorem bd_copyCheck_used (b : Nat) (w : World) (h0 : w.cell? ⟨b, 0, none⟩ = some (.pointer (some ⟨b, 0, none⟩))) :
    Calls Tryz.prog 77 #[.pointer (some ⟨b, 0, none⟩)] w fun e w' => e = .returned (.tuple #[]) ∧ w' = w := by
  obtain ⟨j, hj, _⟩ := Option.map_eq_some_iff.1 bd_extra.sizeBuilder
  go_enter Tryz.func77, Tryz.ntmps77
  go_wp2
  rw [Lib.run_neq_ptr_same w _ Tryz.underlying90 hj]
  go_wp2
  go_end0
  exact ⟨rfl, rfl⟩
set_option maxRecDepth 100000 in
set_option maxHeartbeats 1000000 in
theorem bd_copyCheck_fresh (b : Nat) (w : World) (h0 : w.cell? ⟨b, 0, none⟩ = some (.pointer none)) (hsh : w.shape? b = some (93, 2)) (hfz : w.frozen? ⟨b, 0, none⟩ = false) :
    Calls Tryz.prog 77 #[.pointer (some ⟨b, 0, none⟩)] w fun e w' => e = .returned (.tuple #[]) ∧ w' = w.setCell ⟨b, 0, none⟩ (.pointer (some ⟨b, 0, none⟩)) := by
  obtain ⟨j, hj, hjs⟩ := Option.map_eq_some_iff.1 bd_extra.sizeBuilder
  go_enter Tryz.func77, Tryz.ntmps77
  go_wp2
  rw [Lib.run_to_unsafe w ⟨b, 0, none⟩ Tryz.underlying90 Tryz.underlying150 hj (by rw [hjs]; decide) hsh (Nat.zero_lt_succ 1)]
  simp only [Result.andThen]
  rw [Oper.upon_value]
  go_wp2
  rw [run_callFunc_extern Tryz.func94 (by kernel_rfl) (by kernel_rfl) (by kernel_rfl) (e := Extern.AbiNoEscape.same) (by kernel_rfl)]
  rw [Lib.run_noEscape]
  simp only [Result.andThen]
  rw [Oper.upon_value]
  go_wp2
  rw [Lib.run_from_unsafe w ⟨b, 0, none⟩ Tryz.underlying150 Tryz.underlying90 hj hsh bd_extra.liesBuilder]
  simp only [Result.andThen]
  rw [Oper.upon_value]
  go_wp2
  go_end0
  exact ⟨rfl, rfl⟩
theorem bd_copyCheck (B b : Nat) (bs : List Value) (w : World) (h : Lib.IsBuilderF 93 5 B b bs w) :
    Calls Tryz.prog 77 #[.pointer (some ⟨b, 0, none⟩)] w fun e w' => e = .returned (.tuple #[]) ∧ (Lib.BuilderAtF 93 5 B b (.pointer (some ⟨b, 0, none⟩)) bs w' ∧ Below B w w' ∧ Lib.OthersKept 5 (some b) w w') := by
  rcases h with h | h
  · refine (bd_copyCheck_fresh b w h.cell0 h.shape h.frozen0).mono ?_
    rintro e w' ⟨rfl, rfl⟩
    exact ⟨rfl, h.used _, (Below.refl B w).setCell (p := ⟨b, 0, none⟩) h.1 _, (Lib.OthersKept.refl _ _ w).setCell ⟨b, 0, none⟩ rfl _⟩
  · refine (bd_copyCheck_used b w h.cell0).mono ?_
    rintro e w' ⟨rfl, rfl⟩
    exact ⟨rfl, h, Below.refl B _, Lib.OthersKept.refl _ _ _⟩

theorem strCells_bytes (s : ByteArray) : Lib.strCells s = Lib.byteCells s.data.toList := rfl

set_option maxRecDepth 100000 in
set_option maxHeartbeats 2000000 in
theorem bd_write (B b : Nat) (l : List UInt8) (s : ByteArray) (w : World) (h : Bd B b l w) (hlen : l.length + s.size ≤ 140737488355328) (hBw : B ≤ w.heap.size) :
    Calls Tryz.prog 52 #[.pointer (some ⟨b, 0, none⟩), .string s] w fun e w' => e = .returned (.tuple #[.int .i64 s.size, .nilIface]) ∧ (Bd B b (l ++ s.data.toList) w' ∧ Below B w w' ∧ Lib.OthersKept 5 (some b) w w') := by
  obtain ⟨i0, hi, hz0, hz1, hz2⟩ := info_parts bd_extra.infoByte
  go_enter Tryz.func52, Tryz.ntmps52
  go_wp2_with (go_at_call 77; refine (bd_copyCheck B b _ _ h).mono ?_)
  rintro e w1 ⟨rfl, h1, hb1, hk1⟩
  obtain ⟨hB, v, hbk, hown, hne⟩ := h1
  have c0 : w1.cell? ⟨b, 0, none⟩ = some (.pointer (some ⟨b, 0, none⟩)) := by rw [Lib.cell_of_heap hbk]; rfl
  have c1 : w1.cell? ⟨b, 1, none⟩ = some v := by rw [Lib.cell_of_heap hbk]; rfl
  go_wp2_with (at_builtin; refine Lib.wpList_append_own_stringF _ rfl _ _ 91 9 rfl B 5 i0 Tryz.underlying91 Tryz.underlying9 hi hz0 hz1 hz2 _ _ _ rfl hown s rfl ?c3 ?c4 ?c5 ?_)
  case c3 => rw [Lib.byteCells_length]; unfold maxLen; omega
  case c4 => rw [Lib.byteCells_length]; omega
  case c5 => have := hb1.size; omega
  intro v' w2 hown' hgrow _
  have hlt : b < w1.heap.size := by
    rcases Nat.lt_or_ge b w1.heap.size with h' | h'
    · exact h'
    · simp [Array.getElem?_eq_none h'] at hbk
  have hb2 : w2.heap[b]? = some (.cells #[.pointer (some ⟨b, 0, none⟩), v] 93 (0, 0)) := by
    rw [hgrow.block b hlt (fun e => hne e.symm)]
    exact hbk
  have d0 : w2.cell? ⟨b, 0, none⟩ = some (.pointer (some ⟨b, 0, none⟩)) := by rw [Lib.cell_of_heap hb2]; rfl
  have d1 : w2.cell? ⟨b, 1, none⟩ = some v := by rw [Lib.cell_of_heap hb2]; rfl
  have f1 : w2.frozen? ⟨b, 1, none⟩ = false := Lib.frozen_of_heap hb2 1
  obtain ⟨ao, n', cap, rfl⟩ : ∃ ao n' cap, v' = .slice ao n' cap := by
    rcases hown'.2 with ⟨hv, _⟩ | ⟨g, cap, cur, fz, hv, _⟩
    · exact ⟨_, _, _, hv⟩
    · exact ⟨_, _, _, hv⟩
  go_wp2
  go_ret2
  refine ⟨rfl, ?_, ?_, (hk1.grown hgrow (Lib.ownsRowF_kind hown)).setCell ⟨b, 1, none⟩ rfl _⟩
  · refine .inr ?_
    rw [show Lib.byteCells (l ++ s.data.toList) = Lib.byteCells l ++ Lib.strCells s by rw [strCells_bytes]; simp [Lib.byteCells]]
    exact Lib.BuilderAtF.put (T := 93) (e := 5) hB hb2 (bs' := Lib.byteCells l ++ Lib.strCells s) (by simpa [Lib.strCells_length] using hown') bd_extra.neB5
  · exact (hb1.grown hgrow (by have := hb1.size; omega) (fun k hk => (hown.lt k hk).1)).setCell (p := ⟨b, 1, none⟩) hB _

theorem bd_new (w : World) : Bd w.heap.size w.heap.size [] (w.alloc (.cells #[.pointer none, .slice none 0 0] 93)) := Lib.IsBuilderF.of (Lib.fresh_isBuilder _ _ w)
end Go.Proofs.YtdbbjlphlbndkaaGreat.T

namespace Go.Proofs.YtdbbjlphlbndkaaGreat.T
open Go.RowKit Go.Shelf
attribute [local go_sem] Oper.semAt_some
attribute [local simp] wide_round_fn

def pcBytes (ps : List Piece) : List UInt8 := ps.flatMap fun p => p.text.data.toList
def wordBytes (x : Node) : List UInt8 := pcBytes x.lead ++ x.text.data.toList
noncomputable def textL (t : List Node) (ks : List Nat) : List UInt8 := ks.flatMap fun k => wordBytes (leafAt t (nodeY t k))
noncomputable def textOf (t : List Node) : List UInt8 := textL t (List.range (leavesOf t).length)
theorem bytes_size (s : ByteArray) : s.data.toList.length = s.size := by rw [Array.length_toList]; rfl
theorem pcBytes_len (ps : List Piece) : (pcBytes ps).length = leadSum ps := by
  unfold pcBytes leadSum
  induction ps with
  | nil => rfl
  | cons p ps ih => rw [List.flatMap_cons, List.length_append, ih, bytes_size]; simp
theorem pcBytes_take {ps : List Piece} {j : Nat} {p : Piece} (h : ps[j]? = some p) : pcBytes (ps.take (j + 1)) = pcBytes (ps.take j) ++ p.text.data.toList := by
  obtain ⟨hj, e⟩ := List.getElem?_eq_some_iff.1 h
  unfold pcBytes
  rw [List.take_succ_eq_append_getElem hj, e, List.flatMap_append]
  simp
theorem wordBytes_len (x : Node) : (wordBytes x).length = wordLen x := by unfold wordBytes wordLen; rw [List.length_append, pcBytes_len, bytes_size]
theorem textL_snoc (t : List Node) (l : List Nat) (k : Nat) : textL t (l ++ [k]) = textL t l ++ wordBytes (leafAt t (nodeY t k)) := by unfold textL; rw [List.flatMap_append]; simp
theorem textL_len (t : List Node) (l : List Nat) (h : ∀ k ∈ l, nodeY t k < t.length) : (textL t l).length ≤ l.length * bulkT t := by
  unfold textL
  induction l with
  | nil => simp
  | cons k l ih =>
    rw [List.flatMap_cons, List.length_append, wordBytes_len, List.length_cons, Nat.add_mul]
    have h1 := ih (fun j hj => h j (by simp [hj]))
    have h2 := bulk_at (List.getElem?_eq_getElem (h k (by simp)))
    have h3 := wordLen_bulk (t[nodeY t k]'(h k (by simp)))
    rw [leafAt_of (List.getElem?_eq_getElem (h k (by simp)))]
    omega

theorem Bd.keep {B b : Nat} {l : List UInt8} {w w' : World} (h : Bd B b l w) (hk : ∀ (k : Nat) (o : Obj), w.heap[k]? = some o → o.isCells = true → w'.heap[k]? = some o) : Bd B b l w' := by
  have go : ∀ p, Lib.BuilderAtF 93 5 B b p (Lib.byteCells l) w → Lib.BuilderAtF 93 5 B b p (Lib.byteCells l) w' := by
    rintro p ⟨h1, v, h2, ⟨h3, h4⟩, h5⟩
    refine ⟨h1, v, hk _ _ h2 rfl, ⟨h3, ?_⟩, h5⟩
    rcases h4 with h4 | ⟨g, cap, cur, fz, e1, e2, e3, e4⟩
    · exact .inl h4
    · exact .inr ⟨g, cap, cur, fz, e1, e2, hk _ _ e3 rfl, e4⟩
  exact h.imp (go _) (go _)
theorem Bd.calm {B b B' : Nat} {l : List UInt8} {w w' : World} (h : Bd B b l w) (hc : Calm B' w w') : Bd B b l w' := h.keep fun k o h1 h2 => hc.block k o h1 (.inr h2)
theorem Bd.later {B b : Nat} {l : List UInt8} {w w' : World} (h : Bd B b l w) (hb : Below w.heap.size w w') : Bd B b l w' := h.keep fun k _ h1 _ => (hb.block k (Array.getElem?_eq_some_iff.1 h1).1).trans h1
theorem Bd.typed {B b : Nat} {l : List UInt8} {w : World} (h : Bd B b l w) : ∃ cs, Holds w b 93 cs := by
  rcases h with ⟨_, v, h2, _⟩ | ⟨_, v, h2, _⟩
  · exact ⟨_, h2⟩
  · exact ⟨_, h2⟩

/-- What a round that writes into the builder keeps. -/
structure TxS (w : World) (T : Nat → Prop) (W2 wi : World) : Prop where
  ko : KeepsOthers W2 wi
  kt : KeepsT T 3 W2 wi
  below : Below w.heap.size w wi
  sz : W2.heap.size ≤ wi.heap.size
theorem TxS.refl {w W : World} {T : Nat → Prop} (hb : Below w.heap.size w W) : TxS w T W W := ⟨KeepsOthers.refl _, KeepsT.refl _, hb, Nat.le_refl _⟩
theorem TxS.alloc {w W2 wi : World} {T : Nat → Prop} (h : TxS w T W2 wi) (hT : ∀ k, T k → k < W2.heap.size) (o : Obj) : TxS w T W2 (wi.alloc o) :=
  ⟨h.ko.trans (KeepsOthers.alloc _ _), h.kt.trans (KeepsT.below (B := wi.heap.size) (fun k hk => Nat.lt_of_lt_of_le (hT k hk) h.sz) (Nat.le_refl _) ((Below.refl _ _).alloc (Nat.le_refl _) _)), h.below.alloc h.below.size _, Nat.le_trans h.sz (by simp)⟩
theorem TxS.write {w W2 wi wi' : World} {T : Nat → Prop} {l : List UInt8} (h : TxS w T W2 wi) (hB : Bd w.heap.size w.heap.size l wi) (hb : Below w.heap.size wi wi') (hk : Lib.OthersKept 5 (some w.heap.size) wi wi')
    (hT : ∀ k, T k → k < w.heap.size ∨ (k ≠ w.heap.size ∧ ∃ cs, Holds wi k 27 cs)) : TxS w T W2 wi' := by
  obtain ⟨cs0, h0⟩ := hB.typed
  refine ⟨h.ko.trans ⟨hb.size, fun k o ho hc => hk k o ho (fun e => ?_) (fun c fz e => by subst e; cases hc)⟩, h.kt.trans ⟨⟨hb.size, fun k hTk hlt => ?_⟩, fun k cs hc => ?_⟩, h.below.trans hb, Nat.le_trans h.sz hb.size⟩
  · cases e
    rw [h0] at ho; cases ho; cases hc
  · rcases hT k hTk with h1 | ⟨h1, cs, h2⟩
    · exact hb.block k h1
    · rw [show wi.heap[k]? = _ from h2]
      exact hk k _ h2 (fun e => h1 (Option.some.inj e)) (fun c fz e => by cases e)
  · refine hk k _ hc (fun e => ?_) (fun c fz e => by cases e)
    cases e
    rw [h0] at hc; cases hc
theorem _root_.Go.Proofs.YtdbbjlphlbndkaaGreat.Holds.written {w wi wi' : World} {g : Nat} {ty : TypeId} {cs : Array Value} (h : Holds wi g ty cs) (hk : Lib.OthersKept 5 (some w.heap.size) wi wi') (hg : g ≠ w.heap.size) (ht : ty ≠ 5) : Holds wi' g ty cs :=
  hk g _ h (fun e => hg (Option.some.inj e)) (fun c fz e => by cases e; exact ht rfl)

theorem wd_lead {w : World} {T : Nat → Prop} {t : List Node} (x : Wd w T t) : Pcs w T (.slice x.1.2.1 (leafAt t (nodeY t x.1.1)).lead.length x.1.2.2) (leafAt t (nodeY t x.1.1)).lead := by
  obtain ⟨⟨k, A, c⟩, i, hi, hit, hp⟩ := x
  have h1 : nodeY t k = i := by unfold nodeY; rw [hi]; rfl
  dsimp only
  rw [h1]
  exact hp
def TxT (w : World) : Nat → Prop := fun k => k < w.heap.size ∨ k = w.heap.size + 1
def TxI (w : World) (v : Value) {w1 : World} {T : Nat → Prop} {t : List Node} (pre : List (Wd w1 T t)) (W : World) : Prop :=
  Bd w.heap.size w.heap.size (textL t (pre.map (·.1.1))) W ∧ Holds W (w.heap.size + 1) 27 #[v] ∧ Keeps T w1 W ∧ Below w.heap.size w W
def TxX {w1 : World} {T : Nat → Prop} {t : List Node} (_ : Code) (_ : List (Wd w1 T t)) (_ : World) : Prop := False

set_option maxRecDepth 100000 in
set_option maxHeartbeats 8000000 in
theorem yield_text (v : Value) (t : List Node) (w : World) (h4 : bulkT t ≤ 1048576) (hN : Nds w (Old w) v t) :
    Calls Tryz.prog 28 #[v] w fun r w' => r = .returned (.string ⟨(textOf t).toArray⟩) ∧ Below w.heap.size w w' := by
  have HN := hidden hN
  have h5 := bulk_len t
  obtain ⟨A, c, rfl, hc1, hc2⟩ := hN.value
  unfold maxLen at hc2
  clear hN
  (refine (callsIn_wide (n := 5)).1 ?_; refine callsIn_of_wp_marks Tryz.func28 rfl trivial ?_ rfl; simp only [Tryz.ntmps28, List.size_toArray, List.length_cons, List.length_nil, Nat.reduceAdd, Nat.reduceSub, Array.replicate_succ, Array.replicate_zero, List.push_toArray, List.append_toArray, List.nil_append, List.cons_append])
  gi_wp2_with (refine ⟨trivial, ?_⟩; gi_at_call 51; refine (callsIn_wide.2 (yield_words _ _ _ _ rfl _)).mono ?_; rintro e w' ⟨rfl, rfl⟩)
  refine range_lawK (by omega) rfl (enters_of Tryz.func75 (by kernel_rfl) rfl)
    (ywords1_stops 4 (by omega) (w.heap.size + 1) _ (TxT w) (by intro k hk; unfold TxT at hk; simp; omega) t (.slice A t.length c) (by omega) ((HN.out.alloc _).alloc _ |>.mono (fun k hk => .inl hk)) (.inr rfl) (by go_simp))
    KeepsT.trans (fun W l o o' hl ho hc _ => KeepsT.loop (by intro k hk; unfold TxT at hk; simp at hl; omega) ho hc) (Below.refl _ _) (fun _ => rfl)
    (TxI w (.slice A t.length c)) TxX ?i0 ?ix ?start ?round ?done ?stop
  case i0 =>
    rintro pre W W' ⟨h0, h1, h2, hb⟩ hc
    exact ⟨h0.calm hc, hc.holds h1, h2.trans ⟨hc.size, fun k hk hl => by
      have hb1 := hc.below (B' := w.heap.size + 1 + 1) (by simp) (by have := h1.lt; omega)
      exact hb1.block k (by unfold TxT at hk; omega)⟩, hb.trans (hc.below (by simp; omega) hb.size)⟩
  case ix => exact fun c pre W W' h => h.elim
  case start => exact ⟨(bd_new w).later (by repeat (first | (with_reducible exact Below.refl _ _) | (with_reducible assumption) | (with_reducible refine Below.drew ?_) | (with_reducible refine below_drewN ?_ _) | ((with_reducible refine below_alloc ?_ ?_); (focus (first | omega | (simp; done) | (simp; omega)))) | ((with_reducible refine below_set ?_ ?_); (focus (first | omega | (simp; done) | (simp; omega)))))), (by repeat (first | (with_reducible assumption) | ((with_reducible refine holds_new ?_); (focus (first | rfl | (simp; done)))) | (with_reducible refine Holds.alloc ?_ _) | (with_reducible refine Holds.drew ?_))), Keeps.refl _ _, (by repeat (first | (with_reducible exact Below.refl _ _) | (with_reducible assumption) | (with_reducible refine Below.drew ?_) | (with_reducible refine below_drewN ?_ _) | ((with_reducible refine below_alloc ?_ ?_); (focus (first | omega | (simp; done) | (simp; omega)))) | ((with_reducible refine below_set ?_ ?_); (focus (first | omega | (simp; done) | (simp; omega))))))⟩
  case round =>
    rintro l pre x W ⟨h0, h1, h2, hb⟩
    obtain ⟨f1, f2, f3, f4, f5⟩ := wd_facts x
    have hz := h1.lt
    dsimp only [encY, valY]
    gi_wp2
    refine ⟨KeepsOthers.alloc _ _, KeepsT.below (B := W.heap.size) (by intro k hk; unfold TxT at hk; omega) (Nat.le_refl _) (by repeat (first | (with_reducible exact Below.refl _ _) | (with_reducible assumption) | (with_reducible refine Below.drew ?_) | (with_reducible refine below_drewN ?_ _) | ((with_reducible refine below_alloc ?_ ?_); (focus (first | omega | (simp; done) | (simp; omega)))) | ((with_reducible refine below_set ?_ ?_); (focus (first | omega | (simp; done) | (simp; omega)))))), ⟨h0.later (by repeat (first | (with_reducible exact Below.refl _ _) | (with_reducible assumption) | (with_reducible refine Below.drew ?_) | (with_reducible refine below_drewN ?_ _) | ((with_reducible refine below_alloc ?_ ?_); (focus (first | omega | (simp; done) | (simp; omega)))) | ((with_reducible refine below_set ?_ ?_); (focus (first | omega | (simp; done) | (simp; omega)))))), h1.alloc _, h2.alloc _, (by repeat (first | (with_reducible exact Below.refl _ _) | (with_reducible assumption) | (with_reducible refine Below.drew ?_) | (with_reducible refine below_drewN ?_ _) | ((with_reducible refine below_alloc ?_ ?_); (focus (first | omega | (simp; done) | (simp; omega)))) | ((with_reducible refine below_set ?_ ?_); (focus (first | omega | (simp; done) | (simp; omega))))))⟩, ?_⟩
    rintro W2 l2 pre2 hc2 ⟨m0, m1, m2, mb⟩ hlen2 hl2 hr2
    have m5 := hc2.holds (Holds.new W _ _)
    have hzB := hc2.size
    simp at hzB
    clear h0 h1 h2 hb hc2 hl2 hr2
    have HPc := hidden ((wd_lead x).keeps m2)
    have HT2 := hidden (textL_snoc t (pre2.map (·.1.1)) x.1.1)
    have hlen := textL_len t (pre2.map (·.1.1)) (by
      intro k hk
      obtain ⟨y, _, rfl⟩ := List.mem_map.1 hk
      exact (wd_facts y).2.1)
    rw [List.length_map] at hlen
    have hll : (leavesOf t).length ≤ t.length := leavesTo_len t t.length
    have hmul : pre2.length * bulkT t ≤ 1048576 * 1048576 := Nat.mul_le_mul (by omega) h4
    have hnl := bulk_at (List.getElem?_eq_getElem f2)
    have hnw := wordLen_bulk t[nodeY t x.1.1]
    have hnx := leafAt_of (List.getElem?_eq_getElem f2)
    have HFin : Hid (∀ wi, TxS w (TxT w) W2 wi → Bd w.heap.size w.heap.size (textL t (pre2.map (·.1.1)) ++ wordBytes (leafAt t (nodeY t x.1.1))) wi → Holds wi (w.heap.size + 1) 27 #[.slice A t.length c] →
        roundEndK (KeepsT (TxT w) 3) (TxI w (.slice A t.length c)) TxX (pre2 ++ [x]) W2 .normal { tmps := #[], defers := [] } wi) := hidden (fun wi hs hbd hv => by
      refine ⟨hs.ko, hs.kt, ?_, hv, m2.trans hs.kt.keeps, hs.below⟩
      rw [List.map_append, List.map_cons, List.map_nil, HT2.out]
      exact hbd)
    rw [← hnx] at hnl hnw
    generalize leafAt t (nodeY t x.1.1) = nx at *
    generalize textL t (pre2.map (·.1.1)) = L0 at *
    generalize nodeY t x.1.1 = nd at *
    generalize fromY t (leavesOf t) x.1.1 = f0 at *
    generalize ownY t x.1.1 = ow at *
    have HXI : Hid (∃ y, y = x) := hidden ⟨x, rfl⟩
    generalize x.1.2.1 = xA at *
    generalize x.1.2.2 = xc at *
    unfold wordLen at hnw
    have HS := hidden (TxS.refl (T := TxT w) mb)
    have HBd := hidden m0
    have HB0 : Hid (Below w.heap.size w W2) := hidden mb
    have hbz := mb.size
    have hls := fun j => leadSum_le nx.lead j
    have HLs := hidden hls
    clear hnx m0 m2 mb hls f1 f3 f4 f5
    obtain ⟨A3, c3, hvv, d1, d2⟩ := HPc.out.value
    simp only [Value.slice.injEq] at hvv
    obtain ⟨rfl, _, rfl⟩ := hvv
    unfold maxLen at d2
    have z3 : W2.cell? ⟨W.heap.size, 3, none⟩ = some (.slice xA nx.lead.length xc) := m5.cell 3
    gi_wp2
    clear z3
    gi_loopw [13] (fun jj wi => ∃ j : Nat, jj = .int .i64 j ∧ j ≤ nx.lead.length ∧ Hid (Bd w.heap.size w.heap.size (L0 ++ pcBytes (nx.lead.take j)) wi) ∧ Hid (TxS w (TxT w) W2 wi) ∧ Holds wi (w.heap.size + 1) 27 #[.slice A t.length c] ∧ Holds wi W.heap.size 100 #[.int .i64 (nd : Int), .int .i64 (f0 : Int), .int .i64 (ow : Int), .slice xA nx.lead.length xc, .int .i64 nx.n, .string nx.text])
      (fun jj _ => nx.lead.length - (intOf jj).toNat)
    case atStart => exact ⟨0, rfl, by omega, hidden (by simpa [pcBytes] using HBd.out), HS, m1, m5⟩
    case round =>
      clear HBd HS m1 m5
      obtain ⟨j, rfl, hj, HBd, HS, m1, m5⟩ := hrel
      have g1 := HS.out.sz
      by_cases hjl : j < nx.lead.length
      · have hp := List.getElem?_eq_getElem hjl
        have HP := HPc.out.keeps HS.out.kt.keeps
        obtain ⟨b3, o3, c3', hv, _, _, hT3, hat3⟩ := HP.open_ (by intro e; rw [e] at hjl; simp at hjl)
        simp only [Value.slice.injEq] at hv
        obtain ⟨rfl, _, rfl⟩ := hv
        obtain ⟨p0, p1⟩ := hat3 j _ hp
        have HTk := hidden (pcBytes_take hp)
        have hpl := pcBytes_len (nx.lead.take (j + 1))
        have hst := leadSum_take hp
        have hsl := HLs.out (j + 1)
        have hsz : (pcBytes (nx.lead.take j)).length = leadSum (nx.lead.take j) := pcBytes_len _
        generalize nx.lead[j] = p at *
        have hle : (L0 ++ pcBytes (nx.lead.take j)).length + p.text.size ≤ 140737488355328 := by
          rw [List.length_append, hsz]; omega
        have HLe := hidden hle
        clear hp hat3 HP hpl hst hsl hsz hle
        gi_wp2_with fail
        have g2 : w.heap.size ≤ (wr.alloc (.cells #[.int .i64 p.tok, .string p.text] 102)).heap.size := by simp; omega
        have HBa := hidden (Bd.later HBd.out (w' := wr.alloc (.cells #[.int .i64 p.tok, .string p.text] 102)) ((Below.refl _ _).alloc (Nat.le_refl _) _))
        have HSa := hidden (HS.out.alloc (fun k hk => by unfold TxT at hk; omega) (.cells #[.int .i64 p.tok, .string p.text] 102))
        have n1 := m1.alloc (.cells #[.int .i64 p.tok, .string p.text] 102)
        have n5 := m5.alloc (.cells #[.int .i64 p.tok, .string p.text] 102)
        refine CallsIn.mono (F := Fence.wide.inRound l2) (callsIn_wide.2 (bd_write w.heap.size w.heap.size _ p.text _ HBa.out HLe.out g2)) ?_
        rintro e w4 ⟨rfl, hB4, hb4, hk4⟩
        have HB4 : Hid (Bd w.heap.size w.heap.size (L0 ++ pcBytes (nx.lead.take (j + 1))) w4) := hidden (by rw [HTk.out, ← List.append_assoc]; exact hB4)
        have HS4 := hidden (HSa.out.write HBa.out hb4 hk4 (fun k hk => by
          unfold TxT at hk
          rcases hk with hk | rfl
          · exact .inl hk
          · exact .inr ⟨by omega, _, n1⟩))
        have q1 := n1.written hk4 (by omega) (by decide)
        have q5 := n5.written hk4 (by omega) (by decide)
        clear m1 m5 n1 n5 hB4 hb4 hk4 HBa HSa g2
        gi_wp2
        go_roundw
        case rel => exact ⟨j + 1, by go_num, by omega, HB4, HS4, q1, q5⟩
        case measure => simp [intOf]; omega
      · obtain rfl : j = nx.lead.length := by omega
        rw [List.take_length] at *
        have z5 : wr.cell? ⟨W.heap.size, 5, none⟩ = some (.string nx.text) := m5.cell 5
        have hle : (L0 ++ pcBytes nx.lead).length + nx.text.size ≤ 140737488355328 := by
          rw [List.length_append, pcBytes_len]; omega
        have HLe := hidden hle
        clear hle
        have g2 : w.heap.size ≤ wr.heap.size := by omega
        gi_wp2_with fail
        refine CallsIn.mono (F := Fence.wide.inRound l2) (callsIn_wide.2 (bd_write w.heap.size w.heap.size _ nx.text _ HBd.out HLe.out g2)) ?_
        rintro e w4 ⟨rfl, hB4, hb4, hk4⟩
        have HS4 := hidden (HS.out.write HBd.out hb4 hk4 (fun k hk => by
          unfold TxT at hk
          rcases hk with hk | rfl
          · exact .inl hk
          · exact .inr ⟨by omega, _, m1⟩))
        have q1 := m1.written hk4 (by omega) (by decide)
        have HB4 : Hid (Bd w.heap.size w.heap.size (L0 ++ wordBytes nx) w4) := hidden (by unfold wordBytes; rw [← List.append_assoc]; exact hB4)
        clear m1 m5 z5 hB4 hb4 hk4
        gi_wp2
        exact HFin.out _ HS4.out HB4.out q1
  case done =>
    rintro D xs W hD hS ⟨h0, h1, h2, hb⟩ hK
    rw [hS] at h0
    have HE : Hid (textL t (List.range (leavesOf t).length) = textOf t) := hidden rfl
    rw [HE.out] at h0
    have HB := hidden (bd_string w.heap.size w.heap.size _ W h0 hb.size)
    clear h0 h2
    gi_wp2_with fail
    refine ⟨trivial, (callsIn_wide.2 HB.out).mono ?_⟩
    rintro e w4 ⟨rfl, hb4, hk4⟩
    have hK4 : w4.heap[D]? = some (.deferred (some [])) := hk4 D _ hK (fun e => by simp at hD; have := Option.some.inj e; omega) (fun c fz e => by cases e)
    clear hk4
    gi_wp2
    refine leaves_marks (B := w.heap.size) [D] _ ⟨by simp, ?_⟩ ?_
    · intro D' hD'
      simp at hD'
      subst hD'
      simp at hD
      exact ⟨by omega, hK4⟩
    · intro W' hc
      refine ⟨.string ⟨(textOf t).toArray⟩, ?_, rfl, (hb.trans hb4).trans (hc.below (Nat.le_refl _) (hb.trans hb4).size)⟩
      simp [results, Tryz.f28, go_sem]
  case stop => exact fun D c pre W hD hS hX hK => hX.elim
end Go.Proofs.YtdbbjlphlbndkaaGreat.T
