/-
  The words of a tree: where each one's bytes begin and end. Plain. The iterator over the words of a tree (yield.words): what it hands to yield. yield.Find. yield.Span. strings.Builder at this program: what is written, and read. yield.Text. Slices that read as records of which one cell is a slice of flat elements; words. The document's words, their bytes and texts: facsimileref28. The document's text of a tree, and the node of a byte.
-/
import Derived.Test.YtbjheaiiajpifaaB1
import Derived.Test.YtbjheaiiajpifaaT6
import Derived.Test.YtbjheaiiajpifaaT2
import Derived.Test.YtbjheaiiajpifaaT1
import Derived.Sort.BigQuietIn
import Derived.Test.YtbjheaiiajpifaaT5
import Derived.Shelf.Strings.BuilderK
import Derived.Test.YtbjheaiiajpifaaT3
namespace Go.Proofs.Ytbjheaiiajpifaa.T
open Go.RowKit Go.Shelf

def leafAt (t : List Node) (i : Nat) : Node := (t[i]?).getD ⟨0, 0, 0, [], ⟨#[]⟩⟩
def leadSum (ps : List Piece) : Nat := (ps.map fun p => p.text.size).sum
def wordLen (x : Node) : Nat := leadSum x.lead + x.text.size
/-- Where the k-th word's bytes begin. -/
def fromY (t : List Node) (L : List Nat) (k : Nat) : Nat := ((L.take k).map fun i => wordLen (leafAt t i)).sum
theorem fromY_zero (t : List Node) (L : List Nat) : fromY t L 0 = 0 := rfl
theorem fromY_succ {t : List Node} {L : List Nat} {k i : Nat} (h : L[k]? = some i) : fromY t L (k + 1) = fromY t L k + wordLen (leafAt t i) := by
  obtain ⟨hk, e⟩ := List.getElem?_eq_some_iff.1 h
  unfold fromY
  rw [List.take_succ_eq_append_getElem hk, e, List.map_append, List.sum_append]
  simp
theorem leafAt_of {t : List Node} {i : Nat} {x : Node} (h : t[i]? = some x) : leafAt t i = x := by unfold leafAt; rw [h]; rfl
theorem leadSum_take {ps : List Piece} {j : Nat} {p : Piece} (h : ps[j]? = some p) : leadSum (ps.take (j + 1)) = leadSum (ps.take j) + p.text.size := by
  obtain ⟨hj, e⟩ := List.getElem?_eq_some_iff.1 h
  unfold leadSum
  rw [List.take_succ_eq_append_getElem hj, e, List.map_append, List.sum_append]
  simp
theorem leadSum_bulk (ps : List Piece) : leadSum ps + ps.length ≤ bulkP ps := by
  unfold leadSum bulkP
  induction ps with
  | nil => simp
  | cons p ps ih => simp only [List.map_cons, List.sum_cons, List.length_cons]; omega
theorem leadSum_le (ps : List Piece) (j : Nat) : leadSum (ps.take j) ≤ leadSum ps := by
  unfold leadSum
  conv => rhs; rw [← List.take_append_drop j ps]
  rw [List.map_append, List.sum_append]
  omega
theorem wordLen_bulk (x : Node) : wordLen x + x.lead.length ≤ bulkN x := by
  have := leadSum_bulk x.lead
  unfold wordLen bulkN
  omega
theorem sum_filter_le (f : Nat → Nat) (p : Nat → Bool) (l : List Nat) : ((l.filter p).map f).sum ≤ (l.map f).sum := by
  induction l with
  | nil => simp
  | cons x l ih =>
    rw [List.filter_cons]
    split
    · simp only [List.map_cons, List.sum_cons]; omega
    · simp only [List.map_cons, List.sum_cons]; omega
theorem sum_all (t : List Node) (f : Node → Nat) : ((List.range t.length).map fun i => f (leafAt t i)).sum = (t.map f).sum := by
  congr 1
  apply List.ext_getElem?
  intro i
  rw [List.getElem?_map, List.getElem?_map]
  by_cases hi : i < t.length
  · rw [List.getElem?_range hi, List.getElem?_eq_getElem hi, Option.map_some, Option.map_some, leafAt_of (List.getElem?_eq_getElem hi)]
  · rw [List.getElem?_eq_none (by simp; omega), List.getElem?_eq_none (by omega)]; rfl
theorem wordLen_all (t : List Node) : (t.map wordLen).sum ≤ bulkT t := by
  unfold bulkT
  induction t with
  | nil => simp
  | cons x t ih =>
    simp only [List.map_cons, List.sum_cons]
    have := wordLen_bulk x
    omega
theorem mem_sum {l : List Nat} {x : Nat} (h : x ∈ l) : x ≤ l.sum := by
  induction l with
  | nil => cases h
  | cons y l ih =>
    rw [List.sum_cons]
    rcases List.mem_cons.1 h with rfl | h
    · omega
    · have := ih h; omega
theorem fromY_all (t : List Node) : fromY t (leavesOf t) (leavesOf t).length ≤ bulkT t := by
  unfold fromY
  rw [List.take_length]
  unfold leavesOf leavesTo
  split
  · unfold texts
    refine Nat.le_trans (sum_filter_le _ _ _) ?_
    rw [sum_all t wordLen]
    exact wordLen_all t
  · simp
theorem fromY_mono (t : List Node) (L : List Nat) {j k : Nat} (h : j ≤ k) : fromY t L j ≤ fromY t L k := by
  induction k with
  | zero => rw [show j = 0 by omega]; exact Nat.le_refl _
  | succ k ih =>
    by_cases hj : j = k + 1
    · rw [hj]; exact Nat.le_refl _
    · refine Nat.le_trans (ih (by omega)) ?_
      cases hk : L[k]? with
      | some i => rw [fromY_succ hk]; omega
      | none =>
        have := List.getElem?_eq_none_iff.1 hk
        unfold fromY
        rw [List.take_of_length_le (by omega), List.take_of_length_le (by omega)]
        exact Nat.le_refl _
theorem fromY_le (t : List Node) {k : Nat} (h : k ≤ (leavesOf t).length) : fromY t (leavesOf t) k ≤ bulkT t := Nat.le_trans (fromY_mono t _ h) (fromY_all t)
theorem bulk_len (t : List Node) : t.length ≤ bulkT t := by
  unfold bulkT
  induction t with
  | nil => simp
  | cons x t ih => simp only [List.map_cons, List.sum_cons, List.length_cons]; unfold bulkN at *; omega
theorem bulk_at {t : List Node} {i : Nat} {x : Node} (h : t[i]? = some x) : bulkN x ≤ bulkT t := by
  unfold bulkT
  exact mem_sum (List.mem_map.2 ⟨x, List.mem_of_getElem? h, rfl⟩)
end Go.Proofs.Ytbjheaiiajpifaa.T

namespace Go.Proofs.Ytbjheaiiajpifaa.T
open Go.RowKit Go.Shelf
attribute [local go_sem] Oper.semAt_some

/-- A word: the number of its leaf among the leaves, and where its lead lies. -/
abbrev Wd (w : World) (T : Nat → Prop) (t : List Node) := { x : Nat × Option Addr × Nat // ∃ i, (leavesOf t)[x.1]? = some i ∧ i < t.length ∧ Pcs w T (.slice x.2.1 (leafAt t i).lead.length x.2.2) (leafAt t i).lead }
noncomputable def nodeY (t : List Node) (k : Nat) : Nat := ((leavesOf t)[k]?).getD 0
noncomputable def ownY (t : List Node) (k : Nat) : Nat := fromY t (leavesOf t) k + leadSum (leafAt t (nodeY t k)).lead
noncomputable abbrev valY {w : World} {T : Nat → Prop} {t : List Node} (x : Wd w T t) : Value := .agg #[.int .i64 (nodeY t x.1.1 : Int), .int .i64 (fromY t (leavesOf t) x.1.1 : Int), .int .i64 (ownY t x.1.1 : Int), .slice x.1.2.1 (leafAt t (nodeY t x.1.1)).lead.length x.1.2.2, .int .i64 (leafAt t (nodeY t x.1.1)).n, .string (leafAt t (nodeY t x.1.1)).text]
noncomputable abbrev encY {w : World} {T : Nat → Prop} {t : List Node} (x : Wd w T t) : Array Value := #[valY x]

theorem range_prefix {m n : Nat} (h : m ≤ n) : List.range m <+: List.range n := ⟨(List.range (n - m)).map (m + ·), by rw [← List.range_add]; congr 1; omega⟩
theorem encY_of {w : World} {T : Nat → Prop} {t : List Node} {k i : Nat} {x : Node} {A : Option Addr} {c : Nat} (h : ∃ i, (leavesOf t)[k]? = some i ∧ i < t.length ∧ Pcs w T (.slice A (leafAt t i).lead.length c) (leafAt t i).lead) (hi : (leavesOf t)[k]? = some i) (hx : leafAt t i = x) :
    encY (⟨(k, A, c), h⟩ : Wd w T t) = #[.agg #[.int .i64 (i : Int), .int .i64 (fromY t (leavesOf t) k : Int), .int .i64 ((fromY t (leavesOf t) k : Int) + (leadSum x.lead : Int)), .slice A x.lead.length c, .int .i64 x.n, .string x.text]] := by
  have h1 : nodeY t k = i := by unfold nodeY; rw [hi]; rfl
  unfold encY valY ownY
  dsimp only
  rw [h1, hx, Int.natCast_add]

end Go.Proofs.Ytbjheaiiajpifaa.T

namespace Go.Proofs.Ytbjheaiiajpifaa.T
open Go.RowKit Go.Shelf
attribute [local go_sem] Oper.semAt_some
attribute [local simp] wide_round_fn

def hitY (t : List Node) (at_ : Int) (k : Nat) : Prop := (fromY t (leavesOf t) k : Int) ≤ at_ ∧ at_ < (fromY t (leavesOf t) (k + 1) : Int)
noncomputable instance (t : List Node) (at_ : Int) (k : Nat) : Decidable (hitY t at_ k) := by unfold hitY; exact inferInstance
noncomputable def findY (t : List Node) (at_ : Int) : List Nat → Int
  | [] => -1
  | k :: r => if hitY t at_ k then (nodeY t k : Int) else findY t at_ r
noncomputable def findOf (t : List Node) (at_ : Int) : Int := findY t at_ (List.range (leavesOf t).length)
theorem findY_miss {t : List Node} {at_ : Int} : ∀ l : List Nat, (∀ k ∈ l, ¬ hitY t at_ k) → findY t at_ l = -1 := by
  intro l
  induction l with
  | nil => intro _; rfl
  | cons x l ih => intro h; unfold findY; rw [if_neg (h x (by simp))]; exact ih (fun k hk => h k (by simp [hk]))
theorem findY_hit {t : List Node} {at_ : Int} {x : Nat} (hx : hitY t at_ x) : ∀ l r : List Nat, (∀ k ∈ l, ¬ hitY t at_ k) → findY t at_ (l ++ x :: r) = (nodeY t x : Int) := by
  intro l r
  induction l with
  | nil => intro _; unfold findY; rw [List.nil_append]; exact if_pos hx
  | cons y l ih => intro h; rw [List.cons_append]; unfold findY; rw [if_neg (h y (by simp))]; exact ih (fun k hk => h k (by simp [hk]))

theorem wd_facts {w : World} {T : Nat → Prop} {t : List Node} (x : Wd w T t) : x.1.1 < (leavesOf t).length ∧ nodeY t x.1.1 < t.length ∧ ((ownY t x.1.1 : Nat) : Int) + (leafAt t (nodeY t x.1.1)).text.size = (fromY t (leavesOf t) (x.1.1 + 1) : Nat) ∧ fromY t (leavesOf t) (x.1.1 + 1) ≤ bulkT t ∧ fromY t (leavesOf t) x.1.1 ≤ ownY t x.1.1 := by
  obtain ⟨⟨k, A, c⟩, i, hi, hit, hp⟩ := x
  have hk := (List.getElem?_eq_some_iff.1 hi).1
  have h1 : nodeY t k = i := by unfold nodeY; rw [hi]; rfl
  have h2 := fromY_succ (t := t) hi
  have h3 := fromY_le t (k := k + 1) (by omega)
  unfold ownY
  dsimp only at *
  rw [h1]
  unfold wordLen at h2
  exact ⟨hk, hit, by rw [h2]; omega, h3, by omega⟩

def FdI (w : World) {w1 : World} {T : Nat → Prop} {t : List Node} (at_ : Int) (pre : List (Wd w1 T t)) (W : World) : Prop :=
  Holds W w.heap.size 3 #[.int .i64 at_] ∧ Holds W (w.heap.size + 1) 3 #[.int .i64 0] ∧ (∀ k ∈ pre.map (·.1.1), ¬ hitY t at_ k) ∧ Below w.heap.size w W ∧ w.heap.size + 1 + 1 < W.heap.size
def FdX (w : World) {w1 : World} {T : Nat → Prop} {t : List Node} (at_ : Int) (c : Code) (pre : List (Wd w1 T t)) (W : World) : Prop :=
  c = .ret ∧ ∃ pre' x, pre = pre' ++ [x] ∧ (∀ k ∈ pre'.map (·.1.1), ¬ hitY t at_ k) ∧ hitY t at_ x.1.1 ∧ Holds W (w.heap.size + 1) 3 #[.int .i64 (nodeY t x.1.1 : Int)] ∧ Below w.heap.size w W

end Go.Proofs.Ytbjheaiiajpifaa.T

namespace Go.Proofs.Ytbjheaiiajpifaa.T
open Go.RowKit Go.Shelf
attribute [local go_sem] Oper.semAt_some
attribute [local simp] wide_round_fn

/-- A word more: where the part is, so far. -/
noncomputable def stepP (t : List Node) (i z : Nat) (s : Nat × Nat × Bool) (k : Nat) : Nat × Nat × Bool :=
  if i + z ≤ nodeY t k then s else if nodeY t k < i then (fromY t (leavesOf t) (k + 1), fromY t (leavesOf t) (k + 1), s.2.2)
  else (if s.2.2 then s.1 else ownY t k, fromY t (leavesOf t) (k + 1), true)
noncomputable def spanP (t : List Node) (i z : Nat) (l : List Nat) : Nat × Nat × Bool := l.foldl (stepP t i z) (0, 0, false)
theorem spanP_snoc (t : List Node) (i z : Nat) (l : List Nat) (k : Nat) : spanP t i z (l ++ [k]) = stepP t i z (spanP t i z l) k := by unfold spanP; rw [List.foldl_append]; rfl
theorem nodeY_of {t : List Node} {k i : Nat} (h : (leavesOf t)[k]? = some i) : nodeY t k = i := by unfold nodeY; rw [h]; rfl
theorem texts_rise (t : List Node) (n : Nat) : (texts t n).Pairwise (· < ·) := List.Pairwise.sublist List.filter_sublist List.pairwise_lt_range
theorem leavesOf_rise (t : List Node) : (leavesOf t).Pairwise (· < ·) := by
  unfold leavesOf leavesTo
  split
  · exact texts_rise t _
  · exact List.Pairwise.nil
theorem nodeY_mono {t : List Node} {j k : Nat} (h : j < k) (hk : k < (leavesOf t).length) : nodeY t j < nodeY t k := by
  have hj : j < (leavesOf t).length := by omega
  rw [nodeY_of (List.getElem?_eq_getElem hj), nodeY_of (List.getElem?_eq_getElem hk)]
  exact List.pairwise_iff_getElem.1 (leavesOf_rise t) j k hj hk h
theorem spanP_idle {t : List Node} {i z : Nat} : ∀ (l : List Nat) (s : Nat × Nat × Bool), (∀ k ∈ l, i + z ≤ nodeY t k) → l.foldl (stepP t i z) s = s := by
  intro l
  induction l with
  | nil => intro s _; rfl
  | cons x l ih =>
    intro s h
    rw [List.foldl_cons]
    have : stepP t i z s x = s := by unfold stepP; rw [if_pos (h x (by simp))]
    rw [this]
    exact ih s (fun k hk => h k (by simp [hk]))
/-- Where the walk may stop, it has all. -/
theorem spanP_stop {t : List Node} {i z : Nat} {pre : List Nat} {x : Nat} (h : (pre ++ [x]) <+: List.range (leavesOf t).length) (hx : i + z ≤ nodeY t x) : spanP t i z (List.range (leavesOf t).length) = spanP t i z pre := by
  obtain ⟨r, hr⟩ := h
  have hpos : pre.length < (leavesOf t).length := by
    have := congrArg List.length hr
    simp at this; omega
  have hat : ∀ j y, (pre ++ [x] ++ r)[j]? = some y → y = j ∧ j < (leavesOf t).length := fun j y hj => by
    rw [hr] at hj
    obtain ⟨h1, h2⟩ := List.getElem?_eq_some_iff.1 hj
    simp at h1 h2
    exact ⟨h2.symm, h1⟩
  have hxx := (hat pre.length x (by simp)).1
  rw [← hr]
  unfold spanP
  rw [List.append_assoc, List.foldl_append]
  refine spanP_idle _ _ (fun k hk => ?_)
  rw [List.singleton_append, List.mem_cons] at hk
  rcases hk with rfl | hk
  · exact hx
  · obtain ⟨j, hj⟩ := List.getElem?_of_mem hk
    have := hat (pre.length + 1 + j) k (by
      rw [List.getElem?_append_right (by simp)]
      simpa using hj)
    have hm := nodeY_mono (t := t) (j := x) (k := k) (by omega) (by omega)
    omega

noncomputable def spanOf (t : List Node) (i : Int) : Nat × Nat × Bool := if placeB t i then ((spanP t i.toNat (sz t i.toNat) (List.range (leavesOf t).length)).1, (spanP t i.toNat (sz t i.toNat) (List.range (leavesOf t).length)).2.1, true) else (0, 0, false)

theorem span_no {t : List Node} {i : Int} (h : placeB t i = false) : spanOf t i = (0, 0, false) := by unfold spanOf; rw [h]; rfl

theorem treeB_of_place {t : List Node} {i : Int} (h : placeB t i = true) : treeB t = true := treeB_iff.2 (placeB_iff.1 h).2.2

end Go.Proofs.Ytbjheaiiajpifaa.T

namespace Go.Proofs.Ytbjheaiiajpifaa.T
open Go.RowKit Go.Shelf

theorem strCells_bytes (s : ByteArray) : Lib.strCells s = Lib.byteCells s.data.toList := rfl

end Go.Proofs.Ytbjheaiiajpifaa.T

namespace Go.Proofs.Ytbjheaiiajpifaa.T
open Go.RowKit Go.Shelf
attribute [local go_sem] Oper.semAt_some
attribute [local simp] wide_round_fn

def pcBytes (ps : List Piece) : List UInt8 := ps.flatMap fun p => p.text.data.toList
def wordBytes (x : Node) : List UInt8 := pcBytes x.lead ++ x.text.data.toList
noncomputable def textL (t : List Node) (ks : List Nat) : List UInt8 := ks.flatMap fun k => wordBytes (leafAt t (nodeY t k))
noncomputable def textOf (t : List Node) : List UInt8 := textL t (List.range (leavesOf t).length)
theorem bytes_size (s : ByteArray) : s.data.toList.length = s.size := by rw [Array.length_toList]; rfl
theorem pcBytes_len (ps : List Piece) : (pcBytes ps).length = leadSum ps := by
  unfold pcBytes leadSum
  induction ps with
  | nil => rfl
  | cons p ps ih => rw [List.flatMap_cons, List.length_append, ih, bytes_size]; simp
theorem pcBytes_take {ps : List Piece} {j : Nat} {p : Piece} (h : ps[j]? = some p) : pcBytes (ps.take (j + 1)) = pcBytes (ps.take j) ++ p.text.data.toList := by
  obtain ⟨hj, e⟩ := List.getElem?_eq_some_iff.1 h
  unfold pcBytes
  rw [List.take_succ_eq_append_getElem hj, e, List.flatMap_append]
  simp
theorem wordBytes_len (x : Node) : (wordBytes x).length = wordLen x := by unfold wordBytes wordLen; rw [List.length_append, pcBytes_len, bytes_size]
theorem textL_snoc (t : List Node) (l : List Nat) (k : Nat) : textL t (l ++ [k]) = textL t l ++ wordBytes (leafAt t (nodeY t k)) := by unfold textL; rw [List.flatMap_append]; simp
theorem textL_len (t : List Node) (l : List Nat) (h : ∀ k ∈ l, nodeY t k < t.length) : (textL t l).length ≤ l.length * bulkT t := by
  unfold textL
  induction l with
  | nil => simp
  | cons k l ih =>
    rw [List.flatMap_cons, List.length_append, wordBytes_len, List.length_cons, Nat.add_mul]
    have h1 := ih (fun j hj => h j (by simp [hj]))
    have h2 := bulk_at (List.getElem?_eq_getElem (h k (by simp)))
    have h3 := wordLen_bulk (t[nodeY t k]'(h k (by simp)))
    rw [leafAt_of (List.getElem?_eq_getElem (h k (by simp)))]
    omega

theorem _root_.Go.Proofs.Ytbjheaiiajpifaa.Holds.written {w wi wi' : World} {g : Nat} {ty : TypeId} {cs : Array Value} (h : Holds wi g ty cs) (hk : Lib.OthersKept 5 (some w.heap.size) wi wi') (hg : g ≠ w.heap.size) (ht : ty ≠ 5) : Holds wi' g ty cs :=
  hk g _ h (fun e => hg (Option.some.inj e)) (fun c fz e => by cases e; exact ht rfl)

theorem wd_lead {w : World} {T : Nat → Prop} {t : List Node} (x : Wd w T t) : Pcs w T (.slice x.1.2.1 (leafAt t (nodeY t x.1.1)).lead.length x.1.2.2) (leafAt t (nodeY t x.1.1)).lead := by
  obtain ⟨⟨k, A, c⟩, i, hi, hit, hp⟩ := x
  have h1 : nodeY t k = i := by unfold nodeY; rw [hi]; rfl
  dsimp only
  rw [h1]
  exact hp
def TxT (w : World) : Nat → Prop := fun k => k < w.heap.size ∨ k = w.heap.size + 1
def TxX {w1 : World} {T : Nat → Prop} {t : List Node} (_ : Code) (_ : List (Wd w1 T t)) (_ : World) : Prop := False

end Go.Proofs.Ytbjheaiiajpifaa.T

namespace Go.Proofs.Ytbjheaiiajpifaa.T
open Go.RowKit Go.Shelf

theorem flatN_len {α : Type} (f : α → List Value) (k : Nat) (hf : ∀ x, (f x).length = k) (l : List α) : (l.flatMap f).length = l.length * k := by
  induction l with
  | nil => simp
  | cons y l ih => rw [List.flatMap_cons, List.length_append, hf, ih, List.length_cons, Nat.add_mul]; omega
theorem _root_.Go.Proofs.Ytbjheaiiajpifaa.Rd.valR {w : World} {T : Nat → Prop} {size n : Nat} {v : Value} {cs : List Value} (h : Rd w T size v n cs) : ∃ A c, v = .slice A n c ∧ n ≤ c ∧ c ≤ maxLen := by
  obtain ⟨_, A, c, hv, h1, h2, _⟩ := h
  exact ⟨A, c, hv, h1, h2⟩
section
variable {α : Type} (R : Rec α)
end

section
variable {α : Type} {R : Rec α} {w w' : World} {T T' : Nat → Prop} {v : Value} {xs : List α}
end

/-- Words: what a leaf is as one. -/
def wordR : Rec Node where
  k := 3
  cells x l := [l, .int .i64 x.n, .string x.text]
  len _ _ := rfl
  pos := by decide
  kin := 2
  m x := x.lead.length
  inner x := x.lead.flatMap pcCells
  one x l h := by
    intro u hu
    simp only [List.mem_cons, List.not_mem_nil, or_false] at hu
    rcases hu with rfl | rfl | rfl <;> first | rfl | exact h
end Go.Proofs.Ytbjheaiiajpifaa.T

namespace Go.Proofs.Ytbjheaiiajpifaa.T
open Go.RowKit Go.Shelf

def catB (l : List UInt8) : ByteArray := ⟨l.toArray⟩
theorem catB_size (l : List UInt8) : (catB l).size = l.length := by unfold catB; show l.toArray.size = _; simp
theorem catB_app (l : List UInt8) (s : ByteArray) : catB (l ++ s.data.toList) = catB l ++ s := by
  apply ByteArray.ext
  rw [ByteArray.data_append]
  simp [catB]
theorem catB_cat (l m : List UInt8) : catB (l ++ m) = catB l ++ catB m := by
  apply ByteArray.ext
  rw [ByteArray.data_append]
  simp [catB]

set_option maxHeartbeats 1000000 in
theorem ref_join (v : Value) (ps : List Piece) (w : World) (hP : Pcs w (Old w) v ps) (hl : leadSum ps ≤ 1000000000000) :
    Calls Try.prog 81 #[v] w fun r w' => r = .returned (.string (catB (pcBytes ps))) ∧ w = w' := by
  obtain ⟨A, c, rfl, hc1, hc2⟩ := hP.value
  unfold maxLen at hc2
  have HP := hidden hP
  clear hP
  go_enter Try.func81, Try.ntmps81
  go_wp2
  go_loop [3, 4] (fun s i => ∃ k : Nat, k ≤ ps.length ∧ i = .int .i64 k ∧ s = .string (catB (pcBytes (ps.take k)))) (fun _ i => ps.length - (intOf i).toNat)
  case atStart => exact ⟨0, by omega, rfl, rfl⟩
  case round =>
    obtain ⟨k, hk, rfl, rfl⟩ := hrel
    by_cases hlt : k < ps.length
    · have hp := List.getElem?_eq_getElem hlt
      obtain ⟨b3, o3, c3', hv, _, _, hT3, hat3⟩ := HP.out.open_ (by intro e; rw [e] at hlt; simp at hlt)
      simp only [Value.slice.injEq] at hv
      obtain ⟨rfl, _, rfl⟩ := hv
      obtain ⟨p0, p1⟩ := hat3 k _ hp
      have HTk := hidden (pcBytes_take hp)
      have hst := leadSum_take hp
      have hsl := leadSum_le ps (k + 1)
      have hsz : (catB (pcBytes (ps.take k))).size = leadSum (ps.take k) := by rw [catB_size, pcBytes_len]
      generalize ps[k] = p at *
      have h1 : (catB (pcBytes (ps.take k))).size ≤ 1000000000000 := by omega
      have h2 : (catB (pcBytes (ps.take k))).size + p.text.size ≤ 1000000000000 := by omega
      have HC : Hid (catB (pcBytes (ps.take (k + 1))) = catB (pcBytes (ps.take k)) ++ p.text) := hidden (by rw [HTk.out, catB_app])
      clear hp hat3 hst hsl hsz HTk
      generalize catB (pcBytes (ps.take k)) = s at *
      go_wp2
      go_round
      case rel => exact ⟨k + 1, by omega, by go_num, by rw [HC.out]⟩
      case measure => simp [intOf]; omega
    · obtain rfl : k = ps.length := by omega
      rw [List.take_length]
      go_wp2
      go_ret
      exact ⟨rfl, rfl⟩

set_option maxHeartbeats 1000000 in
theorem ref_bytes (x : Node) (l : Value) (w : World) (hP : Pcs w (Old w) l x.lead) (hl : wordLen x ≤ 1000000000000) :
    Calls Try.prog 52 #[.agg #[l, .int .i64 x.n, .string x.text]] w fun r w' => r = .returned (.string (catB (wordBytes x))) ∧ Below w.heap.size w w' := by
  obtain ⟨A, c, rfl, hc1, hc2⟩ := hP.value
  unfold maxLen at hc2
  unfold wordLen at hl
  have HP := hidden (fun (w' : World) (hb : Below w.heap.size w w') => ref_join _ x.lead w' (Rd.mono (hP.keeps (Keeps.of_below hb)) (fun k hk => Nat.lt_of_lt_of_le hk hb.size)) (by omega))
  have hsz : (catB (pcBytes x.lead)).size = leadSum x.lead := by rw [catB_size, pcBytes_len]
  have h1 : (catB (pcBytes x.lead)).size + x.text.size ≤ 1000000000000 := by omega
  have HE : Hid (catB (wordBytes x) = catB (pcBytes x.lead) ++ x.text) := hidden (by unfold wordBytes; rw [catB_app])
  generalize catB (pcBytes x.lead) = s at *
  clear hP hsz
  go_enter Try.func52, Try.ntmps52
  go_wp2
  have z0 := Ext.cell (show (w.alloc (.cells #[.slice A x.lead.length c, .int .i64 x.n, .string x.text] 129)).cell? ⟨w.heap.size, 0, none⟩ = some (.slice A x.lead.length c) by go_simp)
  have z2 := Ext.cell (show (w.alloc (.cells #[.slice A x.lead.length c, .int .i64 x.n, .string x.text] 129)).cell? ⟨w.heap.size, 2, none⟩ = some (.string x.text) by go_simp)
  have HB : Hid (Below w.heap.size w (w.alloc (.cells #[.slice A x.lead.length c, .int .i64 x.n, .string x.text] 129))) := hidden (by repeat (first | (with_reducible exact Below.refl _ _) | (with_reducible assumption) | (with_reducible refine Below.drew ?_) | (with_reducible refine below_drewN ?_ _) | ((with_reducible refine below_alloc ?_ ?_); (focus (first | omega | (simp; done) | (simp; omega)))) | ((with_reducible refine below_set ?_ ?_); (focus (first | omega | (simp; done) | (simp; omega))))))
  refine wp_region_ext (by kernel_rfl) (by kernel_rfl) ?_
  repeat (go_big_quiet_step ((go_at_call 81; exact Ext.call ((HP.out _ (HB.out.trans (Ext.below _ |>.mono (by simp)))).mono fun _ _ h => ⟨h.1, h.2 ▸ Below.refl _ _⟩))))
  refine wpQuiet_nil ?_
  intro w2 hb2
  go_wp2
  go_ret
  exact ⟨by rw [HE.out]; rfl, HB.out.trans (hb2.mono (by simp))⟩

/-- The leaves, as words. -/
noncomputable def wordsTo (t : List Node) (k : Nat) : List Node := ((leavesOf t).take k).map (leafAt t)
noncomputable def wordsOf (t : List Node) : List Node := (leavesOf t).map (leafAt t)
theorem wordsTo_succ {t : List Node} {k i : Nat} (h : (leavesOf t)[k]? = some i) : wordsTo t (k + 1) = wordsTo t k ++ [leafAt t i] := by
  obtain ⟨hk, e⟩ := List.getElem?_eq_some_iff.1 h
  unfold wordsTo
  rw [List.take_succ_eq_append_getElem hk, e, List.map_append]
  rfl
theorem wordsTo_len {t : List Node} {k : Nat} (h : k ≤ (leavesOf t).length) : (wordsTo t k).length = k := by unfold wordsTo; rw [List.length_map, List.length_take]; omega
theorem wordsOf_at {t : List Node} {k i : Nat} (h : (leavesOf t)[k]? = some i) : (wordsOf t)[k]? = some (leafAt t i) := by unfold wordsOf; rw [List.getElem?_map, h]; rfl
theorem word_info : Hid (TyInfo Try.prog 129 (.agg #[.slice none 0 0, .int .i64 0, .string ⟨#[]⟩]) 3 48) :=
  hidden (info_parts (show (Try.prog.info? 129).map (fun i => (i.zero, i.size, i.bytes)) = some (some (.agg #[.slice none 0 0, .int .i64 0, .string ⟨#[]⟩]), 3, 48) by kernel_rfl))

/-- Words in a row of the call's own; their leads lie in T. -/
def WOwn (w : World) (B : Nat) (T : Nat → Prop) (v : Value) (ws : List Node) : Prop :=
  ∃ ls : List Value, ls.length = ws.length ∧ Mine w B 129 3 v ws.length (wordR.all ws ls) ∧ ∀ (i : Nat) (x : Node) (l : Value), ws[i]? = some x → ls[i]? = some l → Pcs w T l x.lead
theorem WOwn.below {w w' : World} {B : Nat} {T : Nat → Prop} {v : Value} {ws : List Node} (h : WOwn w B T v ws) (hb : Below w.heap.size w w') : WOwn w' B T v ws := by
  obtain ⟨ls, h1, h2, h3⟩ := h
  exact ⟨ls, h1, h2.below hb, fun i x l a b => (h3 i x l a b).keeps (Keeps.of_below hb)⟩
theorem WOwn.recs {w : World} {B : Nat} {T : Nat → Prop} {v : Value} {ws : List Node} (h : WOwn w B T v ws) (hT : ∀ k, T k → k < w.heap.size) : Recs wordR w (Old w) v ws := by
  obtain ⟨ls, h1, h2, h3⟩ := h
  exact ⟨ls, h1, h2.rd (fun g _ _ h => h), fun i x l a b => Rd.mono (h3 i x l a b) (fun k hk => hT k hk)⟩

theorem wordR_all_snoc (ws : List Node) (ls : List Value) (x : Node) (l : Value) (h : ls.length = ws.length) : wordR.all (ws ++ [x]) (ls ++ [l]) = wordR.all ws ls ++ [l, .int .i64 x.n, .string x.text] := by
  unfold Rec.all
  rw [List.zip_append (by omega), List.flatMap_append]
  rfl

set_option maxRecDepth 20000 in
set_option maxHeartbeats 4000000 in
theorem ref_words (v : Value) (t : List Node) (w : World) (h4 : t.length ≤ 1000000000) (hN : Nds w (Old w) v t) :
    Calls Try.prog 51 #[v] w fun r w' => (∃ u, r = .returned u ∧ Hid (WOwn w' w.heap.size (Old w) u (wordsOf t))) ∧ Below w.heap.size w w' := by
  have HN := hidden hN
  have HL := hidden (fun (w' : World) (hb : Below w.heap.size w w') => ref_leaves v t w' (by omega) (hN.old hb))
  have HW := word_info
  have HWE : Hid (wordsTo t (leavesOf t).length = wordsOf t) := hidden (by unfold wordsTo wordsOf; rw [List.take_length])
  have HLt := hidden (leavesOf_lt t)
  have hll : (leavesOf t).length ≤ t.length := leavesTo_len t t.length
  obtain ⟨A, c, rfl, hc1, hc2⟩ := hN.value
  unfold maxLen at hc2
  clear hN
  go_enter Try.func51, Try.ntmps51
  go_wp2_with fail
  refine (HL.out _ (by repeat (first | (with_reducible exact Below.refl _ _) | (with_reducible assumption) | (with_reducible refine Below.drew ?_) | (with_reducible refine below_drewN ?_ _) | ((with_reducible refine below_alloc ?_ ?_); (focus (first | omega | (simp; done) | (simp; omega)))) | ((with_reducible refine below_set ?_ ?_); (focus (first | omega | (simp; done) | (simp; omega))))))).mono ?_
  rintro r w2 ⟨⟨u, rfl, HM⟩, hb2⟩
  obtain ⟨A2, c2, rfl⟩ := HM.out.value
  have hz2 := hb2.size
  have HR : Hid (Rd w2 (fun k => w.heap.size + 1 ≤ k ∧ k < w2.heap.size) 1 (.slice A2 (leavesOf t).length c2) (leavesOf t).length (ints (leavesOf t))) := hidden (HM.out.rd (fun g _ h1 h2 => ⟨by simpa using h1, h2⟩))
  have hb : Below w.heap.size w w2 := Below.trans (B := w.heap.size) (a := w) (by repeat (first | (with_reducible exact Below.refl _ _) | (with_reducible assumption) | (with_reducible refine Below.drew ?_) | (with_reducible refine below_drewN ?_ _) | ((with_reducible refine below_alloc ?_ ?_); (focus (first | omega | (simp; done) | (simp; omega)))) | ((with_reducible refine below_set ?_ ?_); (focus (first | omega | (simp; done) | (simp; omega)))))) (hb2.mono (by simp))
  simp at hz2
  clear HM hb2 HL
  go_wp2
  go_loopw [3, 5] (fun o i wr => ∃ k : Nat, k ≤ (leavesOf t).length ∧ i = .int .i64 k ∧ Hid (WOwn wr w.heap.size (Old w) o (wordsTo t k)) ∧ Hid (∀ g, o.ownBlock = some g → g = w.heap.size ∨ w2.heap.size ≤ g) ∧
      Hid (Rd wr (fun k => w.heap.size + 1 ≤ k ∧ k < w2.heap.size) 1 (.slice A2 (leavesOf t).length c2) (leavesOf t).length (ints (leavesOf t))) ∧ Below w.heap.size w wr ∧ w2.heap.size ≤ wr.heap.size) (fun _ i _ => (leavesOf t).length - (intOf i).toNat)
  case atStart => exact ⟨0, by omega, rfl, hidden ⟨[], rfl, .inr ⟨rfl, rfl, _, rfl⟩, fun i x l a _ => by simp [wordsTo] at a⟩, hidden (fun g hg => by cases hg; exact .inl rfl), HR, hb, Nat.le_refl _⟩
  case round =>
    clear HR hb
    obtain ⟨k, hk, rfl, HM, HG, HR, hb, hz⟩ := hrel
    have hbz := hb.size
    by_cases hlt : k < (leavesOf t).length
    · have hi := List.getElem?_eq_getElem hlt
      have HS := hidden (wordsTo_succ hi)
      have hit := HLt.out _ (List.mem_of_getElem? hi)
      have hwl := wordsTo_len (t := t) hk
      obtain ⟨b2, o2, rfl, _, z0⟩ := HR.out.ints_at hi
      generalize (leavesOf t)[k] = i at *
      have hx := List.getElem?_eq_getElem hit
      obtain ⟨b, off, c', hv, _, _, hTb, hat⟩ := (HN.out.below hb old_lt).open_ (by intro e; rw [e] at hit; simp at hit)
      simp only [Value.slice.injEq] at hv
      obtain ⟨rfl, _, rfl⟩ := hv
      obtain ⟨lv, x0, x1, x2, x3, x4, hpc⟩ := hat i _ hx
      rw [leafAt_of hx] at HS
      generalize t[i] = x at *
      obtain ⟨A3, c3, rfl, d1, d2⟩ := hpc.value
      unfold maxLen at d2
      have HPc := hidden hpc
      clear hi hat hx hpc
      obtain ⟨ls, hls, hM, hps⟩ := HM.out
      have HB := hidden hb
      have hnew : Below wr.heap.size wr ((wr.alloc (.cells #[.int .i64 x.kind, .int .i64 x.n, .int .i64 x.size, .slice A3 x.lead.length c3, .string x.text] 58)).alloc (.cells #[.slice A3 x.lead.length c3, .int .i64 x.n, .string x.text] 129)) := ((Below.refl _ _).alloc (Nat.le_refl _) _).alloc (by simp) _
      have HMa : Hid (Mine ((wr.alloc (.cells #[.int .i64 x.kind, .int .i64 x.n, .int .i64 x.size, .slice A3 x.lead.length c3, .string x.text] 58)).alloc (.cells #[.slice A3 x.lead.length c3, .int .i64 x.n, .string x.text] 129)) w.heap.size 129 3 u3 (wordsTo t k).length (wordR.all (wordsTo t k) ls)) := hidden (hM.below hnew)
      have HX : Hid (Rd ((wr.alloc (.cells #[.int .i64 x.kind, .int .i64 x.n, .int .i64 x.size, .slice A3 x.lead.length c3, .string x.text] 58)).alloc (.cells #[.slice A3 x.lead.length c3, .int .i64 x.n, .string x.text] 129)) (fun _ => True) 3 (.slice (some ⟨wr.heap.size + 1, 0, none⟩) 1 1) 1 [.slice A3 x.lead.length c3, .int .i64 x.n, .string x.text]) :=
        hidden (Rd.fresh (cs := [.slice A3 x.lead.length c3, .int .i64 x.n, .string x.text]) (n := 1) (size := 3) rfl (Nat.le_refl _) (by decide) trivial (by simp))
      have H1 : Hid (∀ u ∈ [Value.slice A3 x.lead.length c3, .int .i64 x.n, .string x.text], u.oneCell' = true) := hidden (wordR.one x _ rfl)
      have hbn : w.heap.size ≤ ((wr.alloc (.cells #[.int .i64 x.kind, .int .i64 x.n, .int .i64 x.size, .slice A3 x.lead.length c3, .string x.text] 58)).alloc (.cells #[.slice A3 x.lead.length c3, .int .i64 x.n, .string x.text] 129)).heap.size := by simp; omega
      have HFin : Hid (∀ v' w', Appended ((wr.alloc (.cells #[.int .i64 x.kind, .int .i64 x.n, .int .i64 x.size, .slice A3 x.lead.length c3, .string x.text] 58)).alloc (.cells #[.slice A3 x.lead.length c3, .int .i64 x.n, .string x.text] 129)) w.heap.size 129 3 u3 ((wordsTo t k).length + 1) (wordR.all (wordsTo t k) ls ++ [.slice A3 x.lead.length c3, .int .i64 x.n, .string x.text]) v' w' →
          Hid (WOwn w' w.heap.size (Old w) v' (wordsTo t (k + 1))) ∧ Hid (∀ g, v'.ownBlock = some g → g = w.heap.size ∨ w2.heap.size ≤ g) ∧ Hid (Rd w' (fun k => w.heap.size + 1 ≤ k ∧ k < w2.heap.size) 1 (.slice (some ⟨b2, o2, none⟩) (leavesOf t).length c2) (leavesOf t).length (ints (leavesOf t))) ∧ Below w.heap.size w w' ∧ w2.heap.size ≤ w'.heap.size) := hidden (fun v' w' hA => by
        have hs := hA.keeps.size
        simp at hs
        have hkn : ∀ j, j < w2.heap.size → j ≠ w.heap.size → u3.ownBlock ≠ some j := fun j hj hne e => by have := HG.out j e; omega
        have hkk : Keeps (fun j => j < w2.heap.size ∧ j ≠ w.heap.size) wr w' := (Keeps.of_below hnew).trans (hA.keeps.mono (fun j hj => hkn j hj.1 hj.2))
        refine ⟨hidden ⟨ls ++ [.slice A3 x.lead.length c3], ?_, ?_, fun i y l a b => ?_⟩, hidden (fun g hg => ?_), hidden (Rd.keeps HR.out (hkk.mono (fun j hj => ⟨hj.2, by omega⟩))), (HB.out.trans (hnew.mono HB.out.size)).trans hA.below, by omega⟩
        · rw [HS.out]; simp [hls]
        · rw [HS.out, List.length_append, wordR_all_snoc _ _ _ _ hls]
          exact hA.mine
        · rw [HS.out] at a
          rcases Nat.lt_or_ge i (wordsTo t k).length with h | h
          · rw [List.getElem?_append_left h] at a
            rw [List.getElem?_append_left (by omega)] at b
            exact (hps i y l a b).keeps (hkk.mono (fun j hj => by have : j < w.heap.size := hj; exact ⟨by omega, by omega⟩))
          · rw [List.getElem?_append_right h] at a
            rw [List.getElem?_append_right (by omega), hls] at b
            obtain ⟨hi0, rfl⟩ : i - (wordsTo t k).length = 0 ∧ x = y := by
              have := (List.getElem?_eq_some_iff.1 a).1
              simp at this
              rw [this] at a
              simp at a
              exact ⟨this, a⟩
            rw [hi0] at b
            simp at b
            subst b
            exact HPc.out.keeps (hkk.mono (fun j hj => by have : j < w.heap.size := hj; exact ⟨by omega, by omega⟩))
        · rcases hA.at_ with e | ⟨g', e, h1, _⟩
          · rw [e] at hg; exact HG.out g hg
          · rw [e] at hg; cases hg
            simp at h1
            exact .inr (by omega))
      clear hM hps HR HPc HM hb hnew HS HG HB
      have h5 : ((wordsTo t k).length + 1) * 48 ≤ 140737488355328 := by omega
      go_wp2_with (at_builtin; refine wpList_append_all rfl _ _ 125 129 rfl (by kernel_rfl) HW rfl (by decide) w.heap.size _ _ _ HMa _ _ _ HX H1 rfl rfl h5 (by decide) hbn ?_; intro v' w' hA)
      obtain ⟨q1, q2, q3, q4, q5⟩ := HFin.out v' w' hA.out
      clear HFin hA HMa HX H1 hbn
      go_roundw
      case rel => exact ⟨k + 1, by omega, by go_num, q1, q2, q3, q4, q5⟩
      case measure => simp [intOf]; omega
    · obtain rfl : k = (leavesOf t).length := by omega
      rw [HWE.out] at HM
      go_wp2
      go_ret
      exact ⟨⟨_, rfl, HM⟩, hb⟩
end Go.Proofs.Ytbjheaiiajpifaa.T

namespace Go.Proofs.Ytbjheaiiajpifaa.T
open Go.RowKit Go.Shelf

theorem wordsOf_len (t : List Node) : (wordsOf t).length = (leavesOf t).length := by unfold wordsOf; rw [List.length_map]
theorem nodeY_at {t : List Node} {k : Nat} (h : k < (leavesOf t).length) : (wordsOf t)[k]? = some (leafAt t (nodeY t k)) ∧ nodeY t k < t.length ∧ fromY t (leavesOf t) (k + 1) = fromY t (leavesOf t) k + wordLen (leafAt t (nodeY t k)) ∧ fromY t (leavesOf t) (k + 1) ≤ bulkT t ∧ (leavesOf t)[k]? = some (nodeY t k) := by
  have hi := List.getElem?_eq_getElem h
  have e := nodeY_of hi
  rw [← e] at hi
  exact ⟨wordsOf_at hi, leavesOf_lt t _ (List.mem_of_getElem? hi), fromY_succ hi, fromY_le t h, hi⟩
theorem textL_range_len (t : List Node) : ∀ k, k ≤ (leavesOf t).length → (textL t (List.range k)).length = fromY t (leavesOf t) k := by
  intro k
  induction k with
  | zero => intro _; rfl
  | succ k ih =>
    intro h
    rw [List.range_succ, textL_snoc, List.length_append, wordBytes_len, ih (by omega), (nodeY_at (by omega)).2.2.1]

/-- A word of words that are read. -/
theorem word_cells {w : World} {T : Nat → Prop} {A : Option Addr} {n c : Nat} {t : List Node} (h : Recs wordR w T (.slice A n c) (wordsOf t)) {k : Nat} (hk : k < (leavesOf t).length) :
    ∃ b off l, A = some ⟨b, off, none⟩ ∧ w.cell? ⟨b, off + k * 3, none⟩ = some l ∧ w.cell? ⟨b, off + k * 3 + 1, none⟩ = some (.int .i64 (leafAt t (nodeY t k)).n) ∧ w.cell? ⟨b, off + k * 3 + 2, none⟩ = some (.string (leafAt t (nodeY t k)).text) ∧ Pcs w T l (leafAt t (nodeY t k)).lead ∧ T b := by
  obtain ⟨b, off, l, rfl, hT, hc, hP⟩ := h.at_ (nodeY_at hk).1
  exact ⟨b, off, l, rfl, hc 0 _ rfl, hc 1 _ rfl, hc 2 _ rfl, hP, hT⟩

set_option maxRecDepth 20000 in
set_option maxHeartbeats 4000000 in
theorem ref_text (v : Value) (t : List Node) (w : World) (h4 : bulkT t ≤ 1000000000) (hN : Nds w (Old w) v t) :
    Calls Try.prog 22 #[v] w fun r w' => r = .returned (.string (catB (textOf t))) ∧ Below w.heap.size w w' := by
  have h5 := bulk_len t
  have HW := hidden (ref_words v t w (by omega) hN)
  have hll : (leavesOf t).length ≤ t.length := leavesTo_len t t.length
  have HLen := hidden (fun k (h : k ≤ (leavesOf t).length) => textL_range_len t k h)
  have HNY := hidden (fun k (h : k < (leavesOf t).length) => nodeY_at (t := t) h)
  have HB := hidden (fun k (h : k < t.length) => bulk_at (List.getElem?_eq_getElem h))
  obtain ⟨A, c, rfl, hc1, hc2⟩ := hN.value
  unfold maxLen at hc2
  clear hN
  go_enter Try.func22, Try.ntmps22
  go_wp2_with fail
  refine HW.out.mono ?_
  rintro r w2 ⟨⟨u, rfl, HO⟩, hb⟩
  have HR := hidden (HO.out.recs (fun k (hk : k < w.heap.size) => Nat.lt_of_lt_of_le hk hb.size))
  obtain ⟨A2, c2, rfl, hd1, hd2⟩ := HR.out.value
  rw [wordsOf_len] at *
  unfold maxLen at hd2
  have hz := hb.size
  clear HO HW
  go_wp2
  go_loopw [3, 5] (fun s i wr => ∃ k : Nat, k ≤ (leavesOf t).length ∧ i = .int .i64 k ∧ s = .string (catB (textL t (List.range k))) ∧ Hid (Recs wordR wr (Old w2) (.slice A2 (leavesOf t).length c2) (wordsOf t)) ∧ Below w.heap.size w wr ∧ w2.heap.size ≤ wr.heap.size) (fun _ i _ => (leavesOf t).length - (intOf i).toNat)
  case atStart => exact ⟨0, by omega, rfl, rfl, HR, hb, Nat.le_refl _⟩
  case round =>
    clear HR hb
    obtain ⟨k, hk, rfl, rfl, HR, hb, hzr⟩ := hrel
    have hbz := hb.size
    by_cases hlt : k < (leavesOf t).length
    · obtain ⟨b, off, l, rfl, z0, z1, z2, hP, hTb⟩ := word_cells HR.out hlt
      obtain ⟨n1, n2, n3, n4, n5⟩ := HNY.out k hlt
      have hx : (catB (textL t (List.range k))).size = fromY t (leavesOf t) k := by rw [catB_size]; exact HLen.out k hk
      have HTx : Hid (catB (textL t (List.range (k + 1))) = catB (textL t (List.range k)) ++ catB (wordBytes (leafAt t (nodeY t k)))) := hidden (by rw [List.range_succ, textL_snoc, catB_cat])
      have hwl : (catB (wordBytes (leafAt t (nodeY t k)))).size = wordLen (leafAt t (nodeY t k)) := by rw [catB_size, wordBytes_len]
      have HBy := hidden (ref_bytes (leafAt t (nodeY t k)) l wr (Rd.mono hP (fun j hj => Nat.lt_of_lt_of_le (show j < w2.heap.size from hj) hzr)) (by omega))
      obtain ⟨A3, c3, rfl, _, _⟩ := hP.value
      have HRb := hidden (fun w' (h : Below wr.heap.size wr w') => HR.out.keeps (Keeps.of_below h))
      have hq : (catB (textL t (List.range k))).size + (catB (wordBytes (leafAt t (nodeY t k)))).size ≤ 1000000000000 := by omega
      clear n1 n5 hP HR hwl hx
      generalize catB (textL t (List.range k)) = s at *
      generalize catB (wordBytes (leafAt t (nodeY t k))) = s2 at *
      generalize leafAt t (nodeY t k) = x at *
      go_wp2_with fail
      refine HBy.out.mono ?_
      rintro r w3 ⟨rfl, hb3⟩
      have HR3 := hidden (HRb.out _ hb3)
      replace hb := hb.trans (hb3.mono hbz)
      have hz3 := hb3.size
      clear hb3 HRb HBy z0 z1 z2
      go_wp2
      go_roundw
      case rel => exact ⟨k + 1, by omega, by go_num, by rw [HTx.out], HR3, hb, by omega⟩
      case measure => simp [intOf]; omega
    · obtain rfl : k = (leavesOf t).length := by omega
      go_wp2
      go_ret
      exact ⟨rfl, hb⟩

end Go.Proofs.Ytbjheaiiajpifaa.T

namespace Go.Proofs.Ytbjheaiiajpifaa.T
open Go.RowKit Go.Shelf
attribute [local go_sem] Oper.semAt_some
attribute [local simp] wide_fn

theorem spanP_none (t : List Node) (i z : Nat) : ∀ k, (spanP t i z (List.range k)).2.2 = true → ∃ j, j < k ∧ i ≤ nodeY t j := by
  intro k
  induction k with
  | zero => intro h; cases h
  | succ k ih =>
    intro h
    rw [List.range_succ, spanP_snoc] at h
    unfold stepP at h
    split at h
    · obtain ⟨j, h1, h2⟩ := ih h; exact ⟨j, by omega, h2⟩
    · split at h
      · obtain ⟨j, h1, h2⟩ := ih h; exact ⟨j, by omega, h2⟩
      · exact ⟨k, by omega, by omega⟩

theorem ownY_of (t : List Node) (k : Nat) : ((ownY t k : Nat) : Int) = (fromY t (leavesOf t) k : Nat) + (wordLen (leafAt t (nodeY t k)) : Nat) - ((leafAt t (nodeY t k)).text.size : Nat) := by
  unfold ownY wordLen; omega

end Go.Proofs.Ytbjheaiiajpifaa.T
