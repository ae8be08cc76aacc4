/-
  Nodes of trees, as plain data, and slices that read as nodes. When nodes are a tree: plain laws. The reference's node and Right: whether nodes are a tree. The reference's node at a node with kids, and Right. Right: of the document's answer. arena.Right. arena.Right, walked. place, of both. Leaves, of both. arena.Leaves. Up, of the document. The iterator over the kids of a node (arena.kids): what it hands to yield.
-/
import Derived.Test.YtmmhkjdnejeooaaB1
import Derived.Test.YtmmhkjdnejeooaaRows
import Derived.Lib.Strings
import Derived.WalkSmall
import Derived.OwnWalk
import Derived.Sort.BigQuietIn
namespace Go.Proofs.Ytmmhkjdnejeooaa.T
open Go.RowKit Go.Shelf

structure Piece where
  tok : Int
  text : ByteArray
structure Node where
  kind : Int
  n : Int
  size : Int
  lead : List Piece
  text : ByteArray

def pcCells (p : Piece) : List Value := [.int .i64 p.tok, .string p.text]
/-- v reads as pieces. -/
def Pcs (w : World) (T : Nat → Prop) (v : Value) (ps : List Piece) : Prop := Rd w T 2 v ps.length (ps.flatMap pcCells)
def ndCells (x : Node) (l : Value) : List Value := [.int .i64 x.kind, .int .i64 x.n, .int .i64 x.size, l, .string x.text]
def allCells (t : List Node) (ls : List Value) : List Value := (t.zip ls).flatMap fun x => ndCells x.1 x.2
/-- v reads as nodes; their leads lie in the blocks of T too. -/
def Nds (w : World) (T : Nat → Prop) (v : Value) (t : List Node) : Prop :=
  ∃ ls : List Value, ls.length = t.length ∧ Rd w T 5 v t.length (allCells t ls) ∧ ∀ (i : Nat) (x : Node) (l : Value), t[i]? = some x → ls[i]? = some l → Pcs w T l x.lead

theorem allCells_len (t : List Node) (ls : List Value) (h : ls.length = t.length) : (allCells t ls).length = t.length * 5 := by
  unfold allCells
  rw [flat_len _ 5 (fun _ => rfl), List.length_zip, h, Nat.min_self]

section
variable {w w' : World} {T T' : Nat → Prop} {v : Value} {t : List Node} {ps : List Piece}
theorem Pcs.mono (h : Pcs w T v ps) (hT : ∀ k, T k → T' k) : Pcs w T' v ps := Rd.mono h hT
theorem Pcs.keeps (h : Pcs w T v ps) (hk : Keeps T w w') : Pcs w' T v ps := Rd.keeps h hk
theorem Nds.mono (h : Nds w T v t) (hT : ∀ k, T k → T' k) : Nds w T' v t := by
  obtain ⟨ls, h1, h2, h3⟩ := h
  exact ⟨ls, h1, h2.mono hT, fun i x l a b => (h3 i x l a b).mono hT⟩
theorem Nds.keeps (h : Nds w T v t) (hk : Keeps T w w') : Nds w' T v t := by
  obtain ⟨ls, h1, h2, h3⟩ := h
  exact ⟨ls, h1, h2.keeps hk, fun i x l a b => (h3 i x l a b).keeps hk⟩
theorem Nds.below {B : Nat} (h : Nds w T v t) (hb : Below B w w') (hT : ∀ k, T k → k < B) : Nds w' T v t := h.keeps ⟨hb.size, fun k hk _ => hb.block k (hT k hk)⟩
theorem Nds.alloc (h : Nds w T v t) (o : Obj) : Nds (w.alloc o) T v t := h.keeps ((Keeps.refl _ _).alloc o)
theorem Nds.calm {B : Nat} (h : Nds w T v t) (hc : Calm B w w') : Nds w' T v t := by
  obtain ⟨ls, h1, h2, h3⟩ := h
  exact ⟨ls, h1, h2.calm hc, fun i x l a b => Rd.calm (h3 i x l a b) hc⟩
theorem Nds.value (h : Nds w T v t) : ∃ A c, v = .slice A t.length c ∧ t.length ≤ c ∧ c ≤ maxLen := by
  obtain ⟨ls, h1, ⟨_, A, c, hv, h2, h3, _⟩, _⟩ := h
  exact ⟨A, c, hv, h2, h3⟩
/-- Where it has nodes: the block, and each node's cells. -/
theorem Nds.open_ (h : Nds w T v t) (h0 : t ≠ []) : ∃ b off c, v = .slice (some ⟨b, off, none⟩) t.length c ∧ t.length ≤ c ∧ c ≤ maxLen ∧ T b ∧
    ∀ (i : Nat) (x : Node), t[i]? = some x → ∃ l, w.cell? ⟨b, off + i * 5, none⟩ = some (.int .i64 x.kind) ∧ w.cell? ⟨b, off + i * 5 + 1, none⟩ = some (.int .i64 x.n) ∧
      w.cell? ⟨b, off + i * 5 + 2, none⟩ = some (.int .i64 x.size) ∧ w.cell? ⟨b, off + i * 5 + 3, none⟩ = some l ∧ w.cell? ⟨b, off + i * 5 + 4, none⟩ = some (.string x.text) ∧ Pcs w T l x.lead := by
  obtain ⟨ls, h1, ⟨hl, A, c, hv, h2, h3, h4⟩, h5⟩ := h
  have hp : 0 < t.length := List.length_pos_iff.2 h0
  obtain ⟨b, off, rfl, hT, hc⟩ := h4 (by rw [hl]; omega)
  refine ⟨b, off, c, hv, h2, h3, hT, fun i x hx => ?_⟩
  have hi : i < t.length := (List.getElem?_eq_some_iff.1 hx).1
  have hls : ls[i]? = some ls[i] := List.getElem?_eq_getElem (by omega)
  have hz : (t.zip ls)[i]? = some (x, ls[i]) := by
    rw [List.getElem?_zip_eq_some]; exact ⟨hx, hls⟩
  have at_ : ∀ j u, j < 5 → (ndCells x ls[i])[j]? = some u → w.cell? ⟨b, off + i * 5 + j, none⟩ = some u := by
    intro j u hj hu
    have := flat_at (fun x : Node × Value => ndCells x.1 x.2) 5 (fun _ => rfl) (t.zip ls) i j _ hz hj
    rw [Nat.add_assoc]
    exact hc _ u (by unfold allCells; rw [this]; exact hu)
  exact ⟨ls[i], at_ 0 _ (by omega) rfl, at_ 1 _ (by omega) rfl, at_ 2 _ (by omega) rfl, at_ 3 _ (by omega) rfl, at_ 4 _ (by omega) rfl, h5 i x _ hx hls⟩
theorem Pcs.value (h : Pcs w T v ps) : ∃ A c, v = .slice A ps.length c ∧ ps.length ≤ c ∧ c ≤ maxLen := by
  obtain ⟨_, A, c, hv, h2, h3, _⟩ := h
  exact ⟨A, c, hv, h2, h3⟩
theorem Pcs.open_ (h : Pcs w T v ps) (h0 : ps ≠ []) : ∃ b off c, v = .slice (some ⟨b, off, none⟩) ps.length c ∧ ps.length ≤ c ∧ c ≤ maxLen ∧ T b ∧
    ∀ (i : Nat) (x : Piece), ps[i]? = some x → w.cell? ⟨b, off + i * 2, none⟩ = some (.int .i64 x.tok) ∧ w.cell? ⟨b, off + i * 2 + 1, none⟩ = some (.string x.text) := by
  obtain ⟨hl, A, c, hv, h2, h3, h4⟩ := h
  have hp : 0 < ps.length := List.length_pos_iff.2 h0
  obtain ⟨b, off, rfl, hT, hc⟩ := h4 (by rw [hl]; omega)
  refine ⟨b, off, c, hv, h2, h3, hT, fun i x hx => ?_⟩
  have at_ : ∀ j u, j < 2 → (pcCells x)[j]? = some u → w.cell? ⟨b, off + i * 2 + j, none⟩ = some u := by
    intro j u hj hu
    have := flat_at pcCells 2 (fun _ => rfl) ps i j _ hx hj
    rw [Nat.add_assoc]
    exact hc _ u (by rw [this]; exact hu)
  exact ⟨at_ 0 _ (by omega) rfl, at_ 1 _ (by omega) rfl⟩
end

/-- How much is reckoned of a node, and of nodes. -/
def fewOf (x : Node) : Nat := min x.lead.length 1000 + min x.text.size 1000
def fewSum (t : List Node) : Nat := (t.map fewOf).sum
def fewB (t : List Node) : Bool := decide (t.length ≤ 120) && decide (fewSum t ≤ 1500)

theorem Nds.later {w w' : World} {v : Value} {t : List Node} {B : Nat} (h : Nds w (fun k => k < B) v t) (hb : Below B w w') : Nds w' (fun k => k < B) v t := h.below hb (fun _ h => h)

theorem fewSum_succ (t : List Node) (k : Nat) (h : k < t.length) : fewSum (t.take (k + 1)) = fewSum (t.take k) + (min t[k].lead.length 1000 + min t[k].text.size 1000) := by
  unfold fewSum
  rw [List.take_succ_eq_append_getElem h, List.map_append, List.sum_append]
  simp only [List.map_cons, List.map_nil, List.sum_cons, List.sum_nil, Nat.add_zero]
  rfl
theorem fewSum_le (t : List Node) (k : Nat) : fewSum (t.take k) ≤ k * 2000 := by
  unfold fewSum
  have : ∀ l : List Node, (l.map fewOf).sum ≤ l.length * 2000 := by
    intro l
    induction l with
    | nil => simp
    | cons x l ih =>
      simp only [List.map_cons, List.sum_cons, List.length_cons]
      have : fewOf x ≤ 2000 := by unfold fewOf; omega
      omega
  have h1 := this (t.take k)
  have h2 : (t.take k).length ≤ k := List.length_take_le _ _
  exact Nat.le_trans h1 (Nat.mul_le_mul_right _ h2)

theorem min_if (n : Nat) : (if (1000 : Int) < (n : Int) then (1000 : Int) else (n : Int)) = ((min n 1000 : Nat) : Int) := by split <;> omega

set_option maxHeartbeats 1000000 in
theorem few (v : Value) (t : List Node) (w : World) (h : Nds w (Old w) v t) (hm : t.length ≤ 140737488355328) :
    Calls Try.prog 6 #[v] w fun e w' => e = .returned (.bool (fewB t)) ∧ Below w.heap.size w w' := by
  obtain ⟨A, c, rfl, hc1, hc2⟩ := h.value
  unfold maxLen at hc2
  have hn := h.later (Below.refl _ w)
  go_enter Try.func6, Try.ntmps6
  go_wp2
  go_loopw [3, 4] (fun n i wr => ∃ k : Nat, k ≤ t.length ∧ i = .int .i64 k ∧ n = .int .i64 (fewSum (t.take k)) ∧ Nds wr (fun k => k < w.heap.size) (.slice A t.length c) t ∧ Below w.heap.size w wr) (fun _ i _ => t.length - (intOf i).toNat)
  case atStart => exact ⟨0, Nat.zero_le _, rfl, rfl, hn, Below.refl _ _⟩
  case round =>
    clear hn h
    obtain ⟨k, hk, rfl, rfl, h, hb⟩ := hrel
    by_cases hlt : k < t.length
    · obtain ⟨b, off, c', hv, _, _, hT, hat⟩ := h.open_ (by intro e; subst e; simp at hlt)
      simp only [Value.slice.injEq] at hv
      obtain ⟨rfl, _, rfl⟩ := hv
      obtain ⟨l, x0, x1, x2, x3, x4, hp⟩ := hat k _ (List.getElem?_eq_getElem hlt)
      obtain ⟨A', c'', rfl, g1, g2⟩ := hp.value
      unfold maxLen at g2
      have HS := hidden (fewSum_succ t k hlt)
      have hle := fewSum_le t k
      clear hat hp x0 x1 x2
      have y3 := Ext.cell x3; have y4 := Ext.cell x4
      generalize t[k] = x at *
      go_wp2_with fail
      refine wp_region_ext (by kernel_rfl) (by kernel_rfl) ?_
      repeat (go_big_quiet_step (fail))
      refine wpQuiet_nil ?_
      simp only [min_if]
      intro w2 hb2
      clear y3 y4 x3 x4
      replace h := h.later (hb2.mono hb.size)
      replace hb := hb.trans (hb2.mono hb.size)
      go_wp2
      go_roundw
      case rel => exact ⟨k + 1, by omega, by go_num, by rw [HS.out]; go_num, h, hb⟩
      case measure => simp [intOf]; omega
    · obtain rfl : k = t.length := by omega
      rw [List.take_length] at *
      have hle := fewSum_le t t.length
      rw [List.take_length] at hle
      go_wp2
      all_goals (go_ret; exact ⟨ret_bool (by unfold fewB; rw [Bool.eq_iff_iff]; simp <;> omega), hb⟩)
end Go.Proofs.Ytmmhkjdnejeooaa.T

namespace Go.Proofs.Ytmmhkjdnejeooaa.T

def openK (k : Int) : Prop := k = 1 ∨ k = 2
def textedK (k : Int) : Prop := k = 3 ∨ k = 4
instance (k : Int) : Decidable (openK k) := inferInstanceAs (Decidable (_ ∨ _))
instance (k : Int) : Decidable (textedK k) := inferInstanceAs (Decidable (_ ∨ _))

/-- A node by itself is as it must be. -/
def Local (x : Node) : Prop := 1 ≤ x.kind ∧ x.kind ≤ 6 ∧ 1 ≤ x.size ∧ (¬ openK x.kind → x.size = 1) ∧ (¬ textedK x.kind → x.lead = [] ∧ x.text = ⟨#[]⟩)

/-- How many nodes the node at a place and all beneath it are. -/
def sz (t : List Node) (i : Nat) : Nat := match t[i]? with | some x => x.size.toNat | none => 0
/-- The node at m is as it must be, and what lies within its stretch ends there. -/
def Ok (t : List Node) (m : Nat) : Prop := (∃ x, t[m]? = some x ∧ Local x) ∧ ∀ k, m < k → k < m + sz t m → k + sz t k ≤ m + sz t m
/-- The stretch of the node at i is a part of a tree that ends at e. -/
def Good (t : List Node) (i e : Nat) : Prop := 1 ≤ sz t i ∧ i + sz t i ≤ e ∧ ∀ m, i ≤ m → m < i + sz t i → Ok t m ∧ m + sz t m ≤ i + sz t i
/-- Nodes are a tree. -/
def Tree (t : List Node) : Prop := (∃ x : Node, t[0]? = some x ∧ x.size = (t.length : Int)) ∧ Good t 0 t.length

noncomputable def treeB (t : List Node) : Bool := @decide (Tree t) (Classical.propDecidable _)
noncomputable def goodB (t : List Node) (i e : Nat) : Bool := @decide (Good t i e) (Classical.propDecidable _)
theorem treeB_iff {t : List Node} : treeB t = true ↔ Tree t := by unfold treeB; exact @decide_eq_true_iff _ (Classical.propDecidable _)
theorem goodB_iff {t : List Node} {i e : Nat} : goodB t i e = true ↔ Good t i e := by unfold goodB; exact @decide_eq_true_iff _ (Classical.propDecidable _)
theorem treeB_false {t : List Node} (h : ¬ Tree t) : treeB t = false := by rw [Bool.eq_false_iff]; exact fun e => h (treeB_iff.1 e)
theorem goodB_false {t : List Node} {i e : Nat} (h : ¬ Good t i e) : goodB t i e = false := by rw [Bool.eq_false_iff]; exact fun e => h (goodB_iff.1 e)

theorem sz_of {t : List Node} {i : Nat} {x : Node} (h : t[i]? = some x) : sz t i = x.size.toNat := by unfold sz; rw [h]

theorem Good.local {t : List Node} {i e : Nat} {x : Node} (h : Good t i e) (hx : t[i]? = some x) : Local x := by
  obtain ⟨h1, _, h3⟩ := h
  obtain ⟨⟨⟨y, hy, hl⟩, _⟩, _⟩ := h3 i (Nat.le_refl _) (by omega)
  rw [hx] at hy; cases hy; exact hl
/-- Each node within a good stretch has a good one. -/
theorem Good.inner {t : List Node} {i e k : Nat} (h : Good t i e) (h1 : i < k) (h2 : k < i + sz t i) : Good t k (i + sz t i) := by
  obtain ⟨_, _, h3⟩ := h
  obtain ⟨⟨⟨x, hx, hl⟩, ho⟩, hk⟩ := h3 k (by omega) h2
  refine ⟨by rw [sz_of hx]; have := hl.2.2.1; omega, hk, fun m a b => ?_⟩
  obtain ⟨h4, _⟩ := h3 m (by omega) (by omega)
  refine ⟨h4, ?_⟩
  by_cases e : m = k
  · subst e; exact Nat.le_refl _
  · exact ho m (by omega) b
theorem Good.mono {t : List Node} {i e e' : Nat} (h : Good t i e) (he : e ≤ e') : Good t i e' := ⟨h.1, Nat.le_trans h.2.1 he, h.2.2⟩

/-- All the kids before k of the node at i are good. -/
def KidsTo (t : List Node) (i k : Nat) : Prop := ∀ m, i < m → m < k → Ok t m ∧ m + sz t m ≤ i + sz t i
theorem KidsTo.start (t : List Node) (i : Nat) : KidsTo t i (i + 1) := fun m h1 h2 => by omega
theorem KidsTo.next {t : List Node} {i k : Nat} (h : KidsTo t i k) (hg : Good t k (i + sz t i)) : KidsTo t i (k + sz t k) := fun m h1 h2 => by
  by_cases e : m < k
  · exact h m h1 e
  · obtain ⟨a, b⟩ := hg.2.2 m (by omega) h2
    exact ⟨a, by have := hg.2.1; omega⟩
theorem KidsTo.good {t : List Node} {i e : Nat} {x : Node} (hx : t[i]? = some x) (hl : Local x) (he : i + sz t i ≤ e) (h : KidsTo t i (i + sz t i)) : Good t i e := by
  have h1 : 1 ≤ sz t i := by rw [sz_of hx]; have := hl.2.2.1; omega
  refine ⟨h1, he, fun m a b => ?_⟩
  by_cases em : m = i
  · subst em
    exact ⟨⟨⟨x, hx, hl⟩, fun k c d => (h k c d).2⟩, Nat.le_refl _⟩
  · exact h m (by omega) b

theorem Tree.good {t : List Node} (h : Tree t) : Good t 0 t.length := h.2
theorem tree_len {t : List Node} (h : Tree t) : 0 < t.length := by
  obtain ⟨⟨x, hx, _⟩, _⟩ := h
  exact (List.getElem?_eq_some_iff.1 hx).1
theorem tree_sz0 {t : List Node} (h : Tree t) : sz t 0 = t.length := by
  obtain ⟨⟨x, hx, hs⟩, _⟩ := h
  rw [sz_of hx, hs]; simp

/-! ### The same by a walk with a stack of ends. -/
/-- Before node i comes up: the ends that are still open, the innermost first. -/
structure Stack (t : List Node) (i : Nat) (st : List Nat) : Prop where
  ok : ∀ m, m < i → (∃ x, t[m]? = some x ∧ Local x) ∧ m + sz t m ≤ t.length
  lam : ∀ m k, m < k → k < i → k < m + sz t m → k + sz t k ≤ m + sz t m
  has : ∀ m, m < i → i < m + sz t m → m + sz t m ∈ st
  from_ : ∀ e ∈ st, e = t.length ∨ ∃ m, m < i ∧ e = m + sz t m
  sorted : st.Pairwise (· ≤ ·)
  ge : ∀ e ∈ st, i ≤ e
  top : t.length ∈ st

theorem Stack.start (t : List Node) : Stack t 0 [t.length] :=
  ⟨fun m h => by omega, fun m k h1 h2 => by omega, fun m h => by omega, fun e he => by simp at he; exact .inl he, by simp, fun e _ => Nat.zero_le _, by simp⟩
/-- An end that is come to is struck. -/
theorem Stack.pop {t : List Node} {i : Nat} {st : List Nat} (h : Stack t i (i :: st)) (hi : i < t.length) : Stack t i st :=
  ⟨h.ok, h.lam, fun m a b => by
    have := h.has m a b
    rw [List.mem_cons] at this
    rcases this with e | e
    · omega
    · exact e, fun e he => h.from_ e (by simp [he]), (List.pairwise_cons.1 h.sorted).2, fun e he => h.ge e (by simp [he]), by
    have := h.top
    rw [List.mem_cons] at this
    rcases this with e | e
    · omega
    · exact e⟩
/-- The node at i, of which all was found right, is put upon it. -/
theorem Stack.push {t : List Node} {i top : Nat} {st : List Nat} {x : Node} (h : Stack t i (top :: st)) (hne : top ≠ i) (hx : t[i]? = some x) (hl : Local x) (hs : i + sz t i ≤ top) : Stack t (i + 1) ((i + sz t i) :: top :: st) := by
  have h1 : 1 ≤ sz t i := by rw [sz_of hx]; have := hl.2.2.1; omega
  have hgt : ∀ e ∈ top :: st, i < e := by
    intro e he
    have hp := List.pairwise_cons.1 h.sorted
    rw [List.mem_cons] at he
    have := h.ge top (by simp)
    rcases he with rfl | he
    · omega
    · have := hp.1 e he; omega
  have htop : top ≤ t.length := by
    have hp := List.pairwise_cons.1 h.sorted
    have := h.top
    rw [List.mem_cons] at this
    rcases this with e | e
    · omega
    · exact hp.1 _ e
  refine ⟨fun m hm => ?_, fun m k a b c => ?_, fun m a b => ?_, fun e he => ?_, ?_, fun e he => ?_, by simp [h.top]⟩
  · by_cases e : m = i
    · subst e; exact ⟨⟨x, hx, hl⟩, by omega⟩
    · exact h.ok m (by omega)
  · by_cases e : k = i
    · subst e
      have hm := h.has m (by omega) c
      have hp := List.pairwise_cons.1 h.sorted
      rw [List.mem_cons] at hm
      rcases hm with e | e
      · omega
      · have := hp.1 _ e; omega
    · exact h.lam m k a (by omega) c
  · by_cases e : m = i
    · subst e; simp
    · have := h.has m (by omega) (by omega)
      simp only [List.mem_cons] at this ⊢
      exact .inr this
  · rw [List.mem_cons] at he
    rcases he with rfl | he
    · exact .inr ⟨i, by omega, rfl⟩
    · rcases h.from_ e he with h | ⟨m, a, b⟩
      · exact .inl h
      · exact .inr ⟨m, by omega, b⟩
  · refine List.pairwise_cons.2 ⟨fun e he => ?_, h.sorted⟩
    have hp := List.pairwise_cons.1 h.sorted
    rw [List.mem_cons] at he
    rcases he with rfl | he
    · exact hs
    · have := hp.1 e he; omega
  · rw [List.mem_cons] at he
    rcases he with rfl | he
    · omega
    · exact hgt e he
theorem Stack.tree {t : List Node} {st : List Nat} {x : Node} (h : Stack t t.length st) (hx : t[0]? = some x) (hs : x.size = (t.length : Int)) : Tree t := by
  have h0 : sz t 0 = t.length := by rw [sz_of hx, hs]; simp
  have hl : 0 < t.length := (List.getElem?_eq_some_iff.1 hx).1
  refine ⟨⟨x, hx, hs⟩, by omega, by omega, fun m a b => ?_⟩
  have hm := h.ok m (by omega)
  exact ⟨⟨hm.1, fun k c d => h.lam m k c (by have := hm.2; omega) d⟩, by have := hm.2; omega⟩
/-- Where the node at i is found wrong, it is no tree. -/
theorem Stack.wrong {t : List Node} {i top : Nat} {st : List Nat} {x : Node} (h : Stack t i (top :: st)) (hne : top ≠ i) (hx : t[i]? = some x) (hbad : ¬ (Local x ∧ (i : Int) + x.size ≤ top)) : ¬ Tree t := by
  intro ht
  apply hbad
  have hi : i < t.length := (List.getElem?_eq_some_iff.1 hx).1
  have hg := ht.good
  have h0 := tree_sz0 ht
  obtain ⟨⟨⟨y, hy, hl⟩, _⟩, hle⟩ := hg.2.2 i (Nat.zero_le _) (by omega)
  rw [hx] at hy; cases hy
  refine ⟨hl, ?_⟩
  have hs := sz_of hx
  have hp := hl.2.2.1
  have htop := h.ge top (by simp)
  rcases h.from_ top (by simp) with e | ⟨m, a, e⟩
  · omega
  · obtain ⟨⟨_, hlam⟩, _⟩ := hg.2.2 m (Nat.zero_le _) (by omega)
    have := hlam i a (by omega)
    omega
end Go.Proofs.Ytmmhkjdnejeooaa.T

namespace Go.Proofs.Ytmmhkjdnejeooaa.T
open Go.RowKit Go.Shelf

theorem empty_text {s : ByteArray} (h : ¬ s = ⟨#[]⟩) : s.toList.isEmpty = false := by
  rw [Lib.toList_data]
  obtain ⟨⟨l⟩⟩ := s
  cases l with
  | nil => exact absurd rfl h
  | cons a l => rfl

/-- What is known of the node that is looked at. -/
structure NodeAt (w : World) (t : List Node) (i b off : Nat) (kd nn sd : Int) (A : Option Addr) (m c : Nat) (tx : ByteArray) : Prop where
  k0 : w.cell? ⟨b, off + i * 5, none⟩ = some (.int .i64 kd)
  k1 : w.cell? ⟨b, off + i * 5 + 1, none⟩ = some (.int .i64 nn)
  k2 : w.cell? ⟨b, off + i * 5 + 2, none⟩ = some (.int .i64 sd)
  k3 : w.cell? ⟨b, off + i * 5 + 3, none⟩ = some (.slice A m c)
  k4 : w.cell? ⟨b, off + i * 5 + 4, none⟩ = some (.string tx)

theorem good_not {t : List Node} {i e : Nat} {x : Node} (hx : t[i]? = some x) (h : ¬ (Local x ∧ (i : Int) + x.size ≤ e)) : goodB t i e = false := by
  refine goodB_false fun hg => h ⟨hg.local hx, ?_⟩
  have hl := hg.local hx
  have := hg.2.1
  rw [sz_of hx] at this
  have := hl.2.2.1
  omega
theorem good_leaf {t : List Node} {i e : Nat} {x : Node} (hx : t[i]? = some x) (hl : Local x) (he : i < e) (ho : ¬ openK x.kind) : goodB t i e = true := by
  refine goodB_iff.2 (KidsTo.good hx hl ?_ ?_)
  · rw [sz_of hx, hl.2.2.2.1 ho]; simp; omega
  · rw [sz_of hx, hl.2.2.2.1 ho]; exact KidsTo.start t i

set_option maxHeartbeats 4000000 in
/-- A node that may have no kids, or is wrong by itself. -/
theorem ref_node_plain (v : Value) (t : List Node) (i e : Nat) (w : World) (h2 : i < e) (h3 : e ≤ t.length) (h4 : t.length ≤ 140737488355328) (hN : Nds w (Old w) v t) (x : Node) (hx : t[i]? = some x)
    (hc : ¬ (openK x.kind ∧ 1 ≤ x.size ∧ (i : Int) + x.size ≤ e ∧ x.lead = [] ∧ x.text = ⟨#[]⟩)) :
    Calls Try.prog 43 #[v, .int .i64 i, .int .i64 e] w fun r w' => r = .returned (.bool (goodB t i e)) ∧ Below w.heap.size w w' := by
  obtain ⟨b, off, c, rfl, hc1, hc2, hb, hat⟩ := hN.open_ (by intro e; subst e; simp at h3; omega)
  have hlt : i < t.length := by omega
  obtain ⟨l, x0, x1, x2, x3, x4, hp⟩ := hat i _ hx
  obtain ⟨A', c'', rfl, g1, g2⟩ := hp.value
  have hbad := @good_not t i e x hx
  have hleaf := @good_leaf t i e x hx
  unfold maxLen at hc2 g2
  obtain ⟨r, hr⟩ : ∃ r, goodB t i e = r := ⟨_, rfl⟩
  rw [hr] at hbad hleaf ⊢
  clear hat hp hr hx hN
  obtain ⟨kd, nn, sd, ld, tx⟩ := x
  dsimp only at *
  by_cases hk1 : kd < 1
  · obtain rfl := hbad (by unfold Local; dsimp only; omega)
    clear hbad hleaf hc
    go_enter Try.func43, Try.ntmps43
    go_wp2
    go_ret
    exact ⟨rfl, (by repeat (first | (with_reducible exact Below.refl _ _) | (with_reducible assumption) | (with_reducible refine Below.drew ?_) | (with_reducible refine below_drewN ?_ _) | ((with_reducible refine below_alloc ?_ ?_); (focus (first | omega | (simp; done) | (simp; omega)))) | ((with_reducible refine below_set ?_ ?_); (focus (first | omega | (simp; done) | (simp; omega))))))⟩
  by_cases hk6 : 6 < kd
  · obtain rfl := hbad (by unfold Local; dsimp only; omega)
    clear hbad hleaf hc
    go_enter Try.func43, Try.ntmps43
    go_wp2
    go_ret
    exact ⟨rfl, (by repeat (first | (with_reducible exact Below.refl _ _) | (with_reducible assumption) | (with_reducible refine Below.drew ?_) | (with_reducible refine below_drewN ?_ _) | ((with_reducible refine below_alloc ?_ ?_); (focus (first | omega | (simp; done) | (simp; omega)))) | ((with_reducible refine below_set ?_ ?_); (focus (first | omega | (simp; done) | (simp; omega))))))⟩
  by_cases hs1 : sd < 1
  · obtain rfl := hbad (by unfold Local; dsimp only; omega)
    clear hbad hleaf hc
    have q1 : decide (kd < 1) = false := by simp; omega
    have q2 : decide (6 < kd) = false := by simp; omega
    go_enter Try.func43, Try.ntmps43
    go_wp2
    go_ret
    exact ⟨rfl, (by repeat (first | (with_reducible exact Below.refl _ _) | (with_reducible assumption) | (with_reducible refine Below.drew ?_) | (with_reducible refine below_drewN ?_ _) | ((with_reducible refine below_alloc ?_ ?_); (focus (first | omega | (simp; done) | (simp; omega)))) | ((with_reducible refine below_set ?_ ?_); (focus (first | omega | (simp; done) | (simp; omega))))))⟩
  have q1 : decide (kd < 1) = false := by simp; omega
  have q2 : decide (6 < kd) = false := by simp; omega
  have q3 : decide (sd < 1) = false := by simp; omega
  by_cases hse : ¬ (i : Int) + sd ≤ e
  · obtain rfl := hbad (by omega)
    clear hbad hleaf hc
    have q4 : decide ((e : Int) - i < sd) = true := by simp; omega
    go_enter Try.func43, Try.ntmps43
    go_wp2
    go_ret
    exact ⟨rfl, (by repeat (first | (with_reducible exact Below.refl _ _) | (with_reducible assumption) | (with_reducible refine Below.drew ?_) | (with_reducible refine below_drewN ?_ _) | ((with_reducible refine below_alloc ?_ ?_); (focus (first | omega | (simp; done) | (simp; omega)))) | ((with_reducible refine below_set ?_ ?_); (focus (first | omega | (simp; done) | (simp; omega))))))⟩
  have q4 : decide ((e : Int) - i < sd) = false := by simp; omega
  obtain rfl | rfl | hk : kd = 3 ∨ kd = 4 ∨ (kd = 5 ∨ kd = 6 ∨ kd = 1 ∨ kd = 2) := by omega
  · by_cases h1 : sd = 1
    · subst h1
      obtain rfl := hleaf (by unfold Local openK textedK; dsimp only; refine ⟨?_, ?_, ?_, ?_, ?_⟩ <;> simp) h2 (by unfold openK; omega)
      clear hbad hc
      go_enter Try.func43, Try.ntmps43
      go_wp2
      go_ret
      exact ⟨rfl, (by repeat (first | (with_reducible exact Below.refl _ _) | (with_reducible assumption) | (with_reducible refine Below.drew ?_) | (with_reducible refine below_drewN ?_ _) | ((with_reducible refine below_alloc ?_ ?_); (focus (first | omega | (simp; done) | (simp; omega)))) | ((with_reducible refine below_set ?_ ?_); (focus (first | omega | (simp; done) | (simp; omega))))))⟩
    · obtain rfl := hbad (by unfold Local openK; dsimp only; intro hh; exact h1 (hh.1.2.2.2.1 (by omega)))
      have q5 : (sd == 1) = false := by simpa using h1
      clear hbad hleaf hc
      go_enter Try.func43, Try.ntmps43
      go_wp2
      go_ret
      exact ⟨rfl, (by repeat (first | (with_reducible exact Below.refl _ _) | (with_reducible assumption) | (with_reducible refine Below.drew ?_) | (with_reducible refine below_drewN ?_ _) | ((with_reducible refine below_alloc ?_ ?_); (focus (first | omega | (simp; done) | (simp; omega)))) | ((with_reducible refine below_set ?_ ?_); (focus (first | omega | (simp; done) | (simp; omega))))))⟩
  · by_cases h1 : sd = 1
    · subst h1
      obtain rfl := hleaf (by unfold Local openK textedK; dsimp only; refine ⟨?_, ?_, ?_, ?_, ?_⟩ <;> simp) h2 (by unfold openK; omega)
      clear hbad hc
      go_enter Try.func43, Try.ntmps43
      go_wp2
      go_ret
      exact ⟨rfl, (by repeat (first | (with_reducible exact Below.refl _ _) | (with_reducible assumption) | (with_reducible refine Below.drew ?_) | (with_reducible refine below_drewN ?_ _) | ((with_reducible refine below_alloc ?_ ?_); (focus (first | omega | (simp; done) | (simp; omega)))) | ((with_reducible refine below_set ?_ ?_); (focus (first | omega | (simp; done) | (simp; omega))))))⟩
    · obtain rfl := hbad (by unfold Local openK; dsimp only; intro hh; exact h1 (hh.1.2.2.2.1 (by omega)))
      have q5 : (sd == 1) = false := by simpa using h1
      clear hbad hleaf hc
      go_enter Try.func43, Try.ntmps43
      go_wp2
      go_ret
      exact ⟨rfl, (by repeat (first | (with_reducible exact Below.refl _ _) | (with_reducible assumption) | (with_reducible refine Below.drew ?_) | (with_reducible refine below_drewN ?_ _) | ((with_reducible refine below_alloc ?_ ?_); (focus (first | omega | (simp; done) | (simp; omega)))) | ((with_reducible refine below_set ?_ ?_); (focus (first | omega | (simp; done) | (simp; omega))))))⟩
  · have q5 : (kd == 3) = false := by rw [beq_eq_false_iff_ne]; omega
    have q6 : (kd == 4) = false := by rw [beq_eq_false_iff_ne]; omega
    cases ld with
    | cons p0 ld =>
      obtain rfl := hbad (by unfold Local textedK; dsimp only; intro hh; exact absurd (hh.1.2.2.2.2 (by omega)).1 (by simp))
      clear hbad hleaf hc hk
      go_enter Try.func43, Try.ntmps43
      go_wp2
      go_ret
      exact ⟨rfl, (by repeat (first | (with_reducible exact Below.refl _ _) | (with_reducible assumption) | (with_reducible refine Below.drew ?_) | (with_reducible refine below_drewN ?_ _) | ((with_reducible refine below_alloc ?_ ?_); (focus (first | omega | (simp; done) | (simp; omega)))) | ((with_reducible refine below_set ?_ ?_); (focus (first | omega | (simp; done) | (simp; omega))))))⟩
    | nil =>
      by_cases htx : tx = ⟨#[]⟩
      · subst htx
        obtain rfl | rfl | hk : kd = 5 ∨ kd = 6 ∨ (kd = 1 ∨ kd = 2) := by omega
        · by_cases h1 : sd = 1
          · subst h1
            obtain rfl := hleaf (by unfold Local openK textedK; dsimp only; refine ⟨?_, ?_, ?_, ?_, ?_⟩ <;> simp) h2 (by unfold openK; omega)
            clear hbad hc
            go_enter Try.func43, Try.ntmps43
            go_wp2
            go_ret
            exact ⟨rfl, (by repeat (first | (with_reducible exact Below.refl _ _) | (with_reducible assumption) | (with_reducible refine Below.drew ?_) | (with_reducible refine below_drewN ?_ _) | ((with_reducible refine below_alloc ?_ ?_); (focus (first | omega | (simp; done) | (simp; omega)))) | ((with_reducible refine below_set ?_ ?_); (focus (first | omega | (simp; done) | (simp; omega))))))⟩
          · obtain rfl := hbad (by unfold Local openK; dsimp only; intro hh; exact h1 (hh.1.2.2.2.1 (by omega)))
            have q7 : (sd == 1) = false := by simpa using h1
            clear hbad hleaf hc
            go_enter Try.func43, Try.ntmps43
            go_wp2
            go_ret
            exact ⟨rfl, (by repeat (first | (with_reducible exact Below.refl _ _) | (with_reducible assumption) | (with_reducible refine Below.drew ?_) | (with_reducible refine below_drewN ?_ _) | ((with_reducible refine below_alloc ?_ ?_); (focus (first | omega | (simp; done) | (simp; omega)))) | ((with_reducible refine below_set ?_ ?_); (focus (first | omega | (simp; done) | (simp; omega))))))⟩
        · by_cases h1 : sd = 1
          · subst h1
            obtain rfl := hleaf (by unfold Local openK textedK; dsimp only; refine ⟨?_, ?_, ?_, ?_, ?_⟩ <;> simp) h2 (by unfold openK; omega)
            clear hbad hc
            go_enter Try.func43, Try.ntmps43
            go_wp2
            go_ret
            exact ⟨rfl, (by repeat (first | (with_reducible exact Below.refl _ _) | (with_reducible assumption) | (with_reducible refine Below.drew ?_) | (with_reducible refine below_drewN ?_ _) | ((with_reducible refine below_alloc ?_ ?_); (focus (first | omega | (simp; done) | (simp; omega)))) | ((with_reducible refine below_set ?_ ?_); (focus (first | omega | (simp; done) | (simp; omega))))))⟩
          · obtain rfl := hbad (by unfold Local openK; dsimp only; intro hh; exact h1 (hh.1.2.2.2.1 (by omega)))
            have q7 : (sd == 1) = false := by simpa using h1
            clear hbad hleaf hc
            go_enter Try.func43, Try.ntmps43
            go_wp2
            go_ret
            exact ⟨rfl, (by repeat (first | (with_reducible exact Below.refl _ _) | (with_reducible assumption) | (with_reducible refine Below.drew ?_) | (with_reducible refine below_drewN ?_ _) | ((with_reducible refine below_alloc ?_ ?_); (focus (first | omega | (simp; done) | (simp; omega)))) | ((with_reducible refine below_set ?_ ?_); (focus (first | omega | (simp; done) | (simp; omega))))))⟩
        · exact absurd ⟨hk, by omega, by omega, rfl, rfl⟩ hc
      · obtain rfl := hbad (by unfold Local textedK; dsimp only; intro hh; exact htx (hh.1.2.2.2.2 (by omega)).2)
        have q8 := empty_text htx
        clear hbad hleaf hc hk htx
        go_enter Try.func43, Try.ntmps43
        go_wp2
        go_ret
        exact ⟨rfl, (by repeat (first | (with_reducible exact Below.refl _ _) | (with_reducible assumption) | (with_reducible refine Below.drew ?_) | (with_reducible refine below_drewN ?_ _) | ((with_reducible refine below_alloc ?_ ?_); (focus (first | omega | (simp; done) | (simp; omega)))) | ((with_reducible refine below_set ?_ ?_); (focus (first | omega | (simp; done) | (simp; omega))))))⟩
end Go.Proofs.Ytmmhkjdnejeooaa.T

namespace Go.Proofs.Ytmmhkjdnejeooaa.T
open Go.RowKit Go.Shelf

theorem Nds.old {w w' : World} {v : Value} {t : List Node} (h : Nds w (Old w) v t) (hb : Below w.heap.size w w') : Nds w' (Old w') v t :=
  (h.below hb (fun _ h => h)).mono (fun _ hk => Nat.lt_of_lt_of_le hk hb.size)

/-- What is read of the next kid that was found good. -/
theorem kid_step {t : List Node} {i k S : Nat} (hs : sz t i = S) (h2 : k < i + S) (hl : i + S ≤ t.length) (hg : goodB t k (i + S) = true) {w : World} {b off c : Nat} {T : Nat → Prop}
    (hN : Nds w T (.slice (some ⟨b, off, none⟩) t.length c) t) : ∃ z : Nat, w.cell? ⟨b, off + k * 5 + 2, none⟩ = some (.int .i64 z) ∧ 1 ≤ z ∧ k + z ≤ i + S ∧ (Hid (KidsTo t i k) → Hid (KidsTo t i (k + z))) := by
  have hg := goodB_iff.1 hg
  have hx := List.getElem?_eq_getElem (show k < t.length by omega)
  have hloc := hg.local hx
  obtain ⟨b', off', c', hv, _, _, _, hat⟩ := hN.open_ (by intro e; subst e; simp at hl; omega)
  simp only [Value.slice.injEq, Option.some.injEq, Addr.mk.injEq] at hv
  obtain ⟨⟨rfl, rfl, _⟩, _, rfl⟩ := hv
  obtain ⟨l, x0, x1, x2, _⟩ := hat k _ hx
  obtain ⟨z, hz⟩ := Int.eq_ofNat_of_zero_le (show 0 ≤ t[k].size by have := hloc.2.2.1; omega)
  have hzz : sz t k = z := by rw [sz_of hx, hz]; simp
  refine ⟨z, by rw [x2, hz], by have := hloc.2.2.1; omega, by have := hg.2.1; omega, fun h => hidden ?_⟩
  rw [← hzz]
  exact h.out.next (by rw [hs]; exact hg)

set_option maxHeartbeats 4000000 in
theorem ref_node_any (f : Nat) : ∀ (v : Value) (t : List Node) (i e : Nat) (w : World), e - i ≤ f → i < e → e ≤ t.length → t.length ≤ 140737488355328 → Nds w (Old w) v t →
    Calls Try.prog 43 #[v, .int .i64 i, .int .i64 e] w fun r w' => r = .returned (.bool (goodB t i e)) ∧ Below w.heap.size w w' := by
  induction f with
  | zero => intro v t i e w h1 h2; omega
  | succ f ih =>
    intro v t i e w h1 h2 h3 h4 hN
    have hlt : i < t.length := by omega
    have hx := List.getElem?_eq_getElem hlt
    generalize t[i] = x at hx
    refine (Decidable.em (openK x.kind ∧ 1 ≤ x.size ∧ (i : Int) + x.size ≤ e ∧ x.lead = [] ∧ x.text = ⟨#[]⟩)).elim (fun hc => ?_) (fun hc => ref_node_plain v t i e w h2 h3 h4 hN x hx hc)
    obtain ⟨b, off, c, rfl, hc1, hc2, hb, hat⟩ := hN.open_ (by intro e; subst e; simp at h3; omega)
    obtain ⟨l, x0, x1, x2, x3, x4, hp⟩ := hat i _ hx
    obtain ⟨A', c'', rfl, g1, g2⟩ := hp.value
    unfold maxLen at hc2 g2
    have hsz := sz_of hx
    have hloc : openK x.kind → 1 ≤ x.size → x.lead = [] → x.text = ⟨#[]⟩ → Local x := fun h1 h2 h3 h4 => ⟨by unfold openK at h1; omega, by unfold openK at h1; omega, h2, fun h => absurd h1 h, fun _ => ⟨h3, h4⟩⟩
    obtain ⟨kd, nn, sd, ld, tx⟩ := x
    dsimp only at *
    obtain ⟨hk, hs1, hse, rfl, rfl⟩ := hc
    have hL := hloc hk hs1 rfl rfl
    obtain ⟨S, rfl⟩ := Int.eq_ofNat_of_zero_le (show 0 ≤ sd by omega)
    simp only [Int.toNat_natCast] at hsz
    have HG : Hid (KidsTo t i (i + S) → goodB t i e = true) := hidden (fun h => goodB_iff.2 (KidsTo.good hx hL (by rw [hsz]; omega) (by rw [hsz]; exact h)))
    have HB : Hid (∀ k, i < k → k < i + S → goodB t k (i + S) = false → goodB t i e = false) := hidden (fun k a b hf => goodB_false (fun hg => by
      have := hg.inner a (by rw [hsz]; exact b)
      rw [hsz] at this
      rw [goodB_iff.2 this] at hf
      cases hf))
    have HS := hidden hsz
    have IH := hidden ih
    have HN := hidden hN
    obtain ⟨r, hr⟩ : ∃ r, goodB t i e = r := ⟨_, rfl⟩
    rw [hr] at HG HB ⊢
    clear hr ih hat hp hloc hL hsz hN hx
    have hkd : kd = 1 ∨ kd = 2 := hk
    have q1 : decide (kd < 1) = false := by simp; omega
    have q2 : decide (6 < kd) = false := by simp; omega
    have q5 : (kd == 3) = false := by rw [beq_eq_false_iff_ne]; omega
    have q6 : (kd == 4) = false := by rw [beq_eq_false_iff_ne]; omega
    have q7 : (kd != 1 && kd != 2) = false := by rcases hkd with rfl | rfl <;> rfl
    clear hk
    simp only [List.length_nil] at x3 g1
    obtain ⟨KD, hKD⟩ : ∃ K : Int, K = kd := ⟨_, rfl⟩
    rcases hkd with rfl | rfl
    all_goals
      go_enter Try.func43, Try.ntmps43
      go_wp2
      go_loopw [8] (fun kk wr => ∃ k : Nat, i < k ∧ k ≤ i + S ∧ kk = .int .i64 k ∧ Holds wr w.heap.size 37 #[.int .i64 KD, .int .i64 nn, .int .i64 S, .slice A' 0 c'', .string ⟨#[]⟩] ∧ Below w.heap.size w wr ∧ Hid (KidsTo t i k))
        (fun kk _ => i + S - (intOf kk).toNat)
      case atStart => exact ⟨i + 1, by omega, by omega, by go_num, by rw [hKD]; exact Holds.new w _ _, (by repeat (first | (with_reducible exact Below.refl _ _) | (with_reducible assumption) | (with_reducible refine Below.drew ?_) | (with_reducible refine below_drewN ?_ _) | ((with_reducible refine below_alloc ?_ ?_); (focus (first | omega | (simp; done) | (simp; omega)))) | ((with_reducible refine below_set ?_ ?_); (focus (first | omega | (simp; done) | (simp; omega)))))), hidden (KidsTo.start t i)⟩
      case round =>
        clear x0 x1 x2 x3 x4 hKD
        obtain ⟨k, hk1, hk2, rfl, q0, hb, HK⟩ := hrel
        have hbz := hb.size
        have n2 : wr.cell? ⟨w.heap.size, 2, none⟩ = some (.int .i64 S) := q0.cell 2
        have l0 := q0.lt
        by_cases hlt : k < i + S
        · have HI := hidden (IH.out _ t k (i + S) wr (by omega) hlt (by omega) h4 (HN.out.old hb))
          have HY := hidden (fun hg w' (hw : Below w.heap.size w w') => kid_step HS.out hlt (show i + S ≤ t.length by omega) hg (HN.out.old hw))
          have HZ := hidden (HB.out k hk1 hlt)
          obtain ⟨B, hB⟩ : ∃ B, goodB t k (i + S) = B := ⟨_, rfl⟩
          rw [hB] at HI HY HZ
          rw [Int.natCast_add] at HI
          clear hB IH HN HB HG HS
          go_wp2_with fail
          refine (HI.out).mono ?_
          rintro r2 w2 ⟨rfl, hb2⟩
          replace hb := hb.trans (hb2.mono hb.size)
          replace q0 := q0.below hb2 q0.lt
          have n2 : w2.cell? ⟨w.heap.size, 2, none⟩ = some (.int .i64 S) := q0.cell 2
          cases B with
          | false =>
            obtain rfl := HZ.out rfl
            clear HI HY HZ
            go_wp2
            go_ret
            exact ⟨rfl, hb⟩
          | true =>
            obtain ⟨z, y2, z1, z2, HK2⟩ := HY.out rfl w2 hb
            have HQ := HK2 HK
            clear HI HY HZ HK HK2
            go_wp2
            go_roundw
            case rel =>
              iterate 23 apply Exists.intro
              refine And.intro ?_ rfl
              exact ⟨k + z, by omega, z2, by go_num, q0, hb, HQ⟩
            case measure => simp [intOf]; omega
        · obtain rfl : k = i + S := by omega
          obtain rfl := HG.out HK.out
          clear IH HN HB HG HS HK
          go_wp2
          go_ret
          exact ⟨rfl, hb⟩
end Go.Proofs.Ytmmhkjdnejeooaa.T

namespace Go.Proofs.Ytmmhkjdnejeooaa.T
open Go.RowKit Go.Shelf

theorem tree_not_nil {t : List Node} (h : t.length = 0) : treeB t = false := treeB_false fun ht => by have := tree_len ht; omega
theorem tree_not_size {t : List Node} {x : Node} (hx : t[0]? = some x) (h : x.size ≠ t.length) : treeB t = false := treeB_false fun ht => by
  obtain ⟨y, hy, hs⟩ := ht.1
  rw [hx] at hy; cases hy; exact h hs
theorem tree_good {t : List Node} {x : Node} (hx : t[0]? = some x) (h : x.size = t.length) : goodB t 0 t.length = treeB t := by
  unfold goodB treeB
  congr 1
  exact propext ⟨fun hg => ⟨⟨x, hx, h⟩, hg⟩, fun h => h.2⟩

set_option maxHeartbeats 4000000 in
theorem ref_right (v : Value) (t : List Node) (w : World) (h4 : t.length ≤ 140737488355328) (hN : Nds w (Old w) v t) :
    Calls Try.prog 28 #[v] w fun r w' => r = .returned (.bool (treeB t)) ∧ Below w.heap.size w w' := by
  by_cases h0 : t = []
  · obtain ⟨A, c, rfl, hc1, hc2⟩ := hN.value
    unfold maxLen at hc2
    rw [tree_not_nil (by rw [h0]; rfl)]
    subst h0
    simp only [List.length_nil] at *
    clear hN
    go_enter Try.func28, Try.ntmps28
    go_wp2
    go_ret
    exact ⟨rfl, (by repeat (first | (with_reducible exact Below.refl _ _) | (with_reducible assumption) | (with_reducible refine Below.drew ?_) | (with_reducible refine below_drewN ?_ _) | ((with_reducible refine below_alloc ?_ ?_); (focus (first | omega | (simp; done) | (simp; omega)))) | ((with_reducible refine below_set ?_ ?_); (focus (first | omega | (simp; done) | (simp; omega))))))⟩
  · have hp : 0 < t.length := List.length_pos_iff.2 h0
    have HR := hidden (ref_node_any t.length v t 0 t.length w (by omega) hp (Nat.le_refl _) h4 hN)
    obtain ⟨b, off, c, rfl, hc1, hc2, hb, hat⟩ := hN.open_ h0
    have hx := List.getElem?_eq_getElem hp
    obtain ⟨l, x0, x1, x2, x3, x4, hpc⟩ := hat 0 _ hx
    simp only [Nat.zero_mul, Nat.add_zero] at x0 x1 x2 x3 x4
    unfold maxLen at hc2
    generalize t[0] = x at *
    by_cases hs : x.size = t.length
    · rw [tree_good hx hs] at HR
      obtain ⟨r, hr⟩ : ∃ r, treeB t = r := ⟨_, rfl⟩
      rw [hr] at HR ⊢
      rw [hs] at x2
      clear hr hat hpc hx hN x0 x1 x3 x4 hs
      go_enter Try.func28, Try.ntmps28
      go_wp2_with fail
      refine (HR.out).mono ?_
      rintro r2 w2 ⟨rfl, hb2⟩
      go_wp2
      go_ret
      exact ⟨rfl, hb2⟩
    · rw [tree_not_size hx hs]
      have q1 : (x.size == (t.length : Int)) = false := by simpa using hs
      clear hat hpc hx hN x0 x1 x3 x4 hs HR
      go_enter Try.func28, Try.ntmps28
      go_wp2
      go_ret
      exact ⟨rfl, (by repeat (first | (with_reducible exact Below.refl _ _) | (with_reducible assumption) | (with_reducible refine Below.drew ?_) | (with_reducible refine below_drewN ?_ _) | ((with_reducible refine below_alloc ?_ ?_); (focus (first | omega | (simp; done) | (simp; omega)))) | ((with_reducible refine below_set ?_ ?_); (focus (first | omega | (simp; done) | (simp; omega))))))⟩
end Go.Proofs.Ytmmhkjdnejeooaa.T

namespace Go.Proofs.Ytmmhkjdnejeooaa.T
open Go.RowKit Go.Shelf

theorem _root_.Go.Proofs.Ytmmhkjdnejeooaa.Mine.open_ {w : World} {base : Nat} {e : TypeId} {size n : Nat} {v : Value} {xs : List Value} (h : Mine w base e size v n xs) (hn : 0 < n) :
    ∃ g cap, v = .slice (some ⟨g, 0, none⟩) n cap ∧ n ≤ cap ∧ cap ≤ maxLen ∧ base ≤ g ∧ g < w.heap.size ∧ (∀ j u, xs[j]? = some u → w.cell? ⟨g, j, none⟩ = some u) := by
  have ho := h.own hn
  rcases ho.2 with ⟨_, h0⟩ | ⟨g, cap, cur, rfl, hb, hg, h1, h2, h3, h4⟩
  · omega
  · refine ⟨g, cap, rfl, h1, h2, hb, (Array.getElem?_eq_some_iff.1 hg).1, fun j u hu => ?_⟩
    have := ho.cells (g := g) rfl j u hu
    rwa [addr_add, Nat.zero_add] at this
theorem _root_.Go.Proofs.Ytmmhkjdnejeooaa.Mine.pop {w : World} {base : Nat} {e : TypeId} {g cap n : Nat} {xs : List Value} {last : Value} (hx : xs.length = n) (h : Mine w base e 1 (.slice (some ⟨g, 0, none⟩) (n + 1) cap) (n + 1) (xs ++ [last])) :
    Mine w base e 1 (.slice (some ⟨g, 0, none⟩) n cap) n xs := .inl (ownsRow_pop (by rw [hx, Nat.mul_one]) (h.own (by omega)))

theorem _root_.Go.Proofs.Ytmmhkjdnejeooaa.Mine.made (w : World) (e : TypeId) (size n : Nat) (cs : List Value) (hl : cs.length = n * size) (hn : n ≤ maxLen) : Mine (w.alloc (.cells cs.toArray e)) w.heap.size e size (.slice (some ⟨w.heap.size, 0, none⟩) n n) n cs :=
  .inl ⟨hl, .inr ⟨w.heap.size, n, cs.toArray, rfl, Nat.le_refl _, Holds.new w e _, Nat.le_refl _, hn, by simp [hl], by rw [← hl]; simp⟩⟩
def lenV : Value → Nat
  | .slice _ n _ => n
  | _ => 0

/-- Numbers as they lie. -/
def ints (l : List Nat) : List Value := l.map fun (e : Nat) => .int .i64 (e : Int)
theorem ints_cons_rev (top : Nat) (st : List Nat) : ints (top :: st).reverse = ints st.reverse ++ [.int .i64 top] := by simp [ints]
theorem ints_len (l : List Nat) : (ints l).length = l.length := by simp [ints]
theorem ints_one (l : List Nat) : ∀ u ∈ ints l, u.oneCell' = true := by
  intro u hu
  simp only [ints, List.mem_map] at hu
  obtain ⟨e, _, rfl⟩ := hu
  rfl

theorem stack_some {t : List Node} {i : Nat} {st : List Nat} (h : Stack t i st) : ∃ top s, st = top :: s := by
  cases st with
  | nil => have := h.top; simp at this
  | cons a s => exact ⟨a, s, rfl⟩

theorem stack_bounds {t : List Node} {i top : Nat} {st : List Nat} (h : Stack t i (top :: st)) : i ≤ top ∧ top ≤ t.length := by
  refine ⟨h.ge top (by simp), ?_⟩
  have hp := List.pairwise_cons.1 h.sorted
  have := h.top
  rw [List.mem_cons] at this
  rcases this with e | e
  · omega
  · exact hp.1 _ e

theorem empty_text_iff (s : ByteArray) : s.toList.isEmpty = true ↔ s = ⟨#[]⟩ := by
  constructor
  · intro h
    refine Decidable.byContradiction fun hn => ?_
    rw [empty_text hn] at h
    cases h
  · rintro rfl; rw [Lib.toList_data]; rfl
theorem local_bits (kd nn sd : Int) (ld : List Piece) (tx : ByteArray) {O X TE : Bool} {LN : Nat} (hO : decide (openK kd) = O) (hX : decide (textedK kd) = X) (hTE : tx.toList.isEmpty = TE) (hLN : ld.length = LN) :
    Local ⟨kd, nn, sd, ld, tx⟩ ↔ 1 ≤ kd ∧ kd ≤ 6 ∧ 1 ≤ sd ∧ (O = true ∨ sd = 1) ∧ (X = true ∨ (LN = 0 ∧ TE = true)) := by
  subst hO hX hTE hLN
  unfold Local
  dsimp only
  rw [empty_text_iff, List.length_eq_zero_iff, decide_eq_true_iff, decide_eq_true_iff, Decidable.imp_iff_or_not, Decidable.imp_iff_or_not, Decidable.not_not, Decidable.not_not, or_comm, or_comm (a := ld = [] ∧ _)]

/-- What is known of the type of whole numbers. -/
def IntInfo (P : Program) (e : TypeId) : Prop := ∃ i, P.info? e = some i ∧ i.zero = some (.int .i64 0) ∧ i.size = 1 ∧ i.bytes = 8
/-- One number is put behind the call's own. -/
theorem wpList_append_int {P : Program} {w W0 : World} {ops : Array Oper} {rest : List Oper} {o : Oper} {a : Act} {Q : Exit → Act → World → Prop} (hgd : o.guard = none) (s x : Operand) (t e : TypeId) (e' : TypeId)
    (ho : o.op = .call { callee := .builtin .append, args := #[s, x], argTypes := #[t, t] }) (ht : P.underlying t = some (.slice e)) (HI : Hid (IntInfo P e)) (base : Nat) (v : Value) (n : Nat) (xs : List Value) (HM : Hid (Mine W0 base e 1 v n xs))
    (u : Int) (hw : w = W0.alloc (.cells #[.int .i64 u] e')) (hs : a.eval s = v) {g : Nat} (hx : a.eval x = .slice (some ⟨g, 0, none⟩) 1 1) (hg : g = W0.heap.size) (hn : n ≤ 1000000000000) (hb : base ≤ W0.heap.size)
    (h : ∀ v' w', Hid (Appended w base e 1 v (n + 1) (xs ++ [.int .i64 u]) v' w') → wpList P ops Q rest (a.put o.dst v') w') : wpList P ops Q (o :: rest) a w := by
  obtain ⟨i, hi, hz, hsz, hby⟩ := HI.out
  subst hw hg
  refine wpList_append_rd hgd s x t ho base e i (.int .i64 0) 1 8 ht hi hz hsz hby rfl (by decide) v n xs hs (HM.out.alloc _) (T := fun _ => True) _ 1 [.int .i64 u] hx ?_ ?_ (by omega) (by decide) (Nat.le_trans hb (by simp)) (fun v' w' hA => h v' w' (hidden hA))
  · exact Rd.fresh (cs := [.int .i64 u]) (n := 1) (size := 1) rfl (Nat.le_refl _) (by decide) trivial rfl
  · intro u hu; simp at hu; subst hu; rfl

theorem arena_open (kd : Int) (w : World) : Calls Try.prog 40 #[.int .i64 kd] w fun r w' => r = .returned (.bool (decide (openK kd))) ∧ w = w' := by
  go_enter Try.func40, Try.ntmps40
  go_wp2
  all_goals
    go_ret
    exact ⟨ret_bool (by rw [Bool.eq_iff_iff]; simp [openK, *]), rfl⟩
theorem arena_texted (kd : Int) (w : World) : Calls Try.prog 41 #[.int .i64 kd] w fun r w' => r = .returned (.bool (decide (textedK kd))) ∧ w = w' := by
  go_enter Try.func41, Try.ntmps41
  go_wp2
  all_goals
    go_ret
    exact ⟨ret_bool (by rw [Bool.eq_iff_iff]; simp [textedK, *]), rfl⟩
end Go.Proofs.Ytmmhkjdnejeooaa.T

namespace Go.Proofs.Ytmmhkjdnejeooaa.T
open Go.RowKit Go.Shelf

set_option maxRecDepth 20000 in
set_option maxHeartbeats 8000000 in
theorem arena_right (v : Value) (t : List Node) (w : World) (h4 : t.length ≤ 140737488355) (hN : Nds w (Old w) v t) :
    Calls Try.prog 25 #[v] w fun r w' => r = .returned (.bool (treeB t)) ∧ Below w.heap.size w w' := by
  by_cases h0 : t = []
  · obtain ⟨A, c, rfl, hc1, hc2⟩ := hN.value
    unfold maxLen at hc2
    rw [tree_not_nil (by rw [h0]; rfl)]
    subst h0
    simp only [List.length_nil] at *
    clear hN
    go_enter Try.func25, Try.ntmps25
    go_wp2
    go_ret
    exact ⟨rfl, (by repeat (first | (with_reducible exact Below.refl _ _) | (with_reducible assumption) | (with_reducible refine Below.drew ?_) | (with_reducible refine below_drewN ?_ _) | ((with_reducible refine below_alloc ?_ ?_); (focus (first | omega | (simp; done) | (simp; omega)))) | ((with_reducible refine below_set ?_ ?_); (focus (first | omega | (simp; done) | (simp; omega))))))⟩
  · have hp : 0 < t.length := List.length_pos_iff.2 h0
    have HN := hidden hN
    obtain ⟨b, off, c, rfl, hc1, hc2, hb, hat⟩ := hN.open_ h0
    have hx := List.getElem?_eq_getElem hp
    obtain ⟨l, x0, x1, x2, x3, x4, hpc⟩ := hat 0 _ hx
    simp only [Nat.zero_mul, Nat.add_zero] at x0 x1 x2 x3 x4
    unfold maxLen at hc2
    generalize t[0] = x at *
    by_cases hs : x.size = t.length
    · obtain ⟨r, hr⟩ : ∃ r, treeB t = r := ⟨_, rfl⟩
      have HG : Hid (∀ st, Hid (Stack t t.length st) → r = true) := hidden fun st h => by rw [← hr]; exact treeB_iff.2 (h.out.tree hx hs)
      have HB : Hid (∀ i top st x, Hid (Stack t i (top :: st)) → top ≠ i → t[i]? = some x → ¬ (Local x ∧ (i : Int) + x.size ≤ top) → r = false) := hidden fun i top st x h h1 h2 h3 => by rw [← hr]; exact treeB_false (h.out.wrong h1 h2 h3)
      rw [hr]
      rw [hs] at x2
      clear hr hat hpc hx hN x0 x1 x3 x4 hs
      have q9 : ((t.length : Int) == 0) = false := by rw [beq_eq_false_iff_ne]; omega
      have HI : Hid (IntInfo Try.prog 3) := hidden (info_parts (show (Try.prog.info? 3).map (fun i => (i.zero, i.size, i.bytes)) = some (some (.int .i64 0), 1, 8) by kernel_rfl))
      go_enter Try.func25, Try.ntmps25
      go_wp2
      go_loopw [3, 24] (fun en ii wr => ∃ (k : Nat) (st : List Nat), k ≤ t.length ∧ ii = .int .i64 k ∧ st.length ≤ k + 1 ∧ Hid (Stack t k st) ∧ Mine wr w.heap.size 3 1 en st.length (ints st.reverse) ∧ Below w.heap.size w wr)
        (fun _ ii _ => t.length - (intOf ii).toNat)
      case atStart => 
        exact ⟨0, [t.length], by omega, rfl, by simp, hidden (Stack.start t), Mine.made w _ 1 1 _ rfl (by decide), (by repeat (first | (with_reducible exact Below.refl _ _) | (with_reducible assumption) | (with_reducible refine Below.drew ?_) | (with_reducible refine below_drewN ?_ _) | ((with_reducible refine below_alloc ?_ ?_); (focus (first | omega | (simp; done) | (simp; omega)))) | ((with_reducible refine below_set ?_ ?_); (focus (first | omega | (simp; done) | (simp; omega))))))⟩
      case round =>
        obtain ⟨k, st, hk, rfl, hst, HS, HM, hb⟩ := hrel
        have hbz := hb.size
        clear x2
        by_cases hlt : k < t.length
        · obtain ⟨b', off', c', hv, _, _, _, hat⟩ := (HN.out.below hb (fun _ h => h)).open_ h0
          simp only [Value.slice.injEq, Option.some.injEq, Addr.mk.injEq] at hv
          obtain ⟨⟨rfl, rfl, _⟩, _, rfl⟩ := hv
          have HX := hidden (List.getElem?_eq_getElem hlt)
          obtain ⟨l, x0, x1, x2, x3, x4, hpc⟩ := hat k _ HX.out
          obtain ⟨A', c'', rfl, g1, g2⟩ := hpc.value
          unfold maxLen at g2
          clear hat hpc
          generalize t[k] = x at *
          obtain ⟨kd, nn, sd, ld, tx⟩ := x
          dsimp only at *
          obtain ⟨LN, hLN⟩ : ∃ n, ld.length = n := ⟨_, rfl⟩
          rw [hLN] at x3 g1
          obtain ⟨TE, hTE⟩ : ∃ TE, tx.toList.isEmpty = TE := ⟨_, rfl⟩
          obtain ⟨O, hO⟩ : ∃ O, decide (openK kd) = O := ⟨_, rfl⟩
          obtain ⟨X, hX⟩ : ∃ X, decide (textedK kd) = X := ⟨_, rfl⟩
          have HO := hidden (fun w => arena_open kd w)
          have HT := hidden (fun w => arena_texted kd w)
          rw [hO] at HO
          rw [hX] at HT
          have HLO := hidden (local_bits kd nn sd ld tx hO hX hTE hLN)
          replace hLN := hidden hLN
          clear hO hX
          obtain ⟨top, s, rfl⟩ := stack_some HS.out
          obtain ⟨g, cap, rfl, e1, e2, e3, e4, _⟩ := HM.open_ (by simp)
          rw [ints_cons_rev] at HM
          simp only [List.length_cons] at hst HM e1
          replace HM := hidden (HM.alloc (.cells #[.int .i64 kd, .int .i64 nn, .int .i64 sd, .slice A' LN c'', .string tx] 37))
          have q0 := Holds.new wr 37 #[.int .i64 kd, .int .i64 nn, .int .i64 sd, .slice A' LN c'', .string tx]
          replace hb := hb.alloc hb.size (.cells #[.int .i64 kd, .int .i64 nn, .int .i64 sd, .slice A' LN c'', .string tx] 37)
          go_wp2
          generalize wr.alloc (.cells #[.int .i64 kd, .int .i64 nn, .int .i64 sd, .slice A' LN c'', .string tx] 37) = W at *
          go_loopw [3] (fun en w' => ∃ (top : Nat) (s : List Nat) (cap : Nat), W = w' ∧ en = .slice (some ⟨g, 0, none⟩) (s.length + 1) cap ∧ cap ≤ maxLen ∧ s.length + 1 ≤ cap ∧ s.length ≤ k ∧ Hid (Stack t k (top :: s)) ∧ Hid (Mine W w.heap.size 3 1 en (s.length + 1) (ints s.reverse ++ [.int .i64 top])))
            (fun en _ => lenV en)
          case atStart => exact ⟨top, s, cap, rfl, rfl, e2, e1, by omega, HS, HM⟩
          case round =>
            clear x0 x1 x2 x3 x4 HM HS e1 e2 hst
            obtain ⟨top, s, cap, rfl, rfl, e2, e1, hst, HS, HM⟩ := hrel
            unfold maxLen at e2
            have z : W.cell? ⟨g, s.length, none⟩ = some (.int .i64 top) := by
              obtain ⟨g', cap', hv, _, _, _, _, hcell⟩ := HM.out.open_ (by omega)
              simp only [Value.slice.injEq, Option.some.injEq, Addr.mk.injEq] at hv
              obtain ⟨⟨rfl, _⟩, _, rfl⟩ := hv
              refine hcell _ _ ?_
              rw [List.getElem?_append_right (by simp [ints_len])]
              simp [ints_len]
            by_cases htop : top = k
            · subst htop
              go_wp2
              have HS2 := HS.out.pop hlt
              obtain ⟨top', s', hs⟩ := stack_some HS2
              subst hs
              have HM2 := hidden (HM.out.pop (by simp [ints_len]))
              rw [ints_cons_rev] at HM2
              replace HS2 := hidden HS2
              go_roundw
              case rel => exact ⟨top', s', cap, by trivial, rfl, e2, by simp at e1; omega, by simp at hst; omega, HS2, HM2⟩
              case measure => simp [lenV]
            · have n0 : W.cell? ⟨wr.heap.size, 0, none⟩ = some (.int .i64 kd) := q0.cell 0
              have n2 : W.cell? ⟨wr.heap.size, 2, none⟩ = some (.int .i64 sd) := q0.cell 2
              have n3 : W.cell? ⟨wr.heap.size, 3, none⟩ = some (.slice A' LN c'') := q0.cell 3
              have n4 : W.cell? ⟨wr.heap.size, 4, none⟩ = some (.string tx) := q0.cell 4
              have hbz2 := hb.size
              obtain ⟨tb1, tb2⟩ := stack_bounds HS.out
              have HB2 := hidden (HB.out k top s _ HS htop HX.out)
              have HP : Hid (Local ⟨kd, nn, sd, ld, tx⟩ → (k : Int) + sd ≤ top → Hid (Stack t (k + 1) ((k + sd.toNat) :: top :: s))) := hidden fun h1 h2 => hidden (by
                have hz : sz t k = sd.toNat := by rw [sz_of HX.out]
                have := HS.out.push htop HX.out h1 (by rw [hz]; have := h1.2.2.1; dsimp only at this; omega)
                rwa [hz] at this)
              dsimp only at HB2
              clear HX HB HG
              go_wp2_with (first | (go_at_call 40; refine (HO.out _).mono ?_; rintro e w' ⟨rfl, rfl⟩) | (go_at_call 41; refine (HT.out _).mono ?_; rintro e w' ⟨rfl, rfl⟩) | (at_builtin; refine wpList_append_int rfl _ _ 57 3 3 rfl (by kernel_rfl) HI w.heap.size _ _ _ HM _ rfl rfl rfl (by first | rfl | simp) (by omega) hbz2 ?_; intro v' w' hA))
              all_goals first
                | (obtain rfl := HB2.out (fun hh => by
                    obtain ⟨hh1, hh2⟩ := hh
                    rw [HLO.out] at hh1
                    obtain ⟨c1, c2, c3, c4, c5⟩ := hh1
                    first | omega | (simp_all; done) | (simp_all; omega))
                   go_ret
                   exact ⟨rfl, hb⟩)
                | (have hloc := HLO.out.2 (by refine ⟨?_, ?_, ?_, ?_, ?_⟩ <;> first | omega | (simp_all; done) | (simp_all; omega))
                   have hle : (k : Int) + sd ≤ top := by omega
                   have HP2 := HP.out hloc hle
                   have hsd : 1 ≤ sd := hloc.2.2.1
                   go_roundw
                   case rel =>
                     refine ⟨k + 1, (k + sd.toNat) :: top :: s, by omega, by go_num, by simp; omega, HP2, ?_, (hb.alloc hbz2 _).trans hA.out.below⟩
                     have := hA.out.mine
                     rw [ints_cons_rev, ints_cons_rev, show ((k + sd.toNat : Nat) : Int) = k + sd by omega]
                     exact this
                   case measure => simp [intOf]; omega)
        · obtain rfl : k = t.length := by omega
          obtain rfl := HG.out _ HS
          clear HG HB HN HM HI HS
          go_wp2
          go_ret
          exact ⟨rfl, hb⟩
    · rw [tree_not_size hx hs]
      have q1 : (x.size != (t.length : Int)) = true := by simpa using hs
      clear hat hpc hx hN x0 x1 x3 x4 hs HN
      go_enter Try.func25, Try.ntmps25
      go_wp2
      go_ret
      exact ⟨rfl, (by repeat (first | (with_reducible exact Below.refl _ _) | (with_reducible assumption) | (with_reducible refine Below.drew ?_) | (with_reducible refine below_drewN ?_ _) | ((with_reducible refine below_alloc ?_ ?_); (focus (first | omega | (simp; done) | (simp; omega)))) | ((with_reducible refine below_set ?_ ?_); (focus (first | omega | (simp; done) | (simp; omega))))))⟩
end Go.Proofs.Ytmmhkjdnejeooaa.T

namespace Go.Proofs.Ytmmhkjdnejeooaa.T
open Go.RowKit Go.Shelf

/-- Is it a place of a tree? -/
noncomputable def placeB (t : List Node) (i : Int) : Bool := decide (0 ≤ i) && decide (i < t.length) && treeB t

set_option maxHeartbeats 1000000 in
theorem ref_place (v : Value) (t : List Node) (i : Int) (w : World) (h4 : t.length ≤ 140737488355) (hN : Nds w (Old w) v t) :
    Calls Try.prog 68 #[v, .int .i64 i] w fun r w' => r = .returned (.bool (placeB t i)) ∧ Below w.heap.size w w' := by
  have HR := hidden (ref_right v t w (by omega) hN)
  obtain ⟨A, c, rfl, hc1, hc2⟩ := hN.value
  unfold maxLen at hc2
  unfold placeB
  clear hN
  obtain ⟨r, hr⟩ : ∃ r, treeB t = r := ⟨_, rfl⟩
  rw [hr] at HR ⊢
  clear hr
  by_cases h1 : 0 ≤ i
  · by_cases h2 : i < t.length
    · simp only [h1, h2, decide_true, Bool.true_and]
      go_enter Try.func68, Try.ntmps68
      go_wp2_with fail
      refine (HR.out).mono ?_
      rintro r2 w2 ⟨rfl, hb2⟩
      go_wp2
      go_ret
      exact ⟨rfl, hb2⟩
    · simp only [h2, decide_false, Bool.and_false, Bool.false_and]
      go_enter Try.func68, Try.ntmps68
      go_wp2
      go_ret
      exact ⟨rfl, (by repeat (first | (with_reducible exact Below.refl _ _) | (with_reducible assumption) | (with_reducible refine Below.drew ?_) | (with_reducible refine below_drewN ?_ _) | ((with_reducible refine below_alloc ?_ ?_); (focus (first | omega | (simp; done) | (simp; omega)))) | ((with_reducible refine below_set ?_ ?_); (focus (first | omega | (simp; done) | (simp; omega))))))⟩
  · simp only [h1, decide_false, Bool.false_and]
    go_enter Try.func68, Try.ntmps68
    go_wp2
    go_ret
    exact ⟨rfl, (by repeat (first | (with_reducible exact Below.refl _ _) | (with_reducible assumption) | (with_reducible refine Below.drew ?_) | (with_reducible refine below_drewN ?_ _) | ((with_reducible refine below_alloc ?_ ?_); (focus (first | omega | (simp; done) | (simp; omega)))) | ((with_reducible refine below_set ?_ ?_); (focus (first | omega | (simp; done) | (simp; omega))))))⟩

set_option maxHeartbeats 1000000 in
theorem arena_place (v : Value) (t : List Node) (i : Int) (w : World) (h4 : t.length ≤ 140737488355) (hN : Nds w (Old w) v t) :
    Calls Try.prog 83 #[v, .int .i64 i] w fun r w' => r = .returned (.bool (placeB t i)) ∧ Below w.heap.size w w' := by
  have HR := hidden (arena_right v t w h4 hN)
  obtain ⟨A, c, rfl, hc1, hc2⟩ := hN.value
  unfold maxLen at hc2
  unfold placeB
  clear hN
  obtain ⟨r, hr⟩ : ∃ r, treeB t = r := ⟨_, rfl⟩
  rw [hr] at HR ⊢
  clear hr
  by_cases h1 : 0 ≤ i
  · by_cases h2 : i < t.length
    · simp only [h1, h2, decide_true, Bool.true_and]
      go_enter Try.func83, Try.ntmps83
      go_wp2_with fail
      refine (HR.out).mono ?_
      rintro r2 w2 ⟨rfl, hb2⟩
      go_wp2
      go_ret
      exact ⟨rfl, hb2⟩
    · simp only [h2, decide_false, Bool.and_false, Bool.false_and]
      go_enter Try.func83, Try.ntmps83
      go_wp2
      go_ret
      exact ⟨rfl, (by repeat (first | (with_reducible exact Below.refl _ _) | (with_reducible assumption) | (with_reducible refine Below.drew ?_) | (with_reducible refine below_drewN ?_ _) | ((with_reducible refine below_alloc ?_ ?_); (focus (first | omega | (simp; done) | (simp; omega)))) | ((with_reducible refine below_set ?_ ?_); (focus (first | omega | (simp; done) | (simp; omega))))))⟩
  · simp only [h1, decide_false, Bool.false_and]
    go_enter Try.func83, Try.ntmps83
    go_wp2
    go_ret
    exact ⟨rfl, (by repeat (first | (with_reducible exact Below.refl _ _) | (with_reducible assumption) | (with_reducible refine Below.drew ?_) | (with_reducible refine below_drewN ?_ _) | ((with_reducible refine below_alloc ?_ ?_); (focus (first | omega | (simp; done) | (simp; omega)))) | ((with_reducible refine below_set ?_ ?_); (focus (first | omega | (simp; done) | (simp; omega))))))⟩
end Go.Proofs.Ytmmhkjdnejeooaa.T

namespace Go.Proofs.Ytmmhkjdnejeooaa.T
open Go.RowKit Go.Shelf

def isText (t : List Node) (i : Nat) : Bool := match t[i]? with | some x => decide (textedK x.kind) | none => false
/-- The places ahead of k of what has a text. -/
def texts (t : List Node) (k : Nat) : List Nat := (List.range k).filter (isText t)
noncomputable def leavesTo (t : List Node) (k : Nat) : List Nat := if treeB t then texts t k else []
noncomputable def leavesOf (t : List Node) : List Nat := leavesTo t t.length
theorem texts_len (t : List Node) (k : Nat) : (texts t k).length ≤ k := by
  unfold texts
  exact Nat.le_trans (List.length_filter_le _ _) (by simp)
theorem leavesTo_len (t : List Node) (k : Nat) : (leavesTo t k).length ≤ k := by
  unfold leavesTo
  split
  · exact texts_len t k
  · simp
theorem texts_succ (t : List Node) (k : Nat) : texts t (k + 1) = texts t k ++ if isText t k then [k] else [] := by
  unfold texts
  rw [List.range_succ, List.filter_append]
  simp [List.filter_cons]
theorem leavesTo_succ (t : List Node) (k : Nat) : leavesTo t (k + 1) = leavesTo t k ++ if isText t k && treeB t then [k] else [] := by
  unfold leavesTo
  by_cases h : treeB t = true
  · rw [if_pos h, if_pos h, texts_succ, h, Bool.and_true]
  · rw [if_neg h, if_neg h]
    simp at h
    simp [h]
theorem ints_snoc (l : List Nat) (k : Nat) : ints (l ++ [k]) = ints l ++ [.int .i64 (k : Int)] := by simp [ints]

theorem ref_texted (kd : Int) (w : World) : Calls Try.prog 67 #[.int .i64 kd] w fun r w' => r = .returned (.bool (decide (textedK kd))) ∧ w = w' := by
  go_enter Try.func67, Try.ntmps67
  go_wp2
  all_goals
    go_ret
    exact ⟨ret_bool (by rw [Bool.eq_iff_iff]; simp [textedK, *]), rfl⟩

theorem int_info : Hid (IntInfo Try.prog 3) := hidden (info_parts (show (Try.prog.info? 3).map (fun i => (i.zero, i.size, i.bytes)) = some (some (.int .i64 0), 1, 8) by kernel_rfl))

end Go.Proofs.Ytmmhkjdnejeooaa.T

namespace Go.Proofs.Ytmmhkjdnejeooaa.T
open Go.RowKit Go.Shelf

end Go.Proofs.Ytmmhkjdnejeooaa.T

namespace Go.Proofs.Ytmmhkjdnejeooaa.T
open Go.RowKit Go.Shelf

/-- The last place ahead of k whose stretch goes past i. -/
def upN (t : List Node) (i : Nat) : Nat → Int
  | 0 => -1
  | k + 1 => if i < k + sz t k then (k : Int) else upN t i k
noncomputable def upOf (t : List Node) (i : Int) : Int := if placeB t i then upN t i.toNat i.toNat else -1

theorem placeB_iff {t : List Node} {i : Int} : placeB t i = true ↔ 0 ≤ i ∧ i < t.length ∧ Tree t := by
  unfold placeB
  rw [Bool.and_eq_true, Bool.and_eq_true, treeB_iff, decide_eq_true_iff, decide_eq_true_iff, and_assoc]
theorem tree_node {t : List Node} (h : Tree t) {k : Nat} (hk : k < t.length) : 1 ≤ sz t k ∧ k + sz t k ≤ t.length ∧ t[k].size = (sz t k : Int) := by
  have h0 := tree_sz0 h
  obtain ⟨⟨⟨x, hx, hl⟩, _⟩, hle⟩ := h.good.2.2 k (Nat.zero_le _) (by omega)
  have e : t[k] = x := by rw [List.getElem?_eq_getElem hk] at hx; exact Option.some.inj hx
  have := sz_of hx
  have := hl.2.2.1
  rw [e]
  exact ⟨by omega, by omega, by omega⟩
/-- What is read as the size of a node of a tree. -/
theorem Nds.size_cell {w : World} {T : Nat → Prop} {b off c : Nat} {t : List Node} (hN : Nds w T (.slice (some ⟨b, off, none⟩) t.length c) t) (ht : Tree t) {k : Nat} (hk : k < t.length) : w.cell? ⟨b, off + k * 5 + 2, none⟩ = some (.int .i64 (sz t k)) := by
  obtain ⟨b', off', c', hv, _, _, _, hat⟩ := hN.open_ (by intro e; subst e; simp at hk)
  simp only [Value.slice.injEq, Option.some.injEq, Addr.mk.injEq] at hv
  obtain ⟨⟨rfl, rfl, _⟩, _, rfl⟩ := hv
  obtain ⟨l, x0, x1, x2, _⟩ := hat k _ (List.getElem?_eq_getElem hk)
  rw [x2, (tree_node ht hk).2.2]

end Go.Proofs.Ytmmhkjdnejeooaa.T

namespace Go.Proofs.Ytmmhkjdnejeooaa.T
open Go.RowKit Go.Shelf
attribute [local go_sem] Oper.semAt_some

/-- The places from k on to e, each behind the stretch of the one ahead. -/
def kidsFrom (t : List Node) (e k : Nat) : List Nat := if k < e then k :: kidsFrom t e (k + max 1 (sz t k)) else []
termination_by e - k
decreasing_by omega
theorem kidsFrom_lt {t : List Node} {e k : Nat} (h : k < e) (h1 : 1 ≤ sz t k) : kidsFrom t e k = k :: kidsFrom t e (k + sz t k) := by
  rw [kidsFrom, if_pos h, Nat.max_eq_right h1]
theorem kidsFrom_ge {t : List Node} {e k : Nat} (h : ¬ k < e) : kidsFrom t e k = [] := by rw [kidsFrom, if_neg h]
theorem kidsFrom_len (t : List Node) (e : Nat) : ∀ n k, e - k ≤ n → (kidsFrom t e k).length ≤ e - k := by
  intro n
  induction n with
  | zero => intro k h; rw [kidsFrom_ge (by omega)]; simp
  | succ n ih =>
    intro k h
    rw [kidsFrom]
    split
    · have := ih (k + max 1 (sz t k)) (by omega)
      simp; omega
    · simp
/-- The kids of the node at i. -/
def kidsL (t : List Node) (i : Nat) : List Nat := kidsFrom t (i + sz t i) (i + 1)

/-- A place beneath the node at i. -/
abbrev Kid (t : List Node) (i : Nat) := { k : Nat // i < k ∧ k < i + sz t i }
abbrev encK {t : List Node} {i : Nat} (p : Kid t i) : Array Value := #[.int .i64 (p.1 : Int)]

theorem tree_step {t : List Node} (h : Tree t) {i k : Nat} (hi : i < t.length) (h1 : i < k) (h2 : k < i + sz t i) : k < t.length ∧ 1 ≤ sz t k ∧ k + sz t k ≤ i + sz t i := by
  have a := tree_node h hi
  have hk : k < t.length := by omega
  have b := tree_node h hk
  have h0 := tree_sz0 h
  obtain ⟨⟨_, ho⟩, _⟩ := h.good.2.2 i (Nat.zero_le _) (by omega)
  exact ⟨hk, b.1, ho k h1 h2⟩

set_option maxRecDepth 20000 in
set_option maxHeartbeats 4000000 in
theorem kids1_in (n : Nat) (hn : 1 ≤ n) (l Bi Bt : Nat) (T : Nat → Prop) (t : List Node) (i : Nat) (v : Value) (h4 : t.length ≤ 140737488355) (ht : Tree t) (hi : i < t.length) (J Jx : List (Kid t i) → World → Prop)
    (hY : ∀ pre x W, J pre W → pre.length < (kidsL t i).length → YieldAt Fence.wide (n - 1) Try.prog l (encK x) W fun e W' =>
      (e = .returned (.bool true) ∧ J (pre ++ [x]) W' ∧ Keeps T W W') ∨ (e = .returned (.bool false) ∧ Jx (pre ++ [x]) W'))
    (hd : ∀ pre W n, J pre W → J pre (W.drewN n)) (W : World) (hTi : T Bi) (hTt : T Bt) (hci : W.cell? ⟨Bi, 0, none⟩ = some (.int .i64 i)) (hct : W.cell? ⟨Bt, 0, none⟩ = some v) (hN : Nds W T v t) (h0 : J [] W)  :
    CallsIn Fence.wide n Try.prog 93 #[.func (.yield l) #[] #[], .pointer (some ⟨Bi, 0, none⟩), .pointer (some ⟨Bt, 0, none⟩)] W fun e W' => (∃ v, e = .returned v) ∧
      ((∃ ys : List (Kid t i), ys.map (·.1) = kidsL t i ∧ J ys W') ∨ (∃ pre : List (Kid t i), pre.map (·.1) <+: kidsL t i ∧ Jx pre W')) := by
  obtain ⟨b, off, c, rfl, hc1, hc2, _, _⟩ := hN.open_ (by intro e; subst e; simp at hi)
  unfold maxLen at hc2
  obtain ⟨s1, s2, _⟩ := tree_node ht hi
  refine callsIn_of_wp Try.func93 rfl trivial ?_ rfl
  simp only [Try.ntmps93, List.size_toArray, List.length_cons, List.length_nil, Nat.reduceAdd, Nat.reduceSub, Array.replicate_succ, Array.replicate_zero, List.push_toArray, List.append_toArray, List.nil_append, List.cons_append]
  gi_wp2
  gi_loopw [4] (fun p wr => ∃ (k : Nat) (pre : List (Kid t i)), p = .int .i64 k ∧ i < k ∧ k ≤ i + sz t i ∧ Hid (kidsL t i = pre.map (·.1) ++ kidsFrom t (i + sz t i) k) ∧ wr.cell? ⟨Bi, 0, none⟩ = some (.int .i64 i) ∧ wr.cell? ⟨Bt, 0, none⟩ = some (.slice (some ⟨b, off, none⟩) t.length c) ∧ Hid (Nds wr T (.slice (some ⟨b, off, none⟩) t.length c) t) ∧ Hid (J pre wr))
    (fun p wr => i + sz t i - (intOf p).toNat)
  case atStart =>
    exact ⟨i + 1, [], by go_num, by omega, by omega, hidden (by simp [kidsL]), hci, hct, hidden hN, hidden h0⟩
  case round =>
    clear hci hct hN h0
    obtain ⟨k, pre, rfl, hk1, hk2, HL, hci, hct, HN, HJ⟩ := hrel
    have yi := HN.out.size_cell ht hi
    by_cases hlt : k < i + sz t i
    · obtain ⟨g1, g2, g3⟩ := tree_step ht hi hk1 hlt
      have HL2 := HL.out
      rw [kidsFrom_lt hlt g2] at HL2
      have hlen : pre.length < (kidsL t i).length := by rw [HL2, List.length_append, List.length_map]; simp
      replace HL2 := hidden HL2
      have HS := hidden (fun W' (h : Nds W' T (.slice (some ⟨b, off, none⟩) t.length c) t) => h.size_cell ht g1)
      gi_wp2
      gi_big_quiet_th (fail)
      obtain ⟨fn, tmps, assign, body, hy, hR⟩ := hY pre ⟨k, hk1, hlt⟩ (wr.drewN nq) (hd _ _ _ HJ.out) hlen
      have HR := hidden hR
      dsimp only [encK] at hy
      clear hR hlen
      have hcd : ∀ a, (wr.drewN nq).cell? a = wr.cell? a := fun a => rfl
      gi_wp2
      refine HR.out.mono ?_
      rintro e W3 (⟨rfl, hJ3, hk3⟩ | ⟨rfl, hJx3⟩)
      · have hk4 : Keeps T wr W3 := ⟨hk3.size, hk3.block⟩
        have zi := hk4.cell (a := ⟨Bi, 0, none⟩) hTi hci
        have zt := hk4.cell (a := ⟨Bt, 0, none⟩) hTt hct
        have hN3 := hidden (HN.out.keeps hk4)
        have zk := HS.out _ hN3.out
        gi_wp2
        go_roundw
        case rel => exact ⟨k + sz t k, pre ++ [⟨k, hk1, hlt⟩], by go_num, by omega, by omega, hidden (by rw [HL2.out]; simp), zi, zt, hN3, hidden hJ3⟩
        case measure => simp [intOf]; omega
      · gi_wp2
        refine bodyPost_ret (results_none rfl _ _ _) rfl ?_
        exact ⟨⟨_, rfl⟩, .inr ⟨_, by rw [HL2.out]; simp, hJx3⟩⟩
    · have HL2 := HL.out
      rw [kidsFrom_ge hlt] at HL2
      replace HL2 := hidden HL2
      gi_wp2
      gi_big_quiet_th (fail)
      gi_wp2
      exact ⟨rfl, _, results_none rfl _ _ _, ⟨_, rfl⟩, .inl ⟨pre, by rw [HL2.out]; simp, hd _ _ _ HJ.out⟩⟩

theorem kids1_stops (n : Nat) (hn : 1 ≤ n) (Bi Bt : Nat) (T : Nat → Prop) (t : List Node) (i : Nat) (v : Value) (h4 : t.length ≤ 140737488355) (ht : Tree t) (hi : i < t.length) (w : World) (hT : ∀ k, T k → k < w.heap.size) (hTi : T Bi) (hTt : T Bt)
    (hci : w.cell? ⟨Bi, 0, none⟩ = some (.int .i64 i)) (hct : w.cell? ⟨Bt, 0, none⟩ = some v) (hN : Nds w T v t) :
    SeqStopsK Fence.wide n Try.prog 93 #[.pointer (some ⟨Bi, 0, none⟩), .pointer (some ⟨Bt, 0, none⟩)] encK (Keeps T) (fun ys : List (Kid t i) => ys.map (·.1) = kidsL t i) (fun pre => pre.map (·.1) <+: kidsL t i) (kidsL t i).length w :=
  fun l J Jx W hW hJ _ hY h0 =>
    kids1_in n hn l Bi Bt T t i v h4 ht hi J Jx hY (fun pre W n h => hJ pre W _ none h ⟨rfl, rfl, rfl, Nat.le_refl _, fun _ _ _ => rfl⟩ (fun r e => by cases e)) W hTi hTt
      ((hW.cell (p := ⟨Bi, 0, none⟩) (hT _ hTi)).trans hci) ((hW.cell (p := ⟨Bt, 0, none⟩) (hT _ hTt)).trans hct) (hN.below hW hT) h0

theorem arena_kids (v : Value) (i : Int) (A : Option Addr) (n c : Nat) (hv : v = .slice A n c) (w : World) :
    Calls Try.prog 85 #[v, .int .i64 i] w fun e w' => e = .returned (.func (.func 93) #[] #[.pointer (some ⟨w.heap.size + 1, 0, none⟩), .pointer (some ⟨w.heap.size, 0, none⟩)]) ∧
      (w.alloc (.cells #[v] 27)).alloc (.cells #[.int .i64 i] 3) = w' := by
  subst hv
  go_enter Try.func85, Try.ntmps85
  go_wp2
  go_ret
  exact ⟨rfl, rfl⟩
end Go.Proofs.Ytmmhkjdnejeooaa.T
