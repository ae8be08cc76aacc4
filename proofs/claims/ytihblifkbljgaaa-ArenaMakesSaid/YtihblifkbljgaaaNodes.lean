/-
  Nodes of trees, as plain data, and slices that read as nodes.
-/
import Derived.Test.YtihblifkbljgaaaMem
import Derived.Test.YtihblifkbljgaaaRows
namespace Go.Proofs.Ytihblifkbljgaaa
open Go.RowKit Go.Shelf

structure Piece where
  tok : Int
  text : ByteArray
structure Node where
  kind : Int
  n : Int
  size : Int
  lead : List Piece
  text : ByteArray

def pcCells (p : Piece) : List Value := [.int .i64 p.tok, .string p.text]
/-- v reads as pieces. -/
def Pcs (w : World) (T : Nat → Prop) (v : Value) (ps : List Piece) : Prop := Rd w T 2 v ps.length (ps.flatMap pcCells)
def ndCells (x : Node) (l : Value) : List Value := [.int .i64 x.kind, .int .i64 x.n, .int .i64 x.size, l, .string x.text]
def allCells (t : List Node) (ls : List Value) : List Value := (t.zip ls).flatMap fun x => ndCells x.1 x.2
/-- v reads as nodes; their leads lie in the blocks of T too. -/
def Nds (w : World) (T : Nat → Prop) (v : Value) (t : List Node) : Prop :=
  ∃ ls : List Value, ls.length = t.length ∧ Rd w T 5 v t.length (allCells t ls) ∧ ∀ (i : Nat) (x : Node) (l : Value), t[i]? = some x → ls[i]? = some l → Pcs w T l x.lead

theorem flat_at {α : Type} (f : α → List Value) (k : Nat) (hf : ∀ x, (f x).length = k) : ∀ (l : List α) (i j : Nat) (x : α), l[i]? = some x → j < k → (l.flatMap f)[i * k + j]? = (f x)[j]? := by
  intro l
  induction l with
  | nil => intro i j x h; simp at h
  | cons y l ih =>
    intro i j x h hj
    cases i with
    | zero =>
      simp at h; subst h
      rw [List.flatMap_cons, Nat.zero_mul, Nat.zero_add, List.getElem?_append_left (by rw [hf]; exact hj)]
    | succ i =>
      simp at h
      rw [List.flatMap_cons, List.getElem?_append_right (by rw [hf, Nat.add_mul]; omega), hf, show (i + 1) * k + j - k = i * k + j by rw [Nat.add_mul]; omega]
      exact ih i j x h hj
theorem flat_len {α : Type} (f : α → List Value) (k : Nat) (hf : ∀ x, (f x).length = k) (l : List α) : (l.flatMap f).length = l.length * k := by
  induction l with
  | nil => simp
  | cons y l ih => rw [List.flatMap_cons, List.length_append, hf, ih, List.length_cons, Nat.add_mul]; omega
theorem allCells_len (t : List Node) (ls : List Value) (h : ls.length = t.length) : (allCells t ls).length = t.length * 5 := by
  unfold allCells
  rw [flat_len _ 5 (fun _ => rfl), List.length_zip, h, Nat.min_self]

section
variable {w w' : World} {T T' : Nat → Prop} {v : Value} {t : List Node} {ps : List Piece}
theorem Pcs.mono (h : Pcs w T v ps) (hT : ∀ k, T k → T' k) : Pcs w T' v ps := Rd.mono h hT
theorem Pcs.keeps (h : Pcs w T v ps) (hk : Keeps T w w') : Pcs w' T v ps := Rd.keeps h hk
theorem Nds.mono (h : Nds w T v t) (hT : ∀ k, T k → T' k) : Nds w T' v t := by
  obtain ⟨ls, h1, h2, h3⟩ := h
  exact ⟨ls, h1, h2.mono hT, fun i x l a b => (h3 i x l a b).mono hT⟩
theorem Nds.keeps (h : Nds w T v t) (hk : Keeps T w w') : Nds w' T v t := by
  obtain ⟨ls, h1, h2, h3⟩ := h
  exact ⟨ls, h1, h2.keeps hk, fun i x l a b => (h3 i x l a b).keeps hk⟩
theorem Nds.below {B : Nat} (h : Nds w T v t) (hb : Below B w w') (hT : ∀ k, T k → k < B) : Nds w' T v t := h.keeps ⟨hb.size, fun k hk _ => hb.block k (hT k hk)⟩
theorem Nds.alloc (h : Nds w T v t) (o : Obj) : Nds (w.alloc o) T v t := h.keeps ((Keeps.refl _ _).alloc o)
theorem Nds.calm {B : Nat} (h : Nds w T v t) (hc : Calm B w w') : Nds w' T v t := by
  obtain ⟨ls, h1, h2, h3⟩ := h
  exact ⟨ls, h1, h2.calm hc, fun i x l a b => Rd.calm (h3 i x l a b) hc⟩
theorem Nds.value (h : Nds w T v t) : ∃ A c, v = .slice A t.length c ∧ t.length ≤ c ∧ c ≤ maxLen := by
  obtain ⟨ls, h1, ⟨_, A, c, hv, h2, h3, _⟩, _⟩ := h
  exact ⟨A, c, hv, h2, h3⟩
/-- Where it has nodes: the block, and each node's cells. -/
theorem Nds.open_ (h : Nds w T v t) (h0 : t ≠ []) : ∃ b off c, v = .slice (some ⟨b, off, none⟩) t.length c ∧ t.length ≤ c ∧ c ≤ maxLen ∧ T b ∧
    ∀ (i : Nat) (x : Node), t[i]? = some x → ∃ l, w.cell? ⟨b, off + i * 5, none⟩ = some (.int .i64 x.kind) ∧ w.cell? ⟨b, off + i * 5 + 1, none⟩ = some (.int .i64 x.n) ∧
      w.cell? ⟨b, off + i * 5 + 2, none⟩ = some (.int .i64 x.size) ∧ w.cell? ⟨b, off + i * 5 + 3, none⟩ = some l ∧ w.cell? ⟨b, off + i * 5 + 4, none⟩ = some (.string x.text) ∧ Pcs w T l x.lead := by
  obtain ⟨ls, h1, ⟨hl, A, c, hv, h2, h3, h4⟩, h5⟩ := h
  have hp : 0 < t.length := List.length_pos_iff.2 h0
  obtain ⟨b, off, rfl, hT, hc⟩ := h4 (by rw [hl]; omega)
  refine ⟨b, off, c, hv, h2, h3, hT, fun i x hx => ?_⟩
  have hi : i < t.length := (List.getElem?_eq_some_iff.1 hx).1
  have hls : ls[i]? = some ls[i] := List.getElem?_eq_getElem (by omega)
  have hz : (t.zip ls)[i]? = some (x, ls[i]) := by
    rw [List.getElem?_zip_eq_some]; exact ⟨hx, hls⟩
  have at_ : ∀ j u, j < 5 → (ndCells x ls[i])[j]? = some u → w.cell? ⟨b, off + i * 5 + j, none⟩ = some u := by
    intro j u hj hu
    have := flat_at (fun x : Node × Value => ndCells x.1 x.2) 5 (fun _ => rfl) (t.zip ls) i j _ hz hj
    rw [Nat.add_assoc]
    exact hc _ u (by unfold allCells; rw [this]; exact hu)
  exact ⟨ls[i], at_ 0 _ (by omega) rfl, at_ 1 _ (by omega) rfl, at_ 2 _ (by omega) rfl, at_ 3 _ (by omega) rfl, at_ 4 _ (by omega) rfl, h5 i x _ hx hls⟩
theorem Pcs.value (h : Pcs w T v ps) : ∃ A c, v = .slice A ps.length c ∧ ps.length ≤ c ∧ c ≤ maxLen := by
  obtain ⟨_, A, c, hv, h2, h3, _⟩ := h
  exact ⟨A, c, hv, h2, h3⟩
theorem Pcs.open_ (h : Pcs w T v ps) (h0 : ps ≠ []) : ∃ b off c, v = .slice (some ⟨b, off, none⟩) ps.length c ∧ ps.length ≤ c ∧ c ≤ maxLen ∧ T b ∧
    ∀ (i : Nat) (x : Piece), ps[i]? = some x → w.cell? ⟨b, off + i * 2, none⟩ = some (.int .i64 x.tok) ∧ w.cell? ⟨b, off + i * 2 + 1, none⟩ = some (.string x.text) := by
  obtain ⟨hl, A, c, hv, h2, h3, h4⟩ := h
  have hp : 0 < ps.length := List.length_pos_iff.2 h0
  obtain ⟨b, off, rfl, hT, hc⟩ := h4 (by rw [hl]; omega)
  refine ⟨b, off, c, hv, h2, h3, hT, fun i x hx => ?_⟩
  have at_ : ∀ j u, j < 2 → (pcCells x)[j]? = some u → w.cell? ⟨b, off + i * 2 + j, none⟩ = some u := by
    intro j u hj hu
    have := flat_at pcCells 2 (fun _ => rfl) ps i j _ hx hj
    rw [Nat.add_assoc]
    exact hc _ u (by rw [this]; exact hu)
  exact ⟨at_ 0 _ (by omega) rfl, at_ 1 _ (by omega) rfl⟩
end

/-- How much is reckoned of a node, and of nodes. -/
def fewOf (x : Node) : Nat := min x.lead.length 1000 + min x.text.size 1000
def fewSum (t : List Node) : Nat := (t.map fewOf).sum
def fewB (t : List Node) : Bool := decide (t.length ≤ 120) && decide (fewSum t ≤ 1500)

/-- All that lies in w. -/
def Old (w : World) : Nat → Prop := fun k => k < w.heap.size
theorem old_lt {w : World} : ∀ k, Old w k → k < w.heap.size := fun _ h => h
theorem Nds.later {w w' : World} {v : Value} {t : List Node} {B : Nat} (h : Nds w (fun k => k < B) v t) (hb : Below B w w') : Nds w' (fun k => k < B) v t := h.below hb (fun _ h => h)

theorem fewSum_succ (t : List Node) (k : Nat) (h : k < t.length) : fewSum (t.take (k + 1)) = fewSum (t.take k) + (min t[k].lead.length 1000 + min t[k].text.size 1000) := by
  unfold fewSum
  rw [List.take_succ_eq_append_getElem h, List.map_append, List.sum_append]
  simp only [List.map_cons, List.map_nil, List.sum_cons, List.sum_nil, Nat.add_zero]
  rfl
theorem fewSum_le (t : List Node) (k : Nat) : fewSum (t.take k) ≤ k * 2000 := by
  unfold fewSum
  have : ∀ l : List Node, (l.map fewOf).sum ≤ l.length * 2000 := by
    intro l
    induction l with
    | nil => simp
    | cons x l ih =>
      simp only [List.map_cons, List.sum_cons, List.length_cons]
      have : fewOf x ≤ 2000 := by unfold fewOf; omega
      omega
  have h1 := this (t.take k)
  have h2 : (t.take k).length ≤ k := List.length_take_le _ _
  exact Nat.le_trans h1 (Nat.mul_le_mul_right _ h2)

theorem min_if (n : Nat) : (if (1000 : Int) < (n : Int) then (1000 : Int) else (n : Int)) = ((min n 1000 : Nat) : Int) := by split <;> omega

set_option maxHeartbeats 1000000 in
theorem few (v : Value) (t : List Node) (w : World) (h : Nds w (Old w) v t) (hm : t.length ≤ 140737488355328) :
    Calls Try.prog 12 #[v] w fun e w' => e = .returned (.bool (fewB t)) ∧ Below w.heap.size w w' := by
  obtain ⟨A, c, rfl, hc1, hc2⟩ := h.value
  unfold maxLen at hc2
  have hn := h.later (Below.refl _ w)
  go_enter Try.func12, Try.ntmps12
  go_wp2
  go_loopw [3, 4] (fun n i wr => ∃ k : Nat, k ≤ t.length ∧ i = .int .i64 k ∧ n = .int .i64 (fewSum (t.take k)) ∧ Nds wr (fun k => k < w.heap.size) (.slice A t.length c) t ∧ Below w.heap.size w wr) (fun _ i _ => t.length - (intOf i).toNat)
  case atStart => exact ⟨0, Nat.zero_le _, rfl, rfl, hn, Below.refl _ _⟩
  case round =>
    clear hn h
    obtain ⟨k, hk, rfl, rfl, h, hb⟩ := hrel
    by_cases hlt : k < t.length
    · obtain ⟨b, off, c', hv, _, _, hT, hat⟩ := h.open_ (by intro e; subst e; simp at hlt)
      simp only [Value.slice.injEq] at hv
      obtain ⟨rfl, _, rfl⟩ := hv
      obtain ⟨l, x0, x1, x2, x3, x4, hp⟩ := hat k _ (List.getElem?_eq_getElem hlt)
      obtain ⟨A', c'', rfl, g1, g2⟩ := hp.value
      unfold maxLen at g2
      have HS := hidden (fewSum_succ t k hlt)
      have hle := fewSum_le t k
      clear hat hp x0 x1 x2
      have y3 := Ext.cell x3; have y4 := Ext.cell x4
      generalize t[k] = x at *
      go_wp2_with fail
      refine wp_region_ext (by kernel_rfl) (by kernel_rfl) ?_
      repeat (go_big_quiet_step (fail))
      refine wpQuiet_nil ?_
      simp only [min_if]
      intro w2 hb2
      clear y3 y4 x3 x4
      replace h := h.later (hb2.mono hb.size)
      replace hb := hb.trans (hb2.mono hb.size)
      go_wp2
      go_roundw
      case rel => exact ⟨k + 1, by omega, by go_num, by rw [HS.out]; go_num, h, hb⟩
      case measure => simp [intOf]; omega
    · obtain rfl : k = t.length := by omega
      rw [List.take_length] at *
      have hle := fewSum_le t t.length
      rw [List.take_length] at hle
      go_wp2
      all_goals (go_ret; exact ⟨ret_bool (by unfold fewB; rw [Bool.eq_iff_iff]; simp <;> omega), hb⟩)
end Go.Proofs.Ytihblifkbljgaaa
