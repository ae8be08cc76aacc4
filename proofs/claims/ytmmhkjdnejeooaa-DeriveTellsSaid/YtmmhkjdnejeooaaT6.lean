/-
  An argument of pieces or nodes, opened. An argument of pieces or nodes, opened; how much it holds.
-/
import Derived.Test.YtmmhkjdnejeooaaB1
import Derived.Test.YtmmhkjdnejeooaaT1
import Derived.Deep.Slices
import Derived.ChangeArms
import Derived.SizedLaws
namespace Go.Proofs.Ytmmhkjdnejeooaa.T
open Go.RowKit Go.Shelf Go.ChangeShapes Go.WideShapes

theorem list_of {α : Type} (Q : Nat → α → Prop) : ∀ n, (∀ i, i < n → ∃ x, Q i x) → ∃ l : List α, l.length = n ∧ ∀ i x, l[i]? = some x → Q i x := by
  intro n
  induction n with
  | zero => exact fun _ => ⟨[], rfl, fun i x h => by simp at h⟩
  | succ n ih =>
    intro h
    obtain ⟨l, hl, hq⟩ := ih (fun i hi => h i (by omega))
    obtain ⟨x, hx⟩ := h n (by omega)
    refine ⟨l ++ [x], by simp [hl], fun i y hy => ?_⟩
    by_cases hi : i < n
    · rw [List.getElem?_append_left (by omega)] at hy; exact hq i y hy
    · obtain rfl : i = n := by
        have := (List.getElem?_eq_some_iff.1 hy).1
        simp [hl] at this; omega
      rw [List.getElem?_append_right (by omega), hl] at hy
      simp at hy; subst hy; exact hx

/-- Cells that stand one element behind another, each of k. -/
theorem rd_of_flat {α : Type} {w : World} {a : Addr} {n c k : Nat} (f : α → List Value) (hk : 0 < k) (hf : ∀ x, (f x).length = k) (l : List α) (hl : l.length = n) (hc1 : n ≤ c) (hc2 : c ≤ maxLen)
    (h : ∀ i x, l[i]? = some x → ∀ j u, (f x)[j]? = some u → w.cell? (a.add (i * k + j)) = some u) : Rd w (Old w) k (.slice (some a) n c) n (l.flatMap f) := by
  refine ⟨by rw [flat_len f k hf, hl], _, _, rfl, hc1, hc2, fun h0 => ?_⟩
  rw [flat_len f k hf] at h0
  have hl0 : 0 < l.length := by
    by_cases e : l.length = 0
    · rw [e] at h0; omega
    · omega
  have hx := List.getElem?_eq_getElem hl0
  have hfx : 0 < (f l[0]).length := by rw [hf]; exact hk
  have hfirst := h 0 _ hx 0 _ (List.getElem?_eq_getElem hfx)
  have hadd : a.add (0 * k + 0) = a := by simp [Addr.add]
  rw [hadd] at hfirst
  have hsp := World.cell?_spot hfirst
  obtain ⟨b, off, sp⟩ := a
  dsimp only at hsp
  subst hsp
  obtain ⟨o, ho, _⟩ := cells_of_cell hfirst
  refine ⟨b, off, rfl, (Array.getElem?_eq_some_iff.1 ho).1, fun j u hu => ?_⟩
  have hj : j < l.length * k := by
    have := (List.getElem?_eq_some_iff.1 hu).1
    rwa [flat_len f k hf] at this
  have hi : j / k < l.length := Nat.div_lt_of_lt_mul (by rw [Nat.mul_comm]; exact hj)
  have e : j / k * k + j % k = j := by rw [Nat.mul_comm]; exact Nat.div_add_mod j k
  have hy := List.getElem?_eq_getElem hi
  have := flat_at f k hf l (j / k) (j % k) _ hy (Nat.mod_lt _ hk)
  rw [e] at this
  rw [this] at hu
  have := h _ _ hy _ _ hu
  rwa [e, addr_add] at this

set_option maxRecDepth 100000 in
theorem piece_fields : ∃ f0 f1 : Field, Try.prog.underlying 85 = some (.struct #[f0, f1]) ∧ f0.offset = 0 ∧ f1.offset = 1 ∧ Try.prog.underlying f0.type = some (.int .i64) ∧ Try.prog.underlying f1.type = some .string ∧ Try.prog.cellsOf f0.type = 1 ∧ Try.prog.cellsOf f1.type = 1 :=
  ⟨_, _, rfl, rfl, rfl, rfl, rfl, by kernel_rfl, by kernel_rfl⟩

set_option maxRecDepth 100000 in
theorem node_fields : ∃ f0 f1 f2 f3 f4 : Field, Try.prog.underlying 37 = some (.struct #[f0, f1, f2, f3, f4]) ∧ (f0.offset = 0 ∧ f1.offset = 1 ∧ f2.offset = 2 ∧ f3.offset = 3 ∧ f4.offset = 4) ∧
    (Try.prog.underlying f0.type = some (.int .i64) ∧ Try.prog.underlying f1.type = some (.int .i64) ∧ Try.prog.underlying f2.type = some (.int .i64) ∧ f3.type = 35 ∧ Try.prog.underlying f4.type = some .string) ∧
    Try.prog.cellsOf f0.type = 1 ∧ Try.prog.cellsOf f1.type = 1 ∧ Try.prog.cellsOf f2.type = 1 ∧ Try.prog.cellsOf f3.type = 1 ∧ Try.prog.cellsOf f4.type = 1 :=
  ⟨_, _, _, _, _, rfl, ⟨rfl, rfl, rfl, rfl, rfl⟩, ⟨rfl, rfl, rfl, rfl, rfl⟩, by kernel_rfl, by kernel_rfl, by kernel_rfl, by kernel_rfl, by kernel_rfl⟩

section
variable {H : Type} {enc : TypeId × Value → H} {w : World} {base : Nat} {spare : Nat → Bool} {held : Bool}
set_option maxRecDepth 100000 in
theorem open_pcs {fuel : Nat} {v : Value} {x : DataW H × List MemPlace} (h : DataW.trod enc Try.prog w base spare held fuel 35 [v] = some x) : ∃ ps : List Piece, Pcs w (Old w) v ps := by
  rcases Go.Deep.open_slice (e := 85) (by kernel_rfl) h with ⟨e, _⟩ | ⟨a, len, cap, m, n, D, Pl, e, hb, hl, hm, hmm, _, hx⟩
  · cases e
    exact ⟨[], Rd.nil _ _ _⟩
  · cases e
    have hlm : len ≤ m := by rw [hmm]; split <;> omega
    obtain ⟨ps, hps, hq⟩ := list_of (fun i (p : Piece) => ∀ j u, (pcCells p)[j]? = some u → w.cell? (a.add (i * 2 + j)) = some u) len (fun i hi => by
      obtain ⟨cs', h1, h2⟩ := hx i (by omega)
      rw [show Try.prog.cellsOf 85 = 2 by kernel_rfl] at h1
      obtain ⟨_, hlen, hcell⟩ := World.cells?_some h1
      obtain ⟨f0, f1, hu, o0, o1, u0, u1, k0, k1⟩ := piece_fields
      obtain ⟨xs, k, _, _, _, hxl, hf⟩ := DataW.trod_struct hu h2
      match cs', hlen with
      | [y0, y1], _ =>
        have t0 := hf 0 f0 rfl
        have t1 := hf 1 f1 rfl
        match xs, hxl with
        | [z0, z1], _ =>
          simp only [o0, o1, k0, k1, List.drop_zero, List.take_succ_cons, List.take_zero, List.drop_succ_cons, List.getElem?_cons_zero, List.getElem?_cons_succ] at t0 t1
          obtain ⟨tok, e0, _⟩ := DataW.trod_int u0 t0
          obtain ⟨s, e1, _⟩ := DataW.trod_string u1 t1
          cases e0; cases e1
          refine ⟨⟨tok, s⟩, fun j u hj => ?_⟩
          have hj2 : j < 2 := (List.getElem?_eq_some_iff.1 hj).1
          have := hcell j hj2
          rw [Go.Deep.add_add] at this
          rw [this]
          exact hj)
    exact ⟨ps, by
      have := rd_of_flat (w := w) (a := a) (c := cap) pcCells (by decide) (fun _ => rfl) ps hps hl hm hq
      unfold Pcs
      rw [hps]
      exact this⟩
set_option maxRecDepth 100000 in
theorem open_nds {fuel : Nat} {v : Value} {x : DataW H × List MemPlace} (h : DataW.trod enc Try.prog w base spare held fuel 27 [v] = some x) : ∃ t : List Node, Nds w (Old w) v t := by
  rcases Go.Deep.open_slice (e := 37) (by kernel_rfl) h with ⟨e, _⟩ | ⟨a, len, cap, m, n, D, Pl, e, hb, hl, hm, hmm, _, hx⟩
  · cases e
    exact ⟨[], [], rfl, Rd.nil _ _ _, fun i x l h => by simp at h⟩
  · cases e
    have hlm : len ≤ m := by rw [hmm]; split <;> omega
    obtain ⟨ps, hps, hq⟩ := list_of (fun i (p : Node × Value) => (∀ j u, (ndCells p.1 p.2)[j]? = some u → w.cell? (a.add (i * 5 + j)) = some u) ∧ Pcs w (Old w) p.2 p.1.lead) len (fun i hi => by
      obtain ⟨cs', h1, h2⟩ := hx i (by omega)
      rw [show Try.prog.cellsOf 37 = 5 by kernel_rfl] at h1
      obtain ⟨_, hlen, hcell⟩ := World.cells?_some h1
      obtain ⟨f0, f1, f2, f3, f4, hu, ⟨o0, o1, o2, o3, o4⟩, ⟨u0, u1, u2, u3, u4⟩, k0, k1, k2, k3, k4⟩ := node_fields
      obtain ⟨xs, k, _, _, _, hxl, hf⟩ := DataW.trod_struct hu h2
      match cs', hlen with
      | [y0, y1, y2, y3, y4], _ =>
        have t0 := hf 0 f0 rfl
        have t1 := hf 1 f1 rfl
        have t2 := hf 2 f2 rfl
        have t3 := hf 3 f3 rfl
        have t4 := hf 4 f4 rfl
        match xs, hxl with
        | [z0, z1, z2, z3, z4], _ =>
          simp only [o0, o1, o2, o3, o4, k0, k1, k2, k3, k4, List.drop_zero, List.take_succ_cons, List.take_zero, List.drop_succ_cons, List.getElem?_cons_zero, List.getElem?_cons_succ] at t0 t1 t2 t3 t4
          obtain ⟨kd, e0, _⟩ := DataW.trod_int u0 t0
          obtain ⟨nn, e1, _⟩ := DataW.trod_int u1 t1
          obtain ⟨sd, e2, _⟩ := DataW.trod_int u2 t2
          obtain ⟨s, e4, _⟩ := DataW.trod_string u4 t4
          rw [u3] at t3
          obtain ⟨ld, hld⟩ := open_pcs t3
          cases e0; cases e1; cases e2; cases e4
          refine ⟨(⟨kd, nn, sd, ld, s⟩, y3), fun j u hj => ?_, hld⟩
          have hj2 : j < 5 := (List.getElem?_eq_some_iff.1 hj).1
          have := hcell j hj2
          rw [Go.Deep.add_add] at this
          rw [this]
          exact hj)
    have hz : (ps.map (·.1)).zip (ps.map (·.2)) = ps := by
      rw [List.zip_map', List.map_id'' (fun _ => rfl)]
    have hlen1 : (ps.map (·.1)).length = len := by simp [hps]
    refine ⟨ps.map (·.1), ps.map (·.2), by simp, ?_, fun i x l hx hl => ?_⟩
    · unfold allCells
      rw [hz, hlen1]
      exact rd_of_flat (w := w) (a := a) (c := cap) (fun x : Node × Value => ndCells x.1 x.2) (by decide) (fun _ => rfl) ps hps hl hm (fun i x h => (hq i x h).1)
    · rw [List.getElem?_map, Option.map_eq_some_iff] at hx hl
      obtain ⟨p, hp, rfl⟩ := hx
      obtain ⟨p', hp', rfl⟩ := hl
      rw [hp] at hp'; cases hp'
      exact (hq i p hp).2
end
end Go.Proofs.Ytmmhkjdnejeooaa.T

namespace Go.Proofs.Ytmmhkjdnejeooaa.T
open Go.RowKit Go.Shelf Go.ChangeShapes Go.WideShapes

/-- Nothing in the node is larger than R. -/
def FitP (R : Nat) (l : List Piece) : Prop := l.length * 24 ≤ R ∧ ∀ p ∈ l, p.text.size ≤ R
def FitN (R : Nat) (x : Node) : Prop := FitP R x.lead ∧ x.text.size ≤ R
def bulkP (l : List Piece) : Nat := (l.map fun p => p.text.size + 1).sum
def bulkN (x : Node) : Nat := bulkP x.lead + x.text.size + 1
def bulkT (t : List Node) : Nat := (t.map bulkN).sum

theorem sum_le_range {α : Type} (f : α → Nat) (g : Nat → Nat) : ∀ (l : List α) (k : Nat), (∀ i x, l[i]? = some x → f x ≤ g (k + i)) → (l.map f).sum ≤ ((List.range' k l.length).map g).sum := by
  intro l
  induction l with
  | nil => simp
  | cons y l ih =>
    intro k h
    rw [List.length_cons, List.range'_succ, List.map_cons, List.map_cons, List.sum_cons, List.sum_cons]
    have h0 := h 0 y rfl
    have := ih (k + 1) (fun i x hx => by
      have := h (i + 1) x (by simpa using hx)
      rwa [show k + (i + 1) = k + 1 + i by omega] at this)
    rw [Nat.add_zero] at h0
    omega
theorem bulkAll_sum {H : Type} (l : List (DataW H)) : Rows.uptoBulkAll l = (l.map Rows.uptoBulk).sum := by
  induction l with
  | nil => rfl
  | cons y l ih => simp only [Rows.uptoBulkAll, List.map_cons, List.sum_cons, ih]
theorem weightsAll_mem {H : Type} {P : Program} {e : TypeId} {l : List (DataW H)} {d : DataW H} (h : d ∈ l) {n : Nat} (hn : n ∈ d.weights P e) : n ∈ DataW.weightsAll P e l := by
  induction l with
  | nil => cases h
  | cons y l ih =>
    simp only [DataW.weightsAll, List.mem_append]
    rw [List.mem_cons] at h
    rcases h with rfl | h
    · exact .inl hn
    · exact .inr (ih h)
theorem weights_slice {H : Type} {P : Program} {t e : TypeId} (ht : P.underlying t = some (.slice e)) (elems spare : List (DataW H)) : (DataW.slice elems spare).weights P t = (elems.length + spare.length) * P.bytesOf e :: (DataW.weightsAll P e elems ++ DataW.weightsAll P e spare) := by
  simp [DataW.weights, ht]
theorem weights_struct {H : Type} {P : Program} {t : TypeId} {fs : Array Field} (ht : P.underlying t = some (.struct fs)) (parts : List (DataW H)) : (DataW.agg parts).weights P t = DataW.weightsEach P (fs.toList.map (·.type)) parts := by
  simp [DataW.weights, ht]

section
variable {H : Type} {enc : TypeId × Value → H} {w : World} {base : Nat} {spare : Nat → Bool} {held : Bool}
set_option maxRecDepth 100000 in
theorem open_pcs_d {fuel : Nat} {v : Value} {x : DataW H × List MemPlace} (h : DataW.trod enc Try.prog w base spare held fuel 35 [v] = some x) :
    ∃ ps : List Piece, Pcs w (Old w) v ps ∧ (∀ R, (∀ n ∈ x.1.weights Try.prog 35, n ≤ R) → FitP R ps) ∧ bulkP ps ≤ Rows.uptoBulk x.1 := by
  rcases Go.Deep.open_slice (e := 85) (by kernel_rfl) h with ⟨e, hx⟩ | ⟨a, len, cap, m, n, D, Pl, e, hb, hl, hm, hmm, hxd, hx⟩
  · cases e
    exact ⟨[], Rd.nil _ _ _, fun R _ => ⟨by simp, fun p hp => (by cases hp)⟩, by simp [bulkP]⟩
  · cases e
    have hlm : len ≤ m := by rw [hmm]; split <;> omega
    obtain ⟨ps, hps, hq⟩ := list_of (fun i (p : Piece) => (∀ j u, (pcCells p)[j]? = some u → w.cell? (a.add (i * 2 + j)) = some u) ∧ (p.text.size ∈ (D i).weights Try.prog 85 ∧ p.text.size + 1 ≤ Rows.uptoBulk (D i))) len (fun i hi => by
      obtain ⟨cs', h1, h2⟩ := hx i (by omega)
      rw [show Try.prog.cellsOf 85 = 2 by kernel_rfl] at h1
      obtain ⟨_, hlen, hcell⟩ := World.cells?_some h1
      obtain ⟨f0, f1, hu, o0, o1, u0, u1, k0, k1⟩ := piece_fields
      obtain ⟨xs, k, _, hxs, _, hxl, hf⟩ := DataW.trod_struct hu h2
      match cs', hlen with
      | [y0, y1], _ =>
        have t0 := hf 0 f0 rfl
        have t1 := hf 1 f1 rfl
        match xs, hxl with
        | [z0, z1], _ =>
          simp only [o0, o1, k0, k1, List.drop_zero, List.take_succ_cons, List.take_zero, List.drop_succ_cons, List.getElem?_cons_zero, List.getElem?_cons_succ] at t0 t1
          obtain ⟨tok, e0, d0, _⟩ := DataW.trod_int u0 t0
          obtain ⟨s, e1, d1, _⟩ := DataW.trod_string u1 t1
          cases e0; cases e1
          have hD : D i = .agg [z0.1, z1.1] := congrArg Prod.fst hxs
          refine ⟨⟨tok, s⟩, fun j u hj => ?_, ?_⟩
          · have hj2 : j < 2 := (List.getElem?_eq_some_iff.1 hj).1
            have := hcell j hj2
            rw [Go.Deep.add_add] at this
            rw [this]
            exact hj
          · rw [hD, weights_struct hu, d1]
            refine ⟨?_, ?_⟩
            · simp [DataW.weightsEach, DataW.weights]
            · simp [Rows.uptoBulk, Rows.uptoBulkAll]; omega)
    refine ⟨ps, ?_, fun R hR => ?_, ?_⟩
    · have := rd_of_flat (w := w) (a := a) (c := cap) pcCells (by decide) (fun _ => rfl) ps hps hl hm (fun i x hi => (hq i x hi).1)
      unfold Pcs
      rw [hps]
      exact this
    · rw [hxd] at hR
      rw [weights_slice (e := 85) (by kernel_rfl)] at hR
      refine ⟨?_, fun p hp => ?_⟩
      · have := hR _ (List.mem_cons_self ..)
        rw [show Try.prog.bytesOf 85 = 24 by kernel_rfl] at this
        simp at this
        omega
      · obtain ⟨i, hi, e⟩ := List.mem_iff_getElem.1 hp
        have hx := List.getElem?_eq_getElem hi
        rw [e] at hx
        refine hR _ (List.mem_cons_of_mem _ (List.mem_append_left _ (weightsAll_mem (List.mem_map.2 ⟨i, by simp; omega, rfl⟩) (hq i p hx).2.1)))
    · rw [hxd]
      simp only [Rows.uptoBulk, bulkAll_sum]
      have := sum_le_range (fun p : Piece => p.text.size + 1) (fun i => Rows.uptoBulk (D i)) ps 0 (fun i x hx => by rw [Nat.zero_add]; exact (hq i x hx).2.2)
      rw [hps, ← List.range_eq_range'] at this
      rw [List.map_map]
      unfold bulkP
      have e : ((List.range len).map (Rows.uptoBulk ∘ D)).sum = ((List.range len).map fun i => Rows.uptoBulk (D i)).sum := rfl
      omega
set_option maxRecDepth 100000 in
theorem open_nds_d {fuel : Nat} {v : Value} {x : DataW H × List MemPlace} (h : DataW.trod enc Try.prog w base spare held fuel 27 [v] = some x) :
    ∃ t : List Node, Nds w (Old w) v t ∧ (∀ R, (∀ n ∈ x.1.weights Try.prog 27, n ≤ R) → ∀ y ∈ t, FitN R y) ∧ bulkT t ≤ Rows.uptoBulk x.1 := by
  rcases Go.Deep.open_slice (e := 37) (by kernel_rfl) h with ⟨e, _⟩ | ⟨a, len, cap, m, n, D, Pl, e, hb, hl, hm, hmm, hxd, hx⟩
  · cases e
    exact ⟨[], ⟨[], rfl, Rd.nil _ _ _, fun i x l h => by simp at h⟩, fun R hR y hy => (by cases hy), by simp [bulkT]⟩
  · cases e
    have hlm : len ≤ m := by rw [hmm]; split <;> omega
    obtain ⟨ps, hps, hq⟩ := list_of (fun i (p : Node × Value) => (∀ j u, (ndCells p.1 p.2)[j]? = some u → w.cell? (a.add (i * 5 + j)) = some u) ∧ Pcs w (Old w) p.2 p.1.lead ∧ (∀ R, (∀ n ∈ (D i).weights Try.prog 37, n ≤ R) → FitN R p.1) ∧ bulkN p.1 ≤ Rows.uptoBulk (D i)) len (fun i hi => by
      obtain ⟨cs', h1, h2⟩ := hx i (by omega)
      rw [show Try.prog.cellsOf 37 = 5 by kernel_rfl] at h1
      obtain ⟨_, hlen, hcell⟩ := World.cells?_some h1
      obtain ⟨f0, f1, f2, f3, f4, hu, ⟨o0, o1, o2, o3, o4⟩, ⟨u0, u1, u2, u3, u4⟩, k0, k1, k2, k3, k4⟩ := node_fields
      obtain ⟨xs, k, _, hxs, _, hxl, hf⟩ := DataW.trod_struct hu h2
      match cs', hlen with
      | [y0, y1, y2, y3, y4], _ =>
        have t0 := hf 0 f0 rfl
        have t1 := hf 1 f1 rfl
        have t2 := hf 2 f2 rfl
        have t3 := hf 3 f3 rfl
        have t4 := hf 4 f4 rfl
        match xs, hxl with
        | [z0, z1, z2, z3, z4], _ =>
          simp only [o0, o1, o2, o3, o4, k0, k1, k2, k3, k4, List.drop_zero, List.take_succ_cons, List.take_zero, List.drop_succ_cons, List.getElem?_cons_zero, List.getElem?_cons_succ] at t0 t1 t2 t3 t4
          obtain ⟨kd, e0, d0, _⟩ := DataW.trod_int u0 t0
          obtain ⟨nn, e1, d1, _⟩ := DataW.trod_int u1 t1
          obtain ⟨sd, e2, d2, _⟩ := DataW.trod_int u2 t2
          obtain ⟨s, e4, d4, _⟩ := DataW.trod_string u4 t4
          rw [u3] at t3
          obtain ⟨ld, hld, hfit, hbulk⟩ := open_pcs_d t3
          cases e0; cases e1; cases e2; cases e4
          have hD : D i = .agg [z0.1, z1.1, z2.1, z3.1, z4.1] := congrArg Prod.fst hxs
          refine ⟨(⟨kd, nn, sd, ld, s⟩, y3), fun j u hj => ?_, hld, fun R hR => ?_, ?_⟩
          · have hj2 : j < 5 := (List.getElem?_eq_some_iff.1 hj).1
            have := hcell j hj2
            rw [Go.Deep.add_add] at this
            rw [this]
            exact hj
          · rw [hD, weights_struct hu] at hR
            refine ⟨hfit R (fun n hn => hR n ?_), hR _ ?_⟩
            · rw [← u3] at hn
              simp only [DataW.weightsEach, List.map_cons, List.mem_append]
              exact .inr (.inr (.inr (.inl hn)))
            · rw [d4]
              simp [DataW.weightsEach, DataW.weights]
          · rw [hD, d4]
            simp [Rows.uptoBulk, Rows.uptoBulkAll, bulkN]; omega)
    have hz : (ps.map (·.1)).zip (ps.map (·.2)) = ps := by
      rw [List.zip_map', List.map_id'' (fun _ => rfl)]
    have hlen1 : (ps.map (·.1)).length = len := by simp [hps]
    have hat : ∀ i x, (ps.map (·.1))[i]? = some x → ∃ p : Node × Value, ps[i]? = some p ∧ p.1 = x := fun i x hx => by
      rw [List.getElem?_map, Option.map_eq_some_iff] at hx
      exact hx
    refine ⟨ps.map (·.1), ⟨ps.map (·.2), by simp, ?_, fun i x l hx hl => ?_⟩, fun R hR y hy => ?_, ?_⟩
    · unfold allCells
      rw [hz, hlen1]
      exact rd_of_flat (w := w) (a := a) (c := cap) (fun x : Node × Value => ndCells x.1 x.2) (by decide) (fun _ => rfl) ps hps hl hm (fun i x h => (hq i x h).1)
    · rw [List.getElem?_map, Option.map_eq_some_iff] at hx hl
      obtain ⟨p, hp, rfl⟩ := hx
      obtain ⟨p', hp', rfl⟩ := hl
      rw [hp] at hp'; cases hp'
      exact (hq i p hp).2.1
    · obtain ⟨i, hi, e⟩ := List.mem_iff_getElem.1 hy
      have hx2 := List.getElem?_eq_getElem hi
      rw [e] at hx2
      obtain ⟨p, hp, rfl⟩ := hat i y hx2
      have hi2 : i < len := by rw [hlen1] at hi; exact hi
      refine (hq i p hp).2.2.1 R (fun n hn => hR n ?_)
      rw [hxd, weights_slice (e := 37) (by kernel_rfl)]
      exact List.mem_cons_of_mem _ (List.mem_append_left _ (weightsAll_mem (List.mem_map.2 ⟨i, by simp; omega, rfl⟩) hn))
    · rw [hxd]
      simp only [Rows.uptoBulk, bulkAll_sum]
      have := sum_le_range bulkN (fun i => Rows.uptoBulk (D i)) (ps.map (·.1)) 0 (fun i x hx => by
        rw [Nat.zero_add]
        obtain ⟨p, hp, rfl⟩ := hat i x hx
        exact (hq i p hp).2.2.2)
      rw [hlen1, ← List.range_eq_range'] at this
      rw [List.map_map]
      unfold bulkT
      have e : ((List.range len).map (Rows.uptoBulk ∘ D)).sum = ((List.range len).map fun i => Rows.uptoBulk (D i)).sum := rfl
      omega
end
end Go.Proofs.Ytmmhkjdnejeooaa.T
