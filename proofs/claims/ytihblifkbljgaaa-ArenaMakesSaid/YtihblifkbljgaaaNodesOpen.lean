/-
  An argument of pieces or nodes, opened.
-/
import Derived.Test.YtihblifkbljgaaaNodes
import Derived.Deep.Slices
import Derived.ChangeArms
namespace Go.Proofs.Ytihblifkbljgaaa
open Go.RowKit Go.Shelf Go.ChangeShapes Go.WideShapes

theorem list_of {α : Type} (Q : Nat → α → Prop) : ∀ n, (∀ i, i < n → ∃ x, Q i x) → ∃ l : List α, l.length = n ∧ ∀ i x, l[i]? = some x → Q i x := by
  intro n
  induction n with
  | zero => exact fun _ => ⟨[], rfl, fun i x h => by simp at h⟩
  | succ n ih =>
    intro h
    obtain ⟨l, hl, hq⟩ := ih (fun i hi => h i (by omega))
    obtain ⟨x, hx⟩ := h n (by omega)
    refine ⟨l ++ [x], by simp [hl], fun i y hy => ?_⟩
    by_cases hi : i < n
    · rw [List.getElem?_append_left (by omega)] at hy; exact hq i y hy
    · obtain rfl : i = n := by
        have := (List.getElem?_eq_some_iff.1 hy).1
        simp [hl] at this; omega
      rw [List.getElem?_append_right (by omega), hl] at hy
      simp at hy; subst hy; exact hx

/-- Cells that stand one element behind another, each of k. -/
theorem rd_of_flat {α : Type} {w : World} {a : Addr} {n c k : Nat} (f : α → List Value) (hk : 0 < k) (hf : ∀ x, (f x).length = k) (l : List α) (hl : l.length = n) (hc1 : n ≤ c) (hc2 : c ≤ maxLen)
    (h : ∀ i x, l[i]? = some x → ∀ j u, (f x)[j]? = some u → w.cell? (a.add (i * k + j)) = some u) : Rd w (Old w) k (.slice (some a) n c) n (l.flatMap f) := by
  refine ⟨by rw [flat_len f k hf, hl], _, _, rfl, hc1, hc2, fun h0 => ?_⟩
  rw [flat_len f k hf] at h0
  have hl0 : 0 < l.length := by
    by_cases e : l.length = 0
    · rw [e] at h0; omega
    · omega
  have hx := List.getElem?_eq_getElem hl0
  have hfx : 0 < (f l[0]).length := by rw [hf]; exact hk
  have hfirst := h 0 _ hx 0 _ (List.getElem?_eq_getElem hfx)
  have hadd : a.add (0 * k + 0) = a := by simp [Addr.add]
  rw [hadd] at hfirst
  have hsp := World.cell?_spot hfirst
  obtain ⟨b, off, sp⟩ := a
  dsimp only at hsp
  subst hsp
  obtain ⟨o, ho, _⟩ := cells_of_cell hfirst
  refine ⟨b, off, rfl, (Array.getElem?_eq_some_iff.1 ho).1, fun j u hu => ?_⟩
  have hj : j < l.length * k := by
    have := (List.getElem?_eq_some_iff.1 hu).1
    rwa [flat_len f k hf] at this
  have hi : j / k < l.length := Nat.div_lt_of_lt_mul (by rw [Nat.mul_comm]; exact hj)
  have e : j / k * k + j % k = j := by rw [Nat.mul_comm]; exact Nat.div_add_mod j k
  have hy := List.getElem?_eq_getElem hi
  have := flat_at f k hf l (j / k) (j % k) _ hy (Nat.mod_lt _ hk)
  rw [e] at this
  rw [this] at hu
  have := h _ _ hy _ _ hu
  rwa [e, addr_add] at this

theorem piece_fields : ∃ f0 f1 : Field, Try.prog.underlying 59 = some (.struct #[f0, f1]) ∧ f0.offset = 0 ∧ f1.offset = 1 ∧ Try.prog.underlying f0.type = some (.int .i64) ∧ Try.prog.underlying f1.type = some .string ∧ Try.prog.cellsOf f0.type = 1 ∧ Try.prog.cellsOf f1.type = 1 :=
  ⟨_, _, rfl, rfl, rfl, rfl, rfl, by kernel_rfl, by kernel_rfl⟩

theorem node_fields : ∃ f0 f1 f2 f3 f4 : Field, Try.prog.underlying 29 = some (.struct #[f0, f1, f2, f3, f4]) ∧ (f0.offset = 0 ∧ f1.offset = 1 ∧ f2.offset = 2 ∧ f3.offset = 3 ∧ f4.offset = 4) ∧
    (Try.prog.underlying f0.type = some (.int .i64) ∧ Try.prog.underlying f1.type = some (.int .i64) ∧ Try.prog.underlying f2.type = some (.int .i64) ∧ f3.type = 27 ∧ Try.prog.underlying f4.type = some .string) ∧
    Try.prog.cellsOf f0.type = 1 ∧ Try.prog.cellsOf f1.type = 1 ∧ Try.prog.cellsOf f2.type = 1 ∧ Try.prog.cellsOf f3.type = 1 ∧ Try.prog.cellsOf f4.type = 1 :=
  ⟨_, _, _, _, _, rfl, ⟨rfl, rfl, rfl, rfl, rfl⟩, ⟨rfl, rfl, rfl, rfl, rfl⟩, by kernel_rfl, by kernel_rfl, by kernel_rfl, by kernel_rfl, by kernel_rfl⟩

section
variable {H : Type} {enc : TypeId × Value → H} {w : World} {base : Nat} {spare : Nat → Bool} {held : Bool}
theorem open_pcs {fuel : Nat} {v : Value} {x : DataW H × List MemPlace} (h : DataW.trod enc Try.prog w base spare held fuel 27 [v] = some x) : ∃ ps : List Piece, Pcs w (Old w) v ps := by
  rcases Go.Deep.open_slice (e := 59) (by kernel_rfl) h with ⟨e, _⟩ | ⟨a, len, cap, m, n, D, Pl, e, hb, hl, hm, hmm, _, hx⟩
  · cases e
    exact ⟨[], Rd.nil _ _ _⟩
  · cases e
    have hlm : len ≤ m := by rw [hmm]; split <;> omega
    obtain ⟨ps, hps, hq⟩ := list_of (fun i (p : Piece) => ∀ j u, (pcCells p)[j]? = some u → w.cell? (a.add (i * 2 + j)) = some u) len (fun i hi => by
      obtain ⟨cs', h1, h2⟩ := hx i (by omega)
      rw [show Try.prog.cellsOf 59 = 2 by kernel_rfl] at h1
      obtain ⟨_, hlen, hcell⟩ := World.cells?_some h1
      obtain ⟨f0, f1, hu, o0, o1, u0, u1, k0, k1⟩ := piece_fields
      obtain ⟨xs, k, _, _, _, hxl, hf⟩ := DataW.trod_struct hu h2
      match cs', hlen with
      | [y0, y1], _ =>
        have t0 := hf 0 f0 rfl
        have t1 := hf 1 f1 rfl
        match xs, hxl with
        | [z0, z1], _ =>
          simp only [o0, o1, k0, k1, List.drop_zero, List.take_succ_cons, List.take_zero, List.drop_succ_cons, List.getElem?_cons_zero, List.getElem?_cons_succ] at t0 t1
          obtain ⟨tok, e0, _⟩ := DataW.trod_int u0 t0
          obtain ⟨s, e1, _⟩ := DataW.trod_string u1 t1
          cases e0; cases e1
          refine ⟨⟨tok, s⟩, fun j u hj => ?_⟩
          have hj2 : j < 2 := (List.getElem?_eq_some_iff.1 hj).1
          have := hcell j hj2
          rw [Go.Deep.add_add] at this
          rw [this]
          exact hj)
    exact ⟨ps, by
      have := rd_of_flat (w := w) (a := a) (c := cap) pcCells (by decide) (fun _ => rfl) ps hps hl hm hq
      unfold Pcs
      rw [hps]
      exact this⟩
theorem open_nds {fuel : Nat} {v : Value} {x : DataW H × List MemPlace} (h : DataW.trod enc Try.prog w base spare held fuel 22 [v] = some x) : ∃ t : List Node, Nds w (Old w) v t := by
  rcases Go.Deep.open_slice (e := 29) (by kernel_rfl) h with ⟨e, _⟩ | ⟨a, len, cap, m, n, D, Pl, e, hb, hl, hm, hmm, _, hx⟩
  · cases e
    exact ⟨[], [], rfl, Rd.nil _ _ _, fun i x l h => by simp at h⟩
  · cases e
    have hlm : len ≤ m := by rw [hmm]; split <;> omega
    obtain ⟨ps, hps, hq⟩ := list_of (fun i (p : Node × Value) => (∀ j u, (ndCells p.1 p.2)[j]? = some u → w.cell? (a.add (i * 5 + j)) = some u) ∧ Pcs w (Old w) p.2 p.1.lead) len (fun i hi => by
      obtain ⟨cs', h1, h2⟩ := hx i (by omega)
      rw [show Try.prog.cellsOf 29 = 5 by kernel_rfl] at h1
      obtain ⟨_, hlen, hcell⟩ := World.cells?_some h1
      obtain ⟨f0, f1, f2, f3, f4, hu, ⟨o0, o1, o2, o3, o4⟩, ⟨u0, u1, u2, u3, u4⟩, k0, k1, k2, k3, k4⟩ := node_fields
      obtain ⟨xs, k, _, _, _, hxl, hf⟩ := DataW.trod_struct hu h2
      match cs', hlen with
      | [y0, y1, y2, y3, y4], _ =>
        have t0 := hf 0 f0 rfl
        have t1 := hf 1 f1 rfl
        have t2 := hf 2 f2 rfl
        have t3 := hf 3 f3 rfl
        have t4 := hf 4 f4 rfl
        match xs, hxl with
        | [z0, z1, z2, z3, z4], _ =>
          simp only [o0, o1, o2, o3, o4, k0, k1, k2, k3, k4, List.drop_zero, List.take_succ_cons, List.take_zero, List.drop_succ_cons, List.getElem?_cons_zero, List.getElem?_cons_succ] at t0 t1 t2 t3 t4
          obtain ⟨kd, e0, _⟩ := DataW.trod_int u0 t0
          obtain ⟨nn, e1, _⟩ := DataW.trod_int u1 t1
          obtain ⟨sd, e2, _⟩ := DataW.trod_int u2 t2
          obtain ⟨s, e4, _⟩ := DataW.trod_string u4 t4
          rw [u3] at t3
          obtain ⟨ld, hld⟩ := open_pcs t3
          cases e0; cases e1; cases e2; cases e4
          refine ⟨(⟨kd, nn, sd, ld, s⟩, y3), fun j u hj => ?_, hld⟩
          have hj2 : j < 5 := (List.getElem?_eq_some_iff.1 hj).1
          have := hcell j hj2
          rw [Go.Deep.add_add] at this
          rw [this]
          exact hj)
    have hz : (ps.map (·.1)).zip (ps.map (·.2)) = ps := by
      rw [List.zip_map', List.map_id'' (fun _ => rfl)]
    have hlen1 : (ps.map (·.1)).length = len := by simp [hps]
    refine ⟨ps.map (·.1), ps.map (·.2), by simp, ?_, fun i x l hx hl => ?_⟩
    · unfold allCells
      rw [hz, hlen1]
      exact rd_of_flat (w := w) (a := a) (c := cap) (fun x : Node × Value => ndCells x.1 x.2) (by decide) (fun _ => rfl) ps hps hl hm (fun i x h => (hq i x h).1)
    · rw [List.getElem?_map, Option.map_eq_some_iff] at hx hl
      obtain ⟨p, hp, rfl⟩ := hx
      obtain ⟨p', hp', rfl⟩ := hl
      rw [hp] at hp'; cases hp'
      exact (hq i p hp).2
end
end Go.Proofs.Ytihblifkbljgaaa
