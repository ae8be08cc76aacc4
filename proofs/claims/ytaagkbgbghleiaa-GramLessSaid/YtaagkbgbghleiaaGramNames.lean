/-
  facsimileref18.Names, name, token, item, prod.
-/
import Derived.Test.YtaagkbgbghleiaaGramRef
namespace Go.Proofs.Ytaagkbgbghleiaa
open Go.RowKit Go.Shelf

theorem gram_cells {w : World} {p : Nat} {a b c : Value} {g : Gram} (h : Holds w p 36 (gramCells a b c g)) :
    w.cell? ⟨p, 0, none⟩ = some a ∧ w.cell? ⟨p, 1, none⟩ = some b ∧ w.cell? ⟨p, 2, none⟩ = some c ∧ w.cell? ⟨p, 3, none⟩ = some (.int .i64 g.start) ∧ w.cell? ⟨p, 4, none⟩ = some (.int .i64 g.states) ∧ w.cell? ⟨p, 5, none⟩ = some (.int .i64 g.text) ∧ w.cell? ⟨p, 6, none⟩ = some (.int .i64 g.nodes) ∧ w.cell? ⟨p, 7, none⟩ = some (.int .i64 g.pairs) :=
  ⟨h.cell 0, h.cell 1, h.cell 2, h.cell 3, h.cell 4, h.cell 5, h.cell 6, h.cell 7⟩
theorem gram_boxed (w : World) {a b c : Value} {g : Gram} (HG : GramIs w (Old w) a b c g) : ∃ W0, Hid (W0 = w.alloc (.cells (gramCells a b c g) 36)) ∧ Hid (GramIs W0 (Old W0) a b c g) ∧ Hid (Holds W0 w.heap.size 36 (gramCells a b c g)) ∧ Below w.heap.size w W0 ∧ W0.heap.size ≤ w.heap.size + 1 ∧ w.heap.size + 1 ≤ W0.heap.size := by
  have hb := (Below.refl w.heap.size w).alloc (Nat.le_refl _) (.cells (gramCells a b c g) 36)
  exact ⟨_, hidden rfl, hidden (HG.old hb), hidden (Holds.new _ _ _), hb, by simp, by simp⟩

theorem tokNames_len (g : Gram) : (tokNames g).length = g.toks.length := by simp [tokNames]
theorem allNames_len (g : Gram) : (allNames g).length = g.toks.length + g.rules.length := by simp [allNames, tokNames]
theorem tokNames_at {g : Gram} {k : Nat} {t : Token} (h : g.toks[k]? = some t) : (tokNames g)[k]? = some t.name := by simp [tokNames, h]
theorem take_snoc_at {α : Type} {l : List α} {k : Nat} {x : α} (h : l[k]? = some x) : l.take k ++ [x] = l.take (k + 1) := by
  rw [List.take_add_one, h]; rfl
theorem allNames_take {g : Gram} {k : Nat} : (allNames g).take (g.toks.length + k) = tokNames g ++ g.rules.take k := by
  unfold allNames
  rw [← tokNames_len, List.take_length_add_append]
theorem allNames_take_le {g : Gram} {k : Nat} (h : k ≤ g.toks.length) : (allNames g).take k = (tokNames g).take k := by
  unfold allNames
  rw [List.take_append_of_le_length (by rw [tokNames_len]; exact h)]

set_option maxRecDepth 20000 in
set_option maxHeartbeats 4000000 in
theorem ref_Names (a b c : Value) (g : Gram) (w : World) (HG : GramIs w (Old w) a b c g) (h1 : g.toks.length ≤ 100000) (h2 : g.rules.length ≤ 100000) :
    Calls Try.prog 75 #[.agg (gramCells a b c g)] w fun r w' => (∃ u, r = .returned u ∧ Hid (StrsM w' w.heap.size u (allNames g))) ∧ Below w.heap.size w w' := by
  obtain ⟨W0, HW0, HG0, HB0, hb0, z1, z2⟩ := gram_boxed w HG
  have HN0 : Hid (∀ k, (allNames g).take (g.toks.length + k) = tokNames g ++ g.rules.take k) := hidden (fun k => allNames_take)
  obtain ⟨⟨A1, k1, rfl, v1, m1⟩, ⟨A2, k2, rfl, v2, m2⟩, ⟨A3, k3, rfl, v3, m3⟩⟩ := HG.vals
  unfold gramCells at HW0 ⊢
  clear HG
  have HL1 := hidden (tokNames_len g)
  go_enter Try.func75, Try.ntmps75
  go_wp2
  go_loopw [3, 4] (fun vv ii wr => ∃ k : Nat, k ≤ g.toks.length ∧ ii = .int .i64 k ∧ Hid (StrsM wr (w.heap.size + 1) vv ((tokNames g).take k)) ∧ Below (w.heap.size + 1) W0 wr) (fun _ ii _ => g.toks.length - (intOf ii).toNat)
  case atStart =>
    refine ⟨0, by omega, rfl, hidden (Mine.fresh_nil _ _ _ _ _), ?_⟩
    rw [HW0.out]
    exact (Below.refl _ _).alloc (by simp) _
  case round =>
    obtain ⟨k, hk, rfl, HM, hb⟩ := hrel
    have hbz := hb.size
    obtain ⟨x0, x1, x2, x3, x4, x5, x6, x7⟩ := gram_cells (HB0.out.below hb (by omega))
    by_cases hlt : k < g.toks.length
    · have hx := List.getElem?_eq_getElem hlt
      generalize g.toks[k] = t at *
      obtain ⟨b1, o1, l1, rfl, _, hat, _⟩ := (HG0.out.1.below hb (fun k (h : k < W0.heap.size) => by omega)).at_ hx
      have y0 := hat 0 _ rfl
      rw [Nat.add_zero, show tokR.k = 3 from rfl] at y0
      have HX := hidden (take_snoc_at (tokNames_at hx))
      clear hat hx
      go_wp2_with (at_builtin; refine wpList_append_str rfl _ _ rfl (w.heap.size + 1) _ _ HM t.name rfl rfl rfl rfl (by rw [List.length_take]; omega) (by omega) ?_; intro v' w' hA hb2 hK)
      go_roundw
      case rel => exact ⟨k + 1, by omega, by go_num, by rw [HX.out] at hA; exact hA, hb.trans hb2⟩
      case measure => simp [intOf]; omega
    · obtain rfl : k = g.toks.length := by omega
      have HM1 : Hid (StrsM wr (w.heap.size + 1) u3 ((allNames g).take (g.toks.length + 0))) := hidden (by
        rw [HN0.out, List.take_zero, List.append_nil]
        have := HM.out
        rwa [List.take_of_length_le (by rw [HL1.out]; omega)] at this)
      have hbA := hb
      go_wp2
      clear HM hb x0 x1 x2 x3 x4 x5 x6 x7
      obtain ⟨wo, rfl⟩ : ∃ wo : World, wo = wr := ⟨_, rfl⟩
      go_loopw [3, 5] (fun vv ii wr => ∃ k : Nat, k ≤ g.rules.length ∧ ii = .int .i64 k ∧ Hid (StrsM wr (w.heap.size + 1) vv ((allNames g).take (g.toks.length + k))) ∧ Below (w.heap.size + 1) W0 wr) (fun _ ii _ => g.rules.length - (intOf ii).toNat)
      case atStart => exact ⟨0, by omega, rfl, HM1, hbA⟩
      case round =>
        obtain ⟨k, hk, rfl, HM, hb⟩ := hrel
        have hbz := hb.size
        obtain ⟨x0, x1, x2, x3, x4, x5, x6, x7⟩ := gram_cells (HB0.out.below hb (by omega))
        by_cases hlt : k < g.rules.length
        · have hx := List.getElem?_eq_getElem hlt
          generalize g.rules[k] = t at *
          obtain ⟨b1, o1, rfl, _, y0⟩ := strs_at (Rd.below HG0.out.2.1 hb (fun k (h : k < W0.heap.size) => by omega)) hx
          have HX : Hid (((allNames g).take (g.toks.length + k)) ++ [t] = (allNames g).take (g.toks.length + (k + 1))) := hidden (by
            rw [HN0.out, HN0.out, List.append_assoc, take_snoc_at hx])
          clear hx
          go_wp2_with (at_builtin; refine wpList_append_str rfl _ _ rfl (w.heap.size + 1) _ _ HM t rfl rfl rfl rfl (by rw [List.length_take]; omega) (by omega) ?_; intro v' w' hA hb2 hK)
          go_roundw
          case rel => exact ⟨k + 1, by omega, by go_num, by rw [HX.out] at hA; exact hA, hb.trans hb2⟩
          case measure => simp [intOf]; omega
        · obtain rfl : k = g.rules.length := by omega
          have HE : Hid ((allNames g).take (g.toks.length + g.rules.length) = allNames g) := hidden (List.take_of_length_le (by rw [allNames_len]; omega))
          rw [HE.out] at HM
          go_wp2
          go_ret
          exact ⟨⟨_, rfl, hidden (Mine.base HM.out (by omega))⟩, hb0.trans (hb.mono (by omega))⟩
end Go.Proofs.Ytaagkbgbghleiaa
