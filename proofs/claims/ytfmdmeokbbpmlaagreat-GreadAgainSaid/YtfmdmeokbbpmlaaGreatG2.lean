/-
  facsimileref18: sizes, Names, name, token, item, prod. facsimileref18.Names, name, token, item, prod. facsimileref18.name, token, item. facsimileref18.item. facsimileref18.prod, Of. facsimileref18.Check. facsimileref18.Find, sameProd, Same. facsimileref18.Same.
-/
import Derived.Test.YtfmdmeokbbpmlaaGreatG1
import Derived.Test.YtfmdmeokbbpmlaaGreatB1
import Derived.Deep.CutBlock
import Derived.Deep.DeepCutAuto
import Derived.Deep.RegionHeld3
import Derived.IntWalk
namespace Go.Proofs.YtfmdmeokbbpmlaaGreat
open Go.RowKit Go.Shelf

def defC (d : Defect) : Value := .agg #[.int .i64 d.kind, .int .i64 d.at_, .int .i64 d.more]
theorem ret_def {a b : Defect} (h : a = b) : Ending.returned (defC a) = .returned (defC b) := by rw [h]

theorem GramIs.old {w w' : World} {a b c : Value} {g : Gram} (h : GramIs w (Old w) a b c g) (hb : Below w.heap.size w w') : GramIs w' (Old w') a b c g := ⟨h.1.old hb, Rd.old h.2.1 hb, h.2.2.old hb⟩
theorem GramIs.keeps {T : Nat → Prop} {w w' : World} {a b c : Value} {g : Gram} (h : GramIs w T a b c g) (hk : Keeps T w w') : GramIs w' T a b c g := ⟨h.1.keeps hk, h.2.1.keeps hk, h.2.2.keeps hk⟩
theorem GramIs.below {T : Nat → Prop} {B : Nat} {w w' : World} {a b c : Value} {g : Gram} (h : GramIs w T a b c g) (hb : Below B w w') (hT : ∀ k, T k → k < B) : GramIs w' T a b c g := ⟨h.1.below hb hT, h.2.1.below hb hT, h.2.2.below hb hT⟩
theorem GramIs.vals {T : Nat → Prop} {w : World} {a b c : Value} {g : Gram} (h : GramIs w T a b c g) : (∃ A k, a = .slice A g.toks.length k ∧ g.toks.length ≤ k ∧ k ≤ maxLen) ∧ (∃ A k, b = .slice A g.rules.length k ∧ g.rules.length ≤ k ∧ k ≤ maxLen) ∧ (∃ A k, c = .slice A g.prods.length k ∧ g.prods.length ≤ k ∧ k ≤ maxLen) :=
  ⟨h.1.value, h.2.1.val, h.2.2.value⟩

set_option maxRecDepth 20000 in
set_option maxHeartbeats 4000000 in
theorem ref_sizes (a b c : Value) (g : Gram) (w : World) (HG : GramIs w (Old w) a b c g) :
    Calls Tryz.prog 26 #[.agg (gramCells a b c g)] w fun r w' => r = .returned (defC (sizesOf g)) ∧ Below w.heap.size w w' := by
  obtain ⟨⟨A1, k1, rfl, v1, u1⟩, ⟨A2, k2, rfl, v2, u2⟩, ⟨A3, k3, rfl, v3, u3⟩⟩ := HG.vals
  clear HG
  obtain ⟨toks, rules, prods, st, sa, tx, nd, pr⟩ := g
  unfold sizesOf gramCells
  dsimp only at *
  unfold maxLen at *
  generalize toks.length = n1 at *
  generalize rules.length = n2 at *
  generalize prods.length = n3 at *
  by_cases h1 : 64 < n1
  · rw [if_pos h1]
    go_enter Tryz.func26, Tryz.ntmps26
    go_wp2
    exact bodyPost_ret (v := defC ⟨4, 0, 0⟩) (by simp [results, Tryz.results26, go_sem, defC]) rfl ⟨by first | rfl | rw [HE.out], (by repeat (first | (with_reducible exact Below.refl _ _) | (with_reducible assumption) | (with_reducible refine Below.drew ?_) | (with_reducible refine below_drewN ?_ _) | ((with_reducible refine below_alloc ?_ ?_); (focus (first | omega | (simp; done) | (simp; omega)))) | ((with_reducible refine below_set ?_ ?_); (focus (first | omega | (simp; done) | (simp; omega))))))⟩
  rw [if_neg h1]
  by_cases h2 : 64 < n2
  · rw [if_pos h2]
    go_enter Tryz.func26, Tryz.ntmps26
    go_wp2
    exact bodyPost_ret (v := defC ⟨4, 1, 0⟩) (by simp [results, Tryz.results26, go_sem, defC]) rfl ⟨by first | rfl | rw [HE.out], (by repeat (first | (with_reducible exact Below.refl _ _) | (with_reducible assumption) | (with_reducible refine Below.drew ?_) | (with_reducible refine below_drewN ?_ _) | ((with_reducible refine below_alloc ?_ ?_); (focus (first | omega | (simp; done) | (simp; omega)))) | ((with_reducible refine below_set ?_ ?_); (focus (first | omega | (simp; done) | (simp; omega))))))⟩
  rw [if_neg h2]
  by_cases h3 : 256 < n3
  · rw [if_pos h3]
    go_enter Tryz.func26, Tryz.ntmps26
    go_wp2
    exact bodyPost_ret (v := defC ⟨4, 2, 0⟩) (by simp [results, Tryz.results26, go_sem, defC]) rfl ⟨by first | rfl | rw [HE.out], (by repeat (first | (with_reducible exact Below.refl _ _) | (with_reducible assumption) | (with_reducible refine Below.drew ?_) | (with_reducible refine below_drewN ?_ _) | ((with_reducible refine below_alloc ?_ ?_); (focus (first | omega | (simp; done) | (simp; omega)))) | ((with_reducible refine below_set ?_ ?_); (focus (first | omega | (simp; done) | (simp; omega))))))⟩
  rw [if_neg h3]
  by_cases h4 : sa < 1
  · rw [if_pos (Or.inl h4)]
    go_enter Tryz.func26, Tryz.ntmps26
    go_wp2
    exact bodyPost_ret (v := defC ⟨2, 0, 0⟩) (by simp [results, Tryz.results26, go_sem, defC]) rfl ⟨by first | rfl | rw [HE.out], (by repeat (first | (with_reducible exact Below.refl _ _) | (with_reducible assumption) | (with_reducible refine Below.drew ?_) | (with_reducible refine below_drewN ?_ _) | ((with_reducible refine below_alloc ?_ ?_); (focus (first | omega | (simp; done) | (simp; omega)))) | ((with_reducible refine below_set ?_ ?_); (focus (first | omega | (simp; done) | (simp; omega))))))⟩
  by_cases h4b : 4096 < sa
  · rw [if_pos (Or.inr h4b)]
    go_enter Tryz.func26, Tryz.ntmps26
    go_wp2
    exact bodyPost_ret (v := defC ⟨2, 0, 0⟩) (by simp [results, Tryz.results26, go_sem, defC]) rfl ⟨by first | rfl | rw [HE.out], (by repeat (first | (with_reducible exact Below.refl _ _) | (with_reducible assumption) | (with_reducible refine Below.drew ?_) | (with_reducible refine below_drewN ?_ _) | ((with_reducible refine below_alloc ?_ ?_); (focus (first | omega | (simp; done) | (simp; omega)))) | ((with_reducible refine below_set ?_ ?_); (focus (first | omega | (simp; done) | (simp; omega))))))⟩
  rw [if_neg (by omega)]
  by_cases h5 : tx < 0
  · rw [if_pos (Or.inl h5)]
    go_enter Tryz.func26, Tryz.ntmps26
    go_wp2
    exact bodyPost_ret (v := defC ⟨2, 1, 0⟩) (by simp [results, Tryz.results26, go_sem, defC]) rfl ⟨by first | rfl | rw [HE.out], (by repeat (first | (with_reducible exact Below.refl _ _) | (with_reducible assumption) | (with_reducible refine Below.drew ?_) | (with_reducible refine below_drewN ?_ _) | ((with_reducible refine below_alloc ?_ ?_); (focus (first | omega | (simp; done) | (simp; omega)))) | ((with_reducible refine below_set ?_ ?_); (focus (first | omega | (simp; done) | (simp; omega))))))⟩
  by_cases h5b : 65536 < tx
  · rw [if_pos (Or.inr h5b)]
    go_enter Tryz.func26, Tryz.ntmps26
    go_wp2
    exact bodyPost_ret (v := defC ⟨2, 1, 0⟩) (by simp [results, Tryz.results26, go_sem, defC]) rfl ⟨by first | rfl | rw [HE.out], (by repeat (first | (with_reducible exact Below.refl _ _) | (with_reducible assumption) | (with_reducible refine Below.drew ?_) | (with_reducible refine below_drewN ?_ _) | ((with_reducible refine below_alloc ?_ ?_); (focus (first | omega | (simp; done) | (simp; omega)))) | ((with_reducible refine below_set ?_ ?_); (focus (first | omega | (simp; done) | (simp; omega))))))⟩
  rw [if_neg (by omega)]
  by_cases h6 : nd < 1
  · rw [if_pos (Or.inl h6)]
    go_enter Tryz.func26, Tryz.ntmps26
    go_wp2
    exact bodyPost_ret (v := defC ⟨2, 2, 0⟩) (by simp [results, Tryz.results26, go_sem, defC]) rfl ⟨by first | rfl | rw [HE.out], (by repeat (first | (with_reducible exact Below.refl _ _) | (with_reducible assumption) | (with_reducible refine Below.drew ?_) | (with_reducible refine below_drewN ?_ _) | ((with_reducible refine below_alloc ?_ ?_); (focus (first | omega | (simp; done) | (simp; omega)))) | ((with_reducible refine below_set ?_ ?_); (focus (first | omega | (simp; done) | (simp; omega))))))⟩
  by_cases h6b : 65536 < nd
  · rw [if_pos (Or.inr h6b)]
    go_enter Tryz.func26, Tryz.ntmps26
    go_wp2
    exact bodyPost_ret (v := defC ⟨2, 2, 0⟩) (by simp [results, Tryz.results26, go_sem, defC]) rfl ⟨by first | rfl | rw [HE.out], (by repeat (first | (with_reducible exact Below.refl _ _) | (with_reducible assumption) | (with_reducible refine Below.drew ?_) | (with_reducible refine below_drewN ?_ _) | ((with_reducible refine below_alloc ?_ ?_); (focus (first | omega | (simp; done) | (simp; omega)))) | ((with_reducible refine below_set ?_ ?_); (focus (first | omega | (simp; done) | (simp; omega))))))⟩
  rw [if_neg (by omega)]
  by_cases h7 : pr < 1
  · rw [if_pos (Or.inl h7)]
    go_enter Tryz.func26, Tryz.ntmps26
    go_wp2
    exact bodyPost_ret (v := defC ⟨2, 3, 0⟩) (by simp [results, Tryz.results26, go_sem, defC]) rfl ⟨by first | rfl | rw [HE.out], (by repeat (first | (with_reducible exact Below.refl _ _) | (with_reducible assumption) | (with_reducible refine Below.drew ?_) | (with_reducible refine below_drewN ?_ _) | ((with_reducible refine below_alloc ?_ ?_); (focus (first | omega | (simp; done) | (simp; omega)))) | ((with_reducible refine below_set ?_ ?_); (focus (first | omega | (simp; done) | (simp; omega))))))⟩
  by_cases h7b : 1048576 < pr
  · rw [if_pos (Or.inr h7b)]
    go_enter Tryz.func26, Tryz.ntmps26
    go_wp2
    exact bodyPost_ret (v := defC ⟨2, 3, 0⟩) (by simp [results, Tryz.results26, go_sem, defC]) rfl ⟨by first | rfl | rw [HE.out], (by repeat (first | (with_reducible exact Below.refl _ _) | (with_reducible assumption) | (with_reducible refine Below.drew ?_) | (with_reducible refine below_drewN ?_ _) | ((with_reducible refine below_alloc ?_ ?_); (focus (first | omega | (simp; done) | (simp; omega)))) | ((with_reducible refine below_set ?_ ?_); (focus (first | omega | (simp; done) | (simp; omega))))))⟩
  rw [if_neg (by omega)]
  go_enter Tryz.func26, Tryz.ntmps26
  go_wp2
  exact bodyPost_ret (v := defC ⟨0, 0, 0⟩) (by simp [results, Tryz.results26, go_sem, defC]) rfl ⟨by first | rfl | rw [HE.out], (by repeat (first | (with_reducible exact Below.refl _ _) | (with_reducible assumption) | (with_reducible refine Below.drew ?_) | (with_reducible refine below_drewN ?_ _) | ((with_reducible refine below_alloc ?_ ?_); (focus (first | omega | (simp; done) | (simp; omega)))) | ((with_reducible refine below_set ?_ ?_); (focus (first | omega | (simp; done) | (simp; omega))))))⟩
end Go.Proofs.YtfmdmeokbbpmlaaGreat

namespace Go.Proofs.YtfmdmeokbbpmlaaGreat
open Go.RowKit Go.Shelf

theorem gram_cells {w : World} {p : Nat} {a b c : Value} {g : Gram} (h : Holds w p 27 (gramCells a b c g)) :
    w.cell? ⟨p, 0, none⟩ = some a ∧ w.cell? ⟨p, 1, none⟩ = some b ∧ w.cell? ⟨p, 2, none⟩ = some c ∧ w.cell? ⟨p, 3, none⟩ = some (.int .i64 g.start) ∧ w.cell? ⟨p, 4, none⟩ = some (.int .i64 g.states) ∧ w.cell? ⟨p, 5, none⟩ = some (.int .i64 g.text) ∧ w.cell? ⟨p, 6, none⟩ = some (.int .i64 g.nodes) ∧ w.cell? ⟨p, 7, none⟩ = some (.int .i64 g.pairs) :=
  ⟨h.cell 0, h.cell 1, h.cell 2, h.cell 3, h.cell 4, h.cell 5, h.cell 6, h.cell 7⟩
theorem gram_boxed (w : World) {a b c : Value} {g : Gram} (HG : GramIs w (Old w) a b c g) : ∃ W0, Hid (W0 = w.alloc (.cells (gramCells a b c g) 27)) ∧ Hid (GramIs W0 (Old W0) a b c g) ∧ Hid (Holds W0 w.heap.size 27 (gramCells a b c g)) ∧ Below w.heap.size w W0 ∧ W0.heap.size ≤ w.heap.size + 1 ∧ w.heap.size + 1 ≤ W0.heap.size := by
  have hb := (Below.refl w.heap.size w).alloc (Nat.le_refl _) (.cells (gramCells a b c g) 27)
  exact ⟨_, hidden rfl, hidden (HG.old hb), hidden (Holds.new _ _ _), hb, by simp, by simp⟩

theorem tokNames_len (g : Gram) : (tokNames g).length = g.toks.length := by simp [tokNames]
theorem allNames_len (g : Gram) : (allNames g).length = g.toks.length + g.rules.length := by simp [allNames, tokNames]
theorem tokNames_at {g : Gram} {k : Nat} {t : Token} (h : g.toks[k]? = some t) : (tokNames g)[k]? = some t.name := by simp [tokNames, h]
theorem take_snoc_at {α : Type} {l : List α} {k : Nat} {x : α} (h : l[k]? = some x) : l.take k ++ [x] = l.take (k + 1) := by
  rw [List.take_add_one, h]; rfl
theorem allNames_take {g : Gram} {k : Nat} : (allNames g).take (g.toks.length + k) = tokNames g ++ g.rules.take k := by
  unfold allNames
  rw [← tokNames_len, List.take_length_add_append]
theorem allNames_take_le {g : Gram} {k : Nat} (h : k ≤ g.toks.length) : (allNames g).take k = (tokNames g).take k := by
  unfold allNames
  rw [List.take_append_of_le_length (by rw [tokNames_len]; exact h)]

set_option maxRecDepth 20000 in
set_option maxHeartbeats 4000000 in
theorem ref_Names (a b c : Value) (g : Gram) (w : World) (HG : GramIs w (Old w) a b c g) (h1 : g.toks.length ≤ 100000) (h2 : g.rules.length ≤ 100000) :
    Calls Tryz.prog 29 #[.agg (gramCells a b c g)] w fun r w' => (∃ u, r = .returned u ∧ Hid (StrsM w' w.heap.size u (allNames g))) ∧ Below w.heap.size w w' := by
  obtain ⟨W0, HW0, HG0, HB0, hb0, z1, z2⟩ := gram_boxed w HG
  have HN0 : Hid (∀ k, (allNames g).take (g.toks.length + k) = tokNames g ++ g.rules.take k) := hidden (fun k => allNames_take)
  obtain ⟨⟨A1, k1, rfl, v1, m1⟩, ⟨A2, k2, rfl, v2, m2⟩, ⟨A3, k3, rfl, v3, m3⟩⟩ := HG.vals
  unfold gramCells at HW0 ⊢
  clear HG
  have HL1 := hidden (tokNames_len g)
  go_enter Tryz.func29, Tryz.ntmps29
  go_wp2
  go_loopw [3, 4] (fun vv ii wr => ∃ k : Nat, k ≤ g.toks.length ∧ ii = .int .i64 k ∧ Hid (StrsM wr (w.heap.size + 1) vv ((tokNames g).take k)) ∧ Below (w.heap.size + 1) W0 wr) (fun _ ii _ => g.toks.length - (intOf ii).toNat)
  case atStart =>
    refine ⟨0, by omega, rfl, hidden (Mine.fresh_nil _ _ _ _ _), ?_⟩
    rw [HW0.out]
    exact (Below.refl _ _).alloc (by simp) _
  case round =>
    obtain ⟨k, hk, rfl, HM, hb⟩ := hrel
    have hbz := hb.size
    obtain ⟨x0, x1, x2, x3, x4, x5, x6, x7⟩ := gram_cells (HB0.out.below hb (by omega))
    by_cases hlt : k < g.toks.length
    · have hx := List.getElem?_eq_getElem hlt
      generalize g.toks[k] = t at *
      obtain ⟨b1, o1, l1, rfl, _, hat, _⟩ := (HG0.out.1.below hb (fun k (h : k < W0.heap.size) => by omega)).at_ hx
      have y0 := hat 0 _ rfl
      rw [Nat.add_zero, show tokR.k = 3 from rfl] at y0
      have HX := hidden (take_snoc_at (tokNames_at hx))
      clear hat hx
      go_wp2_with (at_builtin; refine wpList_append_str rfl _ _ rfl (w.heap.size + 1) _ _ HM t.name rfl rfl rfl rfl (by rw [List.length_take]; omega) (by omega) ?_; intro v' w' hA hb2 hK)
      go_roundw
      case rel => exact ⟨k + 1, by omega, by go_num, by rw [HX.out] at hA; exact hA, hb.trans hb2⟩
      case measure => simp [intOf]; omega
    · obtain rfl : k = g.toks.length := by omega
      have HM1 : Hid (StrsM wr (w.heap.size + 1) u3 ((allNames g).take (g.toks.length + 0))) := hidden (by
        rw [HN0.out, List.take_zero, List.append_nil]
        have := HM.out
        rwa [List.take_of_length_le (by rw [HL1.out]; omega)] at this)
      have hbA := hb
      go_wp2
      clear HM hb x0 x1 x2 x3 x4 x5 x6 x7
      obtain ⟨wo, rfl⟩ : ∃ wo : World, wo = wr := ⟨_, rfl⟩
      go_loopw [3, 5] (fun vv ii wr => ∃ k : Nat, k ≤ g.rules.length ∧ ii = .int .i64 k ∧ Hid (StrsM wr (w.heap.size + 1) vv ((allNames g).take (g.toks.length + k))) ∧ Below (w.heap.size + 1) W0 wr) (fun _ ii _ => g.rules.length - (intOf ii).toNat)
      case atStart => exact ⟨0, by omega, rfl, HM1, hbA⟩
      case round =>
        obtain ⟨k, hk, rfl, HM, hb⟩ := hrel
        have hbz := hb.size
        obtain ⟨x0, x1, x2, x3, x4, x5, x6, x7⟩ := gram_cells (HB0.out.below hb (by omega))
        by_cases hlt : k < g.rules.length
        · have hx := List.getElem?_eq_getElem hlt
          generalize g.rules[k] = t at *
          obtain ⟨b1, o1, rfl, _, y0⟩ := strs_at (Rd.below HG0.out.2.1 hb (fun k (h : k < W0.heap.size) => by omega)) hx
          have HX : Hid (((allNames g).take (g.toks.length + k)) ++ [t] = (allNames g).take (g.toks.length + (k + 1))) := hidden (by
            rw [HN0.out, HN0.out, List.append_assoc, take_snoc_at hx])
          clear hx
          go_wp2_with (at_builtin; refine wpList_append_str rfl _ _ rfl (w.heap.size + 1) _ _ HM t rfl rfl rfl rfl (by rw [List.length_take]; omega) (by omega) ?_; intro v' w' hA hb2 hK)
          go_roundw
          case rel => exact ⟨k + 1, by omega, by go_num, by rw [HX.out] at hA; exact hA, hb.trans hb2⟩
          case measure => simp [intOf]; omega
        · obtain rfl : k = g.rules.length := by omega
          have HE : Hid ((allNames g).take (g.toks.length + g.rules.length) = allNames g) := hidden (List.take_of_length_le (by rw [allNames_len]; omega))
          rw [HE.out] at HM
          go_wp2
          go_ret
          exact ⟨⟨_, rfl, hidden (Mine.base HM.out (by omega))⟩, hb0.trans (hb.mono (by omega))⟩
end Go.Proofs.YtfmdmeokbbpmlaaGreat

namespace Go.Proofs.YtfmdmeokbbpmlaaGreat
open Go.RowKit Go.Shelf

/-- No name of a grammar is longer than a slice may be. -/
def Named (g : Gram) : Prop := ∀ s ∈ allNames g, s.size ≤ maxLen

set_option maxRecDepth 20000 in
set_option maxHeartbeats 2000000 in
theorem ref_name18 (v : Value) (l : List ByteArray) (i : Nat) (s : ByteArray) (T : Nat → Prop) (w : World) (hR : Strs w T v l) (hs : l[i]? = some s) (hz : s.size ≤ maxLen) :
    Calls Tryz.prog 28 #[v, .int .i64 (i : Int)] w fun r w' => r = .returned (.int .i64 (nameErr s (l.take i))) ∧ w = w' := by
  have HF := hidden (ref_find v l s T w hR)
  have HN := hidden (ref_name s w hz)
  obtain ⟨A, c, rfl, hc1, hc2⟩ := hR.val
  obtain ⟨b, off, rfl, _, x0⟩ := strs_at hR hs
  obtain ⟨f1, f2, f3⟩ := find_lt hs
  have hi := (List.getElem?_eq_some_iff.1 hs).1
  unfold maxLen at hc2
  unfold nameErr
  generalize findOf l s = f at *
  generalize nameB s = nb at *
  clear hR hs
  cases nb
  · rw [if_pos rfl]
    clear f1
    go_enter Tryz.func28, Tryz.ntmps28
    go_wp2_with fail
    refine HN.out.mono ?_
    rintro r w' ⟨rfl, rfl⟩
    go_wp2
    go_ret
    exact ⟨rfl, rfl⟩
  · rw [if_neg (by decide)]
    by_cases hm : s ∈ l.take i
    · have hlt := f1.2 hm
      rw [if_pos (holdsB_true hm)]
      clear f1 hm
      go_enter Tryz.func28, Tryz.ntmps28
      go_wp2_with fail
      refine HN.out.mono ?_
      rintro r w' ⟨rfl, rfl⟩
      go_wp2_with fail
      refine HF.out.mono ?_
      rintro r w' ⟨rfl, rfl⟩
      go_wp2
      go_ret
      exact ⟨rfl, rfl⟩
    · have hlt : ¬ f < i := fun h => hm (f1.1 h)
      rw [if_neg (by rw [holdsB_false hm]; decide)]
      clear f1 hm
      go_enter Tryz.func28, Tryz.ntmps28
      go_wp2_with fail
      refine HN.out.mono ?_
      rintro r w' ⟨rfl, rfl⟩
      go_wp2_with fail
      refine HF.out.mono ?_
      rintro r w' ⟨rfl, rfl⟩
      go_wp2
      go_ret
      exact ⟨rfl, rfl⟩

set_option maxRecDepth 20000 in
set_option maxHeartbeats 4000000 in
theorem ref_token (a b c : Value) (g : Gram) (i : Nat) (w : World) (HG : GramIs w (Old w) a b c g) (h1 : g.toks.length ≤ 100000) (h2 : g.rules.length ≤ 100000) (hz : Named g) (hi : i < g.toks.length) :
    Calls Tryz.prog 27 #[.agg (gramCells a b c g), .int .i64 (i : Int)] w fun r w' => r = .returned (defC (tokD g i)) ∧ Below w.heap.size w w' := by
  have hx := List.getElem?_eq_getElem hi
  generalize g.toks[i] = t at *
  have HA : Hid ((allNames g)[i]? = some t.name) := hidden (by unfold allNames; rw [List.getElem?_append_left (by rw [tokNames_len]; exact hi)]; exact tokNames_at hx)
  have HZ : Hid (t.name.size ≤ maxLen) := hidden (hz _ (List.mem_of_getElem? HA.out))
  have HGo := hidden (fun (w' : World) (hb : Below w.heap.size w w') => HG.old hb)
  unfold tokD
  rw [hx]
  dsimp only
  unfold tokErr
  dsimp only
  obtain ⟨⟨A1, k1, rfl, v1, m1⟩, ⟨A2, k2, rfl, v2, m2⟩, ⟨A3, k3, rfl, v3, m3⟩⟩ := HG.vals
  obtain ⟨b1, o1, l1, rfl, hT, hat, hrx⟩ := HG.1.at_ hx
  have y0 := hat 0 _ rfl
  have y1 := hat 1 _ rfl
  have y2 := hat 2 _ rfl
  rw [Nat.add_zero] at y0
  rw [show tokR.k = 3 from rfl] at y0 y1 y2
  obtain ⟨A4, k4, rfl, v4, m4⟩ := hrx.val
  have HRx := hidden hrx
  have hT : b1 < w.heap.size := hT
  have HNm : Hid (∀ u w1, Strs w1 (Old w1) u (allNames g) → Calls Tryz.prog 28 #[u, .int .i64 (i : Int)] w1 fun r w' => r = .returned (.int .i64 (nameErr t.name ((allNames g).take i))) ∧ w1 = w') := hidden (fun u w1 h => ref_name18 u _ i _ _ _ h HA.out HZ.out)
  have HRef := hidden (fun (w' : World) (hb : Below w.heap.size w w') => ref07_check _ _ w' (HRx.out.old hb))
  generalize nameErr t.name ((allNames g).take i) = e at *
  generalize rxErr t.rex = rx at *
  obtain ⟨d, hd⟩ : ∃ d : Defect, d = if e ≠ 0 then ⟨e, i, 0⟩ else if rx ≠ 0 then ⟨9, i, rx⟩ else if t.cls < 0 ∨ 3 < t.cls then ⟨1, i, 0⟩ else D0 := ⟨_, rfl⟩
  rw [← hd]
  have HD := hidden hd
  clear hd
  have hb : Below w.heap.size w w := Below.refl _ _
  clear hat hx HG hrx HA HZ HRx
  unfold gramCells at *
  go_enter Tryz.func27, Tryz.ntmps27
  go_wp2_with fail
  refine (ref_Names _ _ _ g _ (HGo.out _ ?_) h1 h2).mono ?_
  · exact (by repeat (first | (with_reducible exact Below.refl _ _) | (with_reducible assumption) | (with_reducible refine Below.drew ?_) | (with_reducible refine below_drewN ?_ _) | ((with_reducible refine below_alloc ?_ ?_); (focus (first | omega | (simp; done) | (simp; omega)))) | ((with_reducible refine below_set ?_ ?_); (focus (first | omega | (simp; done) | (simp; omega))))))
  rintro r w1 ⟨⟨u, rfl, HM⟩, hb1⟩
  have hR := hidden (StrsM.rd HM.out)
  obtain ⟨hc1, hf1⟩ := old_cells hb1
  have z1 : w.heap.size + 3 ≤ w1.heap.size := by have := hb1.size; simp at this; omega
  have hbw : Below w.heap.size w w1 := Below.trans (by repeat (first | (with_reducible exact Below.refl _ _) | (with_reducible assumption) | (with_reducible refine Below.drew ?_) | (with_reducible refine below_drewN ?_ _) | ((with_reducible refine below_alloc ?_ ?_); (focus (first | omega | (simp; done) | (simp; omega)))) | ((with_reducible refine below_set ?_ ?_); (focus (first | omega | (simp; done) | (simp; omega)))))) (hb1.mono (by simp; omega))
  clear hb1 HM hb
  go_wp2_with fail
  refine (HNm.out _ _ hR.out).mono ?_
  rintro r w' ⟨rfl, rfl⟩
  clear HNm hR
  by_cases he : e = 0
  · subst he
    go_wp2_with fail
    refine (HRef.out _ hbw).mono ?_
    rintro r w2 ⟨rfl, rfl⟩
    clear HRef
    by_cases hr : rx = 0
    · subst hr
      by_cases hcl : t.cls < 0
      · have HE : Hid (d = ⟨1, i, 0⟩) := hidden (by rw [HD.out, if_neg (by simp), if_neg (by simp), if_pos (Or.inl hcl)])
        go_wp2
        exact bodyPost_ret (v := defC ⟨1, i, 0⟩) (by simp [results, Tryz.results27, go_sem, defC, hc1]) rfl ⟨by first | rfl | rw [HE.out], (by repeat (first | (with_reducible exact Below.refl _ _) | (with_reducible assumption) | (with_reducible refine Below.drew ?_) | (with_reducible refine below_drewN ?_ _) | ((with_reducible refine below_alloc ?_ ?_); (focus (first | omega | (simp; done) | (simp; omega)))) | ((with_reducible refine below_set ?_ ?_); (focus (first | omega | (simp; done) | (simp; omega))))))⟩
      · by_cases hcl2 : 3 < t.cls
        · have HE : Hid (d = ⟨1, i, 0⟩) := hidden (by rw [HD.out, if_neg (by simp), if_neg (by simp), if_pos (Or.inr hcl2)])
          go_wp2
          exact bodyPost_ret (v := defC ⟨1, i, 0⟩) (by simp [results, Tryz.results27, go_sem, defC, hc1]) rfl ⟨by first | rfl | rw [HE.out], (by repeat (first | (with_reducible exact Below.refl _ _) | (with_reducible assumption) | (with_reducible refine Below.drew ?_) | (with_reducible refine below_drewN ?_ _) | ((with_reducible refine below_alloc ?_ ?_); (focus (first | omega | (simp; done) | (simp; omega)))) | ((with_reducible refine below_set ?_ ?_); (focus (first | omega | (simp; done) | (simp; omega))))))⟩
        · have HE : Hid (d = ⟨0, 0, 0⟩) := hidden (by rw [HD.out, if_neg (by simp), if_neg (by simp), if_neg (by omega)]; rfl)
          go_wp2
          exact bodyPost_ret (v := defC ⟨0, 0, 0⟩) (by simp [results, Tryz.results27, go_sem, defC, hc1]) rfl ⟨by first | rfl | rw [HE.out], (by repeat (first | (with_reducible exact Below.refl _ _) | (with_reducible assumption) | (with_reducible refine Below.drew ?_) | (with_reducible refine below_drewN ?_ _) | ((with_reducible refine below_alloc ?_ ?_); (focus (first | omega | (simp; done) | (simp; omega)))) | ((with_reducible refine below_set ?_ ?_); (focus (first | omega | (simp; done) | (simp; omega))))))⟩
    · have HE : Hid (d = ⟨9, i, rx⟩) := hidden (by rw [HD.out, if_neg (by simp), if_pos hr])
      have q : (rx != 0) = true := by rw [bne_iff_ne]; exact hr
      go_wp2
      exact bodyPost_ret (v := defC ⟨9, i, rx⟩) (by simp [results, Tryz.results27, go_sem, defC, hc1]) rfl ⟨by first | rfl | rw [HE.out], (by repeat (first | (with_reducible exact Below.refl _ _) | (with_reducible assumption) | (with_reducible refine Below.drew ?_) | (with_reducible refine below_drewN ?_ _) | ((with_reducible refine below_alloc ?_ ?_); (focus (first | omega | (simp; done) | (simp; omega)))) | ((with_reducible refine below_set ?_ ?_); (focus (first | omega | (simp; done) | (simp; omega))))))⟩
  · have HE : Hid (d = ⟨e, i, 0⟩) := hidden (by rw [HD.out, if_pos he])
    have q : (e != 0) = true := by rw [bne_iff_ne]; exact he
    go_wp2
    exact bodyPost_ret (v := defC ⟨e, i, 0⟩) (by simp [results, Tryz.results27, go_sem, defC, hc1]) rfl ⟨by first | rfl | rw [HE.out], (by repeat (first | (with_reducible exact Below.refl _ _) | (with_reducible assumption) | (with_reducible refine Below.drew ?_) | (with_reducible refine below_drewN ?_ _) | ((with_reducible refine below_alloc ?_ ?_); (focus (first | omega | (simp; done) | (simp; omega)))) | ((with_reducible refine below_set ?_ ?_); (focus (first | omega | (simp; done) | (simp; omega))))))⟩
end Go.Proofs.YtfmdmeokbbpmlaaGreat

namespace Go.Proofs.YtfmdmeokbbpmlaaGreat
open Go.RowKit Go.Shelf

theorem cls_at {g : Gram} {x : Int} {t : Token} (h : g.toks[x.toNat]? = some t) : clsAt g x = t.cls := by unfold clsAt; rw [h]

set_option maxRecDepth 20000 in
set_option maxHeartbeats 4000000 in
theorem ref_item (a b c : Value) (g : Gram) (x : Item) (w : World) (HG : GramIs w (Old w) a b c g) :
    Calls Tryz.prog 56 #[.agg (gramCells a b c g), .agg #[.bool x.rule, .int .i64 x.n, .int .i64 x.gap, .int .i64 x.in_]] w fun r w' => r = .returned (.int .i64 (itemErr g x)) ∧ Below w.heap.size w w' := by
  obtain ⟨⟨A1, k1, rfl, v1, m1⟩, ⟨A2, k2, rfl, v2, m2⟩, ⟨A3, k3, rfl, v3, m3⟩⟩ := HG.vals
  have HT := hidden (fun (t : Token) (h : g.toks[x.n.toNat]? = some t) => HG.1.at_ h)
  have HCl := hidden (fun (t : Token) (h : g.toks[x.n.toNat]? = some t) => cls_at h)
  unfold gramCells itemErr
  clear HG
  obtain ⟨r, n, gp, i_⟩ := x
  dsimp only at *
  unfold maxLen at *
  by_cases h0 : n < 0
  · rw [if_pos (Or.inl h0)]
    cases r
    all_goals
      go_enter Tryz.func56, Tryz.ntmps56
      go_wp2
      go_ret
      exact ⟨rfl, (by repeat (first | (with_reducible exact Below.refl _ _) | (with_reducible assumption) | (with_reducible refine Below.drew ?_) | (with_reducible refine below_drewN ?_ _) | ((with_reducible refine below_alloc ?_ ?_); (focus (first | omega | (simp; done) | (simp; omega)))) | ((with_reducible refine below_set ?_ ?_); (focus (first | omega | (simp; done) | (simp; omega))))))⟩
  obtain ⟨k, rfl⟩ : ∃ k : Nat, n = (k : Int) := ⟨n.toNat, by omega⟩
  cases r
  · simp only [Int.toNat_natCast, if_neg (show ¬ (false = true) by decide)] at *
    by_cases hn : (g.toks.length : Int) ≤ k
    · rw [if_pos (Or.inr hn)]
      go_enter Tryz.func56, Tryz.ntmps56
      go_wp2
      go_ret
      exact ⟨rfl, (by repeat (first | (with_reducible exact Below.refl _ _) | (with_reducible assumption) | (with_reducible refine Below.drew ?_) | (with_reducible refine below_drewN ?_ _) | ((with_reducible refine below_alloc ?_ ?_); (focus (first | omega | (simp; done) | (simp; omega)))) | ((with_reducible refine below_set ?_ ?_); (focus (first | omega | (simp; done) | (simp; omega))))))⟩
    · rw [if_neg (by omega)]
      have hkn : k < g.toks.length := by omega
      have hx := List.getElem?_eq_getElem hkn
      generalize g.toks[k] = t at *
      rw [HCl.out _ hx]
      obtain ⟨b1, o1, l1, rfl, hT, hat, _⟩ := HT.out _ hx
      have y2 := hat 2 _ rfl
      rw [show tokR.k = 3 from rfl] at y2
      have hT : b1 < w.heap.size := hT
      clear hat hx HT HCl h0
      by_cases hc : t.cls = 0
      · rw [if_neg (by simp [hc])]
        rw [hc] at y2
        clear hc
        by_cases h1 : gp < 0 ∨ 2 < gp ∨ i_ < 0 ∨ 8 < i_
        · rw [if_pos h1]
          rcases h1 with h1 | h1 | h1 | h1
          all_goals
            go_enter Tryz.func56, Tryz.ntmps56
            go_wp2
            all_goals
              go_ret
              exact ⟨rfl, (by repeat (first | (with_reducible exact Below.refl _ _) | (with_reducible assumption) | (with_reducible refine Below.drew ?_) | (with_reducible refine below_drewN ?_ _) | ((with_reducible refine below_alloc ?_ ?_); (focus (first | omega | (simp; done) | (simp; omega)))) | ((with_reducible refine below_set ?_ ?_); (focus (first | omega | (simp; done) | (simp; omega))))))⟩
        · rw [if_neg h1]
          obtain ⟨g1, g2, g3, g4⟩ : 0 ≤ gp ∧ gp ≤ 2 ∧ 0 ≤ i_ ∧ i_ ≤ 8 := by omega
          clear h1
          go_enter Tryz.func56, Tryz.ntmps56
          go_wp2
          go_ret
          exact ⟨rfl, (by repeat (first | (with_reducible exact Below.refl _ _) | (with_reducible assumption) | (with_reducible refine Below.drew ?_) | (with_reducible refine below_drewN ?_ _) | ((with_reducible refine below_alloc ?_ ?_); (focus (first | omega | (simp; done) | (simp; omega)))) | ((with_reducible refine below_set ?_ ?_); (focus (first | omega | (simp; done) | (simp; omega))))))⟩
      · rw [if_pos (by simp [hc])]
        have q : (t.cls != 0) = true := by rw [bne_iff_ne]; exact hc
        clear hc
        go_enter Tryz.func56, Tryz.ntmps56
        go_wp2
        go_ret
        exact ⟨rfl, (by repeat (first | (with_reducible exact Below.refl _ _) | (with_reducible assumption) | (with_reducible refine Below.drew ?_) | (with_reducible refine below_drewN ?_ _) | ((with_reducible refine below_alloc ?_ ?_); (focus (first | omega | (simp; done) | (simp; omega)))) | ((with_reducible refine below_set ?_ ?_); (focus (first | omega | (simp; done) | (simp; omega))))))⟩
  · simp only [Int.toNat_natCast, if_true] at *
    clear HT HCl h0
    by_cases hn : (g.rules.length : Int) ≤ k
    · rw [if_pos (Or.inr hn)]
      go_enter Tryz.func56, Tryz.ntmps56
      go_wp2
      go_ret
      exact ⟨rfl, (by repeat (first | (with_reducible exact Below.refl _ _) | (with_reducible assumption) | (with_reducible refine Below.drew ?_) | (with_reducible refine below_drewN ?_ _) | ((with_reducible refine below_alloc ?_ ?_); (focus (first | omega | (simp; done) | (simp; omega)))) | ((with_reducible refine below_set ?_ ?_); (focus (first | omega | (simp; done) | (simp; omega))))))⟩
    · rw [if_neg (by omega), if_neg (by simp)]
      by_cases h1 : gp < 0 ∨ 2 < gp ∨ i_ < 0 ∨ 8 < i_
      · rw [if_pos h1]
        rcases h1 with h1 | h1 | h1 | h1
        all_goals
          go_enter Tryz.func56, Tryz.ntmps56
          go_wp2
          all_goals
            go_ret
            exact ⟨rfl, (by repeat (first | (with_reducible exact Below.refl _ _) | (with_reducible assumption) | (with_reducible refine Below.drew ?_) | (with_reducible refine below_drewN ?_ _) | ((with_reducible refine below_alloc ?_ ?_); (focus (first | omega | (simp; done) | (simp; omega)))) | ((with_reducible refine below_set ?_ ?_); (focus (first | omega | (simp; done) | (simp; omega))))))⟩
      · rw [if_neg h1]
        obtain ⟨g1, g2, g3, g4⟩ : 0 ≤ gp ∧ gp ≤ 2 ∧ 0 ≤ i_ ∧ i_ ≤ 8 := by omega
        clear h1
        go_enter Tryz.func56, Tryz.ntmps56
        go_wp2
        go_ret
        exact ⟨rfl, (by repeat (first | (with_reducible exact Below.refl _ _) | (with_reducible assumption) | (with_reducible refine Below.drew ?_) | (with_reducible refine below_drewN ?_ _) | ((with_reducible refine below_alloc ?_ ?_); (focus (first | omega | (simp; done) | (simp; omega)))) | ((with_reducible refine below_set ?_ ?_); (focus (first | omega | (simp; done) | (simp; omega))))))⟩
end Go.Proofs.YtfmdmeokbbpmlaaGreat

namespace Go.Proofs.YtfmdmeokbbpmlaaGreat
open Go.RowKit Go.Shelf

theorem Holds.two {w : World} {g : Nat} {t : TypeId} {a b : Value} (h : Holds w g t #[a, b]) : w.cell? ⟨g, 0, none⟩ = some a ∧ w.cell? ⟨g, 1, none⟩ = some b := ⟨h.cell 0, h.cell 1⟩
theorem Holds.three {w : World} {g : Nat} {t : TypeId} {a b c : Value} (h : Holds w g t #[a, b, c]) : w.cell? ⟨g, 0, none⟩ = some a ∧ w.cell? ⟨g, 1, none⟩ = some b ∧ w.cell? ⟨g, 2, none⟩ = some c ∧
    w.frozen? ⟨g, 0, none⟩ = false ∧ w.frozen? ⟨g, 1, none⟩ = false ∧ w.frozen? ⟨g, 2, none⟩ = false := ⟨h.cell 0, h.cell 1, h.cell 2, h.frozen 0, h.frozen 1, h.frozen 2⟩

set_option maxRecDepth 20000 in
set_option maxHeartbeats 4000000 in
theorem ref_prod (a b c : Value) (g : Gram) (i : Nat) (w : World) (HG : GramIs w (Old w) a b c g) (hi : i < g.prods.length) :
    Calls Tryz.prog 30 #[.agg (gramCells a b c g), .int .i64 (i : Int)] w fun r w' => r = .returned (defC (prodD g i)) ∧ Below w.heap.size w w' := by
  have hx := List.getElem?_eq_getElem hi
  generalize g.prods[i] = p at *
  have HGo := hidden (fun (w' : World) (hb : Below w.heap.size w w') => HG.old hb)
  have HIt := hidden (fun (w' : World) (hb : Below w.heap.size w w') (x : Item) => ref_item a b c g x w' (HG.old hb))
  unfold prodD
  rw [hx]
  dsimp only
  unfold prodErr
  obtain ⟨⟨A1, k1, rfl, v1, m1⟩, ⟨A2, k2, rfl, v2, m2⟩, ⟨A3, k3, rfl, v3, m3⟩⟩ := HG.vals
  obtain ⟨b1, o1, l1, rfl, hT, hat, hrt⟩ := HG.2.2.at_ hx
  have y0 := hat 0 _ rfl
  have y1 := hat 1 _ rfl
  rw [Nat.add_zero] at y0
  rw [show prodR.k = 2 from rfl] at y0 y1
  have hrt : Rd w (Old w) 4 l1 p.right.length (p.right.flatMap itCells) := hrt
  obtain ⟨A4, k4, rfl, v4, m4⟩ := hrt.val
  have HRt := hidden (fun (w' : World) (hb : Below w.heap.size w w') => hrt.old hb)
  have hT : b1 < w.heap.size := hT
  have hb : Below w.heap.size w w := Below.refl _ _
  clear hat hx HG hrt
  obtain ⟨le, ri⟩ := p
  dsimp only at *
  unfold gramCells maxLen at *
  by_cases h1 : le < 0
  · rw [if_pos (Or.inl h1)]
    go_enter Tryz.func30, Tryz.ntmps30
    go_wp2
    exact bodyPost_ret (v := defC ⟨11, i, 0⟩) (by simp [results, Tryz.results30, go_sem, defC]) rfl ⟨by first | rfl | rw [HE.out], (by repeat (first | (with_reducible exact Below.refl _ _) | (with_reducible assumption) | (with_reducible refine Below.drew ?_) | (with_reducible refine below_drewN ?_ _) | ((with_reducible refine below_alloc ?_ ?_); (focus (first | omega | (simp; done) | (simp; omega)))) | ((with_reducible refine below_set ?_ ?_); (focus (first | omega | (simp; done) | (simp; omega))))))⟩
  by_cases h2 : (g.rules.length : Int) ≤ le
  · rw [if_pos (Or.inr h2)]
    go_enter Tryz.func30, Tryz.ntmps30
    go_wp2
    exact bodyPost_ret (v := defC ⟨11, i, 0⟩) (by simp [results, Tryz.results30, go_sem, defC]) rfl ⟨by first | rfl | rw [HE.out], (by repeat (first | (with_reducible exact Below.refl _ _) | (with_reducible assumption) | (with_reducible refine Below.drew ?_) | (with_reducible refine below_drewN ?_ _) | ((with_reducible refine below_alloc ?_ ?_); (focus (first | omega | (simp; done) | (simp; omega)))) | ((with_reducible refine below_set ?_ ?_); (focus (first | omega | (simp; done) | (simp; omega))))))⟩
  rw [if_neg (by omega)]
  by_cases h3 : 16 < ri.length
  · rw [if_pos h3]
    go_enter Tryz.func30, Tryz.ntmps30
    go_wp2
    exact bodyPost_ret (v := defC ⟨4, i, 0⟩) (by simp [results, Tryz.results30, go_sem, defC]) rfl ⟨by first | rfl | rw [HE.out], (by repeat (first | (with_reducible exact Below.refl _ _) | (with_reducible assumption) | (with_reducible refine Below.drew ?_) | (with_reducible refine below_drewN ?_ _) | ((with_reducible refine below_alloc ?_ ?_); (focus (first | omega | (simp; done) | (simp; omega)))) | ((with_reducible refine below_set ?_ ?_); (focus (first | omega | (simp; done) | (simp; omega))))))⟩
  rw [if_neg h3]
  have HH : Hid (∀ k x, ri[k]? = some x → itemErr g x ≠ 0 → (∀ j, j < k → (itemD g i ri j).kind = 0) → firstD (itemD g i ri) 0 ri.length = ⟨itemErr g x, i, (k : Int) + 1⟩) := hidden (fun k x hx he hn => by
    have e : itemD g i ri k = ⟨itemErr g x, i, (k : Int) + 1⟩ := by unfold itemD; rw [hx]; dsimp only; rw [if_pos he]
    rw [first0_hit (List.getElem?_eq_some_iff.1 hx).1 (by rw [e]; exact he) hn, e])
  have HMs : Hid ((∀ j, j < ri.length → (itemD g i ri j).kind = 0) → firstD (itemD g i ri) 0 ri.length = ⟨0, 0, 0⟩) := hidden (fun h => first0_miss h)
  have HZ : Hid (∀ k x, ri[k]? = some x → itemErr g x = 0 → (itemD g i ri k).kind = 0) := hidden (fun k x hx he => by
    unfold itemD; rw [hx]; dsimp only; rw [if_neg (by simp [he])]; rfl)
  generalize firstD (itemD g i ri) 0 ri.length = d at *
  go_enter Tryz.func30, Tryz.ntmps30
  go_wp2
  go_loopw [6] (fun ii wr => ∃ k : Nat, k ≤ ri.length ∧ ii = .int .i64 k ∧ Hid (∀ j, j < k → (itemD g i ri j).kind = 0) ∧ Below w.heap.size w wr ∧ w.heap.size + 3 ≤ wr.heap.size
    ∧ Hid (Holds wr w.heap.size 27 #[.slice A1 g.toks.length k1, .slice A2 g.rules.length k2, .slice (some ⟨b1, o1, none⟩) g.prods.length k3, .int .i64 g.start, .int .i64 g.states, .int .i64 g.text, .int .i64 g.nodes, .int .i64 g.pairs])
    ∧ Hid (Holds wr (w.heap.size + 1) 35 #[.int .i64 0, .int .i64 0, .int .i64 0]) ∧ Hid (Holds wr (w.heap.size + 1 + 1) 50 #[.int .i64 le, .slice A4 ri.length k4])) (fun ii _ => ri.length - (intOf ii).toNat)
  case atStart => exact ⟨0, by omega, rfl, hidden (fun j h => by omega), (by repeat (first | (with_reducible exact Below.refl _ _) | (with_reducible assumption) | (with_reducible refine Below.drew ?_) | (with_reducible refine below_drewN ?_ _) | ((with_reducible refine below_alloc ?_ ?_); (focus (first | omega | (simp; done) | (simp; omega)))) | ((with_reducible refine below_set ?_ ?_); (focus (first | omega | (simp; done) | (simp; omega)))))), by simp, hidden (by repeat (first | (with_reducible assumption) | ((with_reducible refine holds_new ?_); (focus (first | rfl | (simp; done)))) | (with_reducible refine Holds.alloc ?_ _) | (with_reducible refine Holds.drew ?_))), hidden (by repeat (first | (with_reducible assumption) | ((with_reducible refine holds_new ?_); (focus (first | rfl | (simp; done)))) | (with_reducible refine Holds.alloc ?_ _) | (with_reducible refine Holds.drew ?_))), hidden (by repeat (first | (with_reducible assumption) | ((with_reducible refine holds_new ?_); (focus (first | rfl | (simp; done)))) | (with_reducible refine Holds.alloc ?_ _) | (with_reducible refine Holds.drew ?_)))⟩
  case round =>
    clear hb
    obtain ⟨k, hk, rfl, HN, hb, z, H2, H4, H5⟩ := hrel
    obtain ⟨x0, x1, x2, x3, x4, x5, x6, x7⟩ := gram_cells H2.out
    obtain ⟨p0, p1⟩ := H5.out.two
    obtain ⟨r0, r1, r2, s0, s1, s2⟩ := H4.out.three
    by_cases hlt : k < ri.length
    · have hx := List.getElem?_eq_getElem hlt
      generalize ri[k] = x at *
      obtain ⟨b3, o3, rfl, hT3, hat⟩ := (HRt.out _ hb).flat_at (fun _ => rfl) (by decide) hx
      have hT3 : b3 < wr.heap.size := hT3
      have i0 := hat 0 _ rfl
      have i1 := hat 1 _ rfl
      have i2 := hat 2 _ rfl
      have i3 := hat 3 _ rfl
      rw [Nat.add_zero] at i0
      have HHx := hidden (HH.out k x hx)
      have HZx := hidden (HZ.out k x hx)
      have HItx := hidden (fun (y : Ext wr) => HIt.out y.w (hb.trans (y.below.mono hb.size)) x)
      clear hat hx
      have e0 := Ext.cell x0; have e1 := Ext.cell x1; have e2 := Ext.cell x2; have e3 := Ext.cell x3; have e4 := Ext.cell x4; have e5 := Ext.cell x5; have e6 := Ext.cell x6; have e7 := Ext.cell x7
      have f0 := Ext.cell p0; have f1 := Ext.cell p1
      have g0 := Ext.cell i0; have g1 := Ext.cell i1; have g2 := Ext.cell i2; have g3 := Ext.cell i3
      go_wp2_with fail
      refine wp_region_ext (by kernel_rfl) (by kernel_rfl) ?_
      repeat (go_big_quiet_step ((go_at_call 56; exact Ext.call (HItx.out _))))
      refine wpQuiet_nil ?_
      intro w2 hb2
      clear e0 e1 e2 e3 e4 e5 e6 e7 f0 f1 g0 g1 g2 g3 HItx
      replace hb := hb.trans (hb2.mono hb.size)
      replace H2 := hidden (H2.out.below hb2 (by omega))
      replace H4 := hidden (H4.out.below hb2 (by omega))
      replace H5 := hidden (H5.out.below hb2 (by omega))
      have z2 := hb2.size
      clear x0 x1 x2 x3 x4 x5 x6 x7 p0 p1 i0 i1 i2 i3 hb2 r0 r1 r2 s0 s1 s2
      obtain ⟨r0, r1, r2, s0, s1, s2⟩ := H4.out.three
      generalize itemErr g x = e at *
      by_cases he : e = 0
      · subst he
        have HN2 : Hid (∀ j, j < k + 1 → (itemD g i ri j).kind = 0) := hidden (fun j hj => by
          by_cases ej : j = k
          · subst ej; exact HZx.out rfl
          · exact HN.out j (by omega))
        clear HN HHx HZx
        go_wp2
        go_roundw
        case rel => exact ⟨k + 1, by omega, by go_num, HN2, hb, by omega, H2, H4, H5⟩
        case measure => simp [intOf]; omega
      · have HE := hidden (HHx.out he HN.out)
        have q : (e != 0) = true := by rw [bne_iff_ne]; exact he
        clear HN HHx HZx HH
        go_wp2
        exact bodyPost_ret (v := defC ⟨e, i, (k : Int) + 1⟩) (by simp [results, Tryz.results30, go_sem, defC, r0, r1, r2]) rfl ⟨by first | rfl | rw [HE.out], (by repeat (first | (with_reducible exact Below.refl _ _) | (with_reducible assumption) | (with_reducible refine Below.drew ?_) | (with_reducible refine below_drewN ?_ _) | ((with_reducible refine below_alloc ?_ ?_); (focus (first | omega | (simp; done) | (simp; omega)))) | ((with_reducible refine below_set ?_ ?_); (focus (first | omega | (simp; done) | (simp; omega))))))⟩
    · obtain rfl : k = ri.length := by omega
      have HE := hidden (HMs.out HN.out)
      go_wp2
      exact bodyPost_ret (v := defC ⟨0, 0, 0⟩) (by simp [results, Tryz.results30, go_sem, defC, r0, r1, r2]) rfl ⟨by first | rfl | rw [HE.out], (by repeat (first | (with_reducible exact Below.refl _ _) | (with_reducible assumption) | (with_reducible refine Below.drew ?_) | (with_reducible refine below_drewN ?_ _) | ((with_reducible refine below_alloc ?_ ?_); (focus (first | omega | (simp; done) | (simp; omega)))) | ((with_reducible refine below_set ?_ ?_); (focus (first | omega | (simp; done) | (simp; omega))))))⟩

set_option maxRecDepth 20000 in
set_option maxHeartbeats 4000000 in
theorem ref_Of18 (a b c : Value) (g : Gram) (r : Int) (w : World) (HG : GramIs w (Old w) a b c g) (h3 : g.prods.length ≤ 100000) :
    Calls Tryz.prog 31 #[.agg (gramCells a b c g), .int .i64 r] w fun e w' => (∃ u, e = .returned u ∧ Hid (IntsM w' w.heap.size u (ofRule g r))) ∧ Below w.heap.size w w' := by
  have HGo := hidden (fun (w' : World) (hb : Below w.heap.size w w') => HG.old hb)
  obtain ⟨⟨A1, k1, rfl, v1, m1⟩, ⟨A2, k2, rfl, v2, m2⟩, ⟨A3, k3, rfl, v3, m3⟩⟩ := HG.vals
  unfold gramCells at *
  have HS := hidden (fun (k : Nat) (p : Prod) (h : g.prods[k]? = some p) => ofUpto_snoc (r := r) h)
  have HL := hidden (ofUpto_len g r)
  have HD : Hid (ofUpto g r g.prods.length = ofRule g r) := hidden rfl
  clear HG
  go_enter Tryz.func31, Tryz.ntmps31
  go_wp2
  go_loopw [5, 6] (fun vv ii wr => ∃ k : Nat, k ≤ g.prods.length ∧ ii = .int .i64 k ∧ Hid (IntsM wr (w.heap.size + 1) vv (ofUpto g r k)) ∧ Below w.heap.size w wr ∧ w.heap.size + 1 ≤ wr.heap.size
    ∧ Hid (Holds wr w.heap.size 27 #[.slice A1 g.toks.length k1, .slice A2 g.rules.length k2, .slice A3 g.prods.length k3, .int .i64 g.start, .int .i64 g.states, .int .i64 g.text, .int .i64 g.nodes, .int .i64 g.pairs])) (fun _ ii _ => g.prods.length - (intOf ii).toNat)
  case atStart => exact ⟨0, by omega, rfl, hidden (Mine.fresh_nil _ _ _ _ _), (by repeat (first | (with_reducible exact Below.refl _ _) | (with_reducible assumption) | (with_reducible refine Below.drew ?_) | (with_reducible refine below_drewN ?_ _) | ((with_reducible refine below_alloc ?_ ?_); (focus (first | omega | (simp; done) | (simp; omega)))) | ((with_reducible refine below_set ?_ ?_); (focus (first | omega | (simp; done) | (simp; omega)))))), by simp, hidden (by repeat (first | (with_reducible assumption) | ((with_reducible refine holds_new ?_); (focus (first | rfl | (simp; done)))) | (with_reducible refine Holds.alloc ?_ _) | (with_reducible refine Holds.drew ?_)))⟩
  case round =>
    obtain ⟨k, hk, rfl, HM, hb, z, H2⟩ := hrel
    obtain ⟨x0, x1, x2, x3, x4, x5, x6, x7⟩ := gram_cells H2.out
    have hbz := hb.size
    by_cases hlt : k < g.prods.length
    · have hx := List.getElem?_eq_getElem hlt
      generalize g.prods[k] = p at *
      obtain ⟨b1, o1, l1, rfl, hT, hat, _⟩ := (HGo.out _ hb).2.2.at_ hx
      have y0 := hat 0 _ rfl
      rw [Nat.add_zero, show prodR.k = 2 from rfl] at y0
      have HSx := hidden (HS.out k p hx)
      have hl := HL.out k
      clear hat hx
      by_cases hr : p.left = r
      · have HE : Hid (ofUpto g r (k + 1) = ofUpto g r k ++ [(k : Int)]) := hidden (by rw [HSx.out, if_pos (by simp [hr])])
        have q : (p.left == r) = true := by simp [hr]
        clear HSx hr
        go_wp2_with (at_builtin; refine wpList_append_i rfl _ _ rfl (w.heap.size + 1) _ _ HM (k : Int) rfl rfl rfl rfl (by omega) (by omega) ?_; intro v' w' hA hb2 hK)
        go_roundw
        case rel => exact ⟨k + 1, by omega, by go_num, by rw [HE.out]; exact hA, hb.trans (hb2.mono (by omega)), by have := hb2.size; omega, hidden (H2.out.below hb2 (by omega))⟩
        case measure => simp [intOf]; omega
      · have HE : Hid (ofUpto g r (k + 1) = ofUpto g r k) := hidden (by rw [HSx.out, if_neg (by simp [hr])])
        have q : (p.left == r) = false := by simp [hr]
        clear HSx hr
        go_wp2
        go_roundw
        case rel => exact ⟨k + 1, by omega, by go_num, by rw [HE.out]; exact HM, hb, z, H2⟩
        case measure => simp [intOf]; omega
    · obtain rfl : k = g.prods.length := by omega
      rw [HD.out] at HM
      go_wp2
      go_ret
      exact ⟨⟨_, rfl, hidden (Mine.base HM.out (by omega))⟩, hb⟩
end Go.Proofs.YtfmdmeokbbpmlaaGreat

namespace Go.Proofs.YtfmdmeokbbpmlaaGreat
open Go.RowKit Go.Shelf

theorem orD_assoc (a b c : Defect) : orD (orD a b) c = orD a (orD b c) := by
  unfold orD
  by_cases h : a.kind = 0
  · rw [if_pos h]
    by_cases h2 : b.kind = 0
    · rw [if_pos h2, if_pos h]
    · rw [if_neg h2, if_pos h]
  · rw [if_neg h, if_neg h]
    rw [if_neg h]
theorem firstD_succ {f : Nat → Defect} (hf : ∀ k, (f k).kind = 0 → f k = D0) (k : Nat) : firstD f 0 (k + 1) = orD (firstD f 0 k) (f k) := by
  by_cases h : ∃ m, m < k ∧ (f m).kind ≠ 0
  · obtain ⟨m, h1, h2⟩ := h
    obtain ⟨j, hj⟩ : ∃ j, j < k ∧ (f j).kind ≠ 0 ∧ ∀ i, i < j → (f i).kind = 0 := by
      rcases first_cases (fun j => (f j).kind ≠ 0) k with ⟨_, h4⟩ | ⟨j, h3, _, h5, h6⟩
      · exact absurd h2 (h4 m h1)
      · exact ⟨j, h3, h5, fun i hi => Decidable.not_not.1 (h6 i hi)⟩
    rw [first0_hit hj.1 hj.2.1 hj.2.2, first0_hit (n := k + 1) (by omega) hj.2.1 hj.2.2, orD_some hj.2.1]
  · have h' : ∀ m, m < k → (f m).kind = 0 := fun m hm => Decidable.not_not.1 (fun hn => h ⟨m, hm, hn⟩)
    rw [first0_miss h', orD_D0]
    by_cases hk : (f k).kind = 0
    · rw [hf k hk]
      exact first0_miss (fun m hm => by
        by_cases e : m = k
        · subst e; exact hk
        · exact h' m (by omega))
    · exact first0_hit (by omega) hk h'
/-- One more. -/
theorem stage_step {s : Defect} {f : Nat → Defect} (hf : ∀ k, (f k).kind = 0 → f k = D0) {k : Nat} (h : (orD s (firstD f 0 k)).kind = 0) : orD s (firstD f 0 (k + 1)) = f k := by
  obtain ⟨h1, h2⟩ := orD_kind.1 h
  rw [firstD_succ hf, orD_zero h1, orD_zero h2]
theorem stage_stop {s : Defect} {f : Nat → Defect} (hf : ∀ k, (f k).kind = 0 → f k = D0) {k n : Nat} (hk : k ≤ n) (h : (orD s (firstD f 0 k)).kind ≠ 0) : orD s (firstD f 0 n) = orD s (firstD f 0 k) := by
  obtain ⟨m, rfl⟩ : ∃ m, n = k + m := ⟨n - k, by omega⟩
  clear hk
  induction m with
  | zero => rfl
  | succ m ih =>
    rw [show k + (m + 1) = k + m + 1 by omega, firstD_succ hf, ← orD_assoc, ih, orD_some h]
theorem stage_clean {s : Defect} {f : Nat → Defect} {k : Nat} (h : (orD s (firstD f 0 k)).kind = 0) : orD s (firstD f 0 k) = D0 := by
  obtain ⟨a, b⟩ := orD_kind.1 h
  rw [orD_zero a, firstD_clean _ _ b]
theorem none_clean (g : Gram) (i : Nat) : (noneD g i).kind = 0 → noneD g i = D0 := by
  unfold noneD
  split <;> simp

/-- Where a check of the document's stands: what is wrong up to here is d, kept in block D. -/
structure ChkAt (w : World) (D : Nat) (cs : Array Value) (d : Defect) (wr : World) : Prop where
  below : Below w.heap.size w wr
  low : w.heap.size + 2 ≤ D
  lt : D < wr.heap.size
  box : Holds wr w.heap.size 27 cs
  res : Holds wr (w.heap.size + 1) 35 #[.int .i64 0, .int .i64 0, .int .i64 0]
  at_ : Holds wr D 35 #[.int .i64 d.kind, .int .i64 d.at_, .int .i64 d.more]
theorem ChkAt.next {w wr w2 : World} {D : Nat} {cs : Array Value} {d : Defect} (h : ChkAt w D cs d wr) (hb : Below wr.heap.size wr w2) : ChkAt w D cs d w2 := by
  have := h.low
  have := h.lt
  exact ⟨h.below.trans (hb.mono h.below.size), h.low, Nat.lt_of_lt_of_le h.lt hb.size, h.box.below hb (by omega), h.res.below hb (by omega), h.at_.below hb h.lt⟩
theorem ChkAt.put {w wr : World} {D : Nat} {cs : Array Value} {d : Defect} (h : ChkAt w D cs d wr) (e : Defect) : ChkAt w D cs e (((wr.setCell ⟨D, 0, none⟩ (.int .i64 e.kind)).setCell ⟨D, 1, none⟩ (.int .i64 e.at_)).setCell ⟨D, 2, none⟩ (.int .i64 e.more)) := by
  have := h.low
  refine ⟨below_set (by omega) (below_set (by omega) (below_set (by omega) h.below)), h.low, by simpa using h.lt, holds_far (by omega) (holds_far (by omega) (holds_far (by omega) h.box)), holds_far (by omega) (holds_far (by omega) (holds_far (by omega) h.res)), ?_⟩
  exact Holds.of_eq (holds_set (holds_set (holds_set h.at_))) (by rfl)

theorem keep_gram {wr w1 w2 : World} {p : Nat} {a b c : Value} {g : Gram} (h : Holds wr p 27 (gramCells a b c g)) (hb : Below wr.heap.size wr w1) (hb2 : Below w1.heap.size w1 w2) :
    w2.cell? ⟨p, 0, none⟩ = some a ∧ w2.cell? ⟨p, 1, none⟩ = some b ∧ w2.cell? ⟨p, 2, none⟩ = some c ∧ w2.cell? ⟨p, 3, none⟩ = some (.int .i64 g.start) ∧ w2.cell? ⟨p, 4, none⟩ = some (.int .i64 g.states) ∧ w2.cell? ⟨p, 5, none⟩ = some (.int .i64 g.text) ∧ w2.cell? ⟨p, 6, none⟩ = some (.int .i64 g.nodes) ∧ w2.cell? ⟨p, 7, none⟩ = some (.int .i64 g.pairs) ∧ Below wr.heap.size wr w2 := by
  have hb3 := hb.trans (hb2.mono hb.size)
  obtain ⟨x0, x1, x2, x3, x4, x5, x6, x7⟩ := gram_cells (h.below hb3 h.lt)
  exact ⟨x0, x1, x2, x3, x4, x5, x6, x7, hb3⟩

set_option maxRecDepth 20000 in
set_option maxHeartbeats 8000000 in
theorem ref_Check (a b c : Value) (g : Gram) (w : World) (HG : GramIs w (Old w) a b c g) (h1 : g.toks.length ≤ 100000) (h2 : g.rules.length ≤ 100000) (h3 : g.prods.length ≤ 100000) (hz : Named g) :
    Calls Tryz.prog 11 #[.agg (gramCells a b c g)] w fun r w' => r = .returned (defC (checkOf g)) ∧ Below w.heap.size w w' := by
  have HSz := hidden (fun (w' : World) (hb : Below w.heap.size w w') => ref_sizes a b c g w' (HG.old hb))
  have HTk := hidden (fun (w' : World) (hb : Below w.heap.size w w') i (hi : i < g.toks.length) => ref_token a b c g i w' (HG.old hb) h1 h2 hz hi)
  have HPr := hidden (fun (w' : World) (hb : Below w.heap.size w w') i (hi : i < g.prods.length) => ref_prod a b c g i w' (HG.old hb) hi)
  have HOf := hidden (fun (w' : World) (hb : Below w.heap.size w w') (r : Int) => ref_Of18 a b c g r w' (HG.old hb) h3)
  have HNa := hidden (fun (w' : World) (hb : Below w.heap.size w w') => ref_Names a b c g w' (HG.old hb) h1 h2)
  have HNm : Hid (∀ u w1 i s, i < g.rules.length → g.rules[i]? = some s → Strs w1 (Old w1) u (allNames g) → Calls Tryz.prog 28 #[u, .int .i64 ((g.toks.length : Int) + (i : Int))] w1 fun r w' => r = .returned (.int .i64 (nameErr s ((allNames g).take (g.toks.length + i)))) ∧ w1 = w') := hidden (fun u w1 i s hi hs h => by
    have e : (allNames g)[g.toks.length + i]? = some s := by unfold allNames; rw [List.getElem?_append_right (by rw [tokNames_len]; omega), tokNames_len, Nat.add_sub_cancel_left]; exact hs
    have := ref_name18 u _ (g.toks.length + i) s _ w1 h e (hz _ (List.mem_of_getElem? e))
    rwa [Int.natCast_add] at this)
  have HRu := hidden HG.2.1
  obtain ⟨⟨A1, k1, rfl, v1, m1⟩, ⟨A2, k2, rfl, v2, m2⟩, ⟨A3, k3, rfl, v3, m3⟩⟩ := HG.vals
  have hb : Below w.heap.size w w := Below.refl _ _
  obtain ⟨dd, hdd⟩ : ∃ dd, dd = checkOf g := ⟨_, rfl⟩
  rw [← hdd]
  have HC := hidden hdd
  clear hdd
  unfold gramCells at *
  clear HG
  go_enter Tryz.func11, Tryz.ntmps11
  go_wp2_with fail
  refine (HSz.out _ ?_).mono ?_
  · exact (by repeat (first | (with_reducible exact Below.refl _ _) | (with_reducible assumption) | (with_reducible refine Below.drew ?_) | (with_reducible refine below_drewN ?_ _) | ((with_reducible refine below_alloc ?_ ?_); (focus (first | omega | (simp; done) | (simp; omega)))) | ((with_reducible refine below_set ?_ ?_); (focus (first | omega | (simp; done) | (simp; omega))))))
  rintro r w1 ⟨rfl, hb1⟩
  have z1 : w.heap.size + 2 ≤ w1.heap.size := by have := hb1.size; simp at this; omega
  have R1 : Holds w1 (w.heap.size + 1) 35 #[.int .i64 0, .int .i64 0, .int .i64 0] := Holds.below (by repeat (first | (with_reducible assumption) | ((with_reducible refine holds_new ?_); (focus (first | rfl | (simp; done)))) | (with_reducible refine Holds.alloc ?_ _) | (with_reducible refine Holds.drew ?_))) hb1 (by simp)
  have B1 : Holds w1 w.heap.size 27 #[.slice A1 g.toks.length k1, .slice A2 g.rules.length k2, .slice A3 g.prods.length k3, .int .i64 g.start, .int .i64 g.states, .int .i64 g.text, .int .i64 g.nodes, .int .i64 g.pairs] := Holds.below (by repeat (first | (with_reducible assumption) | ((with_reducible refine holds_new ?_); (focus (first | rfl | (simp; done)))) | (with_reducible refine Holds.alloc ?_ _) | (with_reducible refine Holds.drew ?_))) hb1 (by simp; omega)
  have hbw : Below w.heap.size w w1 := Below.trans (by repeat (first | (with_reducible exact Below.refl _ _) | (with_reducible assumption) | (with_reducible refine Below.drew ?_) | (with_reducible refine below_drewN ?_ _) | ((with_reducible refine below_alloc ?_ ?_); (focus (first | omega | (simp; done) | (simp; omega)))) | ((with_reducible refine below_set ?_ ?_); (focus (first | omega | (simp; done) | (simp; omega)))))) (hb1.mono (by simp; omega))
  clear hb1 hb HSz
  obtain ⟨cs, hcs⟩ : ∃ cs : Array Value, cs = #[.slice A1 g.toks.length k1, .slice A2 g.rules.length k2, .slice A3 g.prods.length k3, .int .i64 g.start, .int .i64 g.states, .int .i64 g.text, .int .i64 g.nodes, .int .i64 g.pairs] := ⟨_, rfl⟩
  rw [← hcs] at B1
  have HCS := hidden hcs
  clear hcs
  unfold defC
  have HS0 := hidden (orD_right (sizes_clean g))
  have HK1 : Hid ((orD (sizesOf g) (firstD (tokD g) 0 g.toks.length)).kind = 0 → orD (sizesOf g) (firstD (tokD g) 0 g.toks.length) = D0) := hidden (stage_clean)
  go_upto_block 0 with fail
  go_cut [] (fun wx => ChkAt w w1.heap.size cs (orD (sizesOf g) (firstD (tokD g) 0 g.toks.length)) wx)
  case first =>
    go_wp2_with fail
    go_loopg [4] g.toks.length (fun gh ii wr => ∃ (k : Nat) (d : Defect), k ≤ g.toks.length ∧ gh = g.toks.length - k ∧ ii = .int .i64 k ∧ Hid (d = orD (sizesOf g) (firstD (tokD g) 0 k)) ∧ Hid (ChkAt w w1.heap.size cs d wr))
    case atStart => 
      refine ⟨0, sizesOf g, by omega, rfl, rfl, hidden (orD_right (sizes_clean g)).symm, hidden ⟨?_, z1, by simp, (by repeat (first | (with_reducible assumption) | ((with_reducible refine holds_new ?_); (focus (first | rfl | (simp; done)))) | (with_reducible refine Holds.alloc ?_ _) | (with_reducible refine Holds.drew ?_))), (by repeat (first | (with_reducible assumption) | ((with_reducible refine holds_new ?_); (focus (first | rfl | (simp; done)))) | (with_reducible refine Holds.alloc ?_ _) | (with_reducible refine Holds.drew ?_))), (by repeat (first | (with_reducible assumption) | ((with_reducible refine holds_new ?_); (focus (first | rfl | (simp; done)))) | (with_reducible refine Holds.alloc ?_ _) | (with_reducible refine Holds.drew ?_)))⟩⟩
      exact (by repeat (first | (with_reducible exact Below.refl _ _) | (with_reducible assumption) | (with_reducible refine Below.drew ?_) | (with_reducible refine below_drewN ?_ _) | ((with_reducible refine below_alloc ?_ ?_); (focus (first | omega | (simp; done) | (simp; omega)))) | ((with_reducible refine below_set ?_ ?_); (focus (first | omega | (simp; done) | (simp; omega))))))
    case round =>
      obtain ⟨k, d, hk, rfl, rfl, HD, HA⟩ := hrel
      have hbx := HA.out.box
      have hbr := HA.out.below
      have hlo := HA.out.low
      have hDl := HA.out.lt
      rw [HCS.out] at hbx
      obtain ⟨x0, x1, x2, x3, x4, x5, x6, x7⟩ := gram_cells hbx
      obtain ⟨r0, r1, r2, s0, s1, s2⟩ := HA.out.at_.three
      clear hbx
      by_cases hd : d.kind = 0
      · by_cases hlt : k < g.toks.length
        · have q : (d.kind == 0) = true := by simp [hd]
          have HE := hidden (stage_step (tok_clean g) (by rw [← HD.out]; exact hd))
          clear hd
          go_wp2_with fail
          refine (HTk.out _ hbr k hlt).mono ?_
          rintro r w2 ⟨rfl, hb2⟩
          have HA2 := hidden (HA.out.next hb2)
          have hz2 := hb2.size
          obtain ⟨y0, y1, y2, t0, t1, t2⟩ := HA2.out.at_.three
          clear hb2 HA HD x0 x1 x2 x3 x4 x5 x6 x7 r0 r1 r2 s0 s1 s2 hbr
          unfold defC
          go_wp2
          go_roundg (g.toks.length - (k + 1))
          case measure => omega
          case rel => exact ⟨k + 1, tokD g k, by omega, rfl, by go_num, hidden HE.out.symm, hidden (HA2.out.put _)⟩
        · obtain rfl : k = g.toks.length := by omega
          have HF : Hid (ChkAt w w1.heap.size cs (orD (sizesOf g) (firstD (tokD g) 0 g.toks.length)) wr) := hidden (by rw [← HD.out]; exact HA.out)
          have q : (d.kind == 0) = true := by simp [hd]
          clear hd
          go_wp2
          go_meet
          exact HF.out
      · have q : (d.kind == 0) = false := by simp [hd]
        have HF : Hid (ChkAt w w1.heap.size cs (orD (sizesOf g) (firstD (tokD g) 0 g.toks.length)) wr) := hidden (by rw [stage_stop (tok_clean g) hk (by rw [← HD.out]; exact hd), ← HD.out]; exact HA.out)
        clear hd
        go_wp2
        go_meet
        exact HF.out
  case rest =>
    have HA0 := hidden hcut
    have HC1 : Hid (dd = orD (orD (sizesOf g) (firstD (tokD g) 0 g.toks.length)) (orD (firstD (ruleD g) 0 g.rules.length) (orD (firstD (prodD g) 0 g.prods.length) (wholeD g)))) := hidden (by rw [HC.out, orD_assoc]; rfl)
    clear hcut z1 R1 B1 hbw HTk HC
    have hlo := HA0.out.low
    generalize orD (sizesOf g) (firstD (tokD g) 0 g.toks.length) = s1 at *
    generalize w1.heap.size = D at *
    go_upto_block 2 with fail
    go_cut [] (fun wx => ChkAt w D cs (orD s1 (firstD (ruleD g) 0 g.rules.length)) wx)
    case first =>
      go_wp2_with fail
      go_loopg [5] g.rules.length (fun gh ii wr => ∃ (k : Nat) (d : Defect), k ≤ g.rules.length ∧ gh = g.rules.length - k ∧ ii = .int .i64 k ∧ Hid (d = orD s1 (firstD (ruleD g) 0 k)) ∧ Hid (ChkAt w D cs d wr))
      case atStart => exact ⟨0, s1, by omega, rfl, rfl, hidden (orD_right HK1.out).symm, HA0⟩
      case round =>
        obtain ⟨k, d, hk, rfl, rfl, HD, HA⟩ := hrel
        have hbx := HA.out.box
        have hbr := HA.out.below
        have hDl := HA.out.lt
        rw [HCS.out] at hbx
        obtain ⟨x0, x1, x2, x3, x4, x5, x6, x7⟩ := gram_cells hbx
        obtain ⟨r0, r1, r2, s0, s1', s2⟩ := HA.out.at_.three
        have HBX := hidden hbx
        clear hbx
        by_cases hd : d.kind = 0
        · by_cases hlt : k < g.rules.length
          · have q : (d.kind == 0) = true := by simp [hd]
            have HE := hidden (stage_step (rule_clean g) (by rw [← HD.out]; exact hd))
            obtain ⟨sk, hsk⟩ : ∃ s, g.rules[k]? = some s := ⟨_, List.getElem?_eq_getElem hlt⟩
            have HNk := hidden (fun u w1 h => HNm.out u w1 k sk hlt hsk h)
            have HRk : Hid (ruleD g k = if nameErr sk ((allNames g).take (g.toks.length + k)) ≠ 0 then ⟨nameErr sk ((allNames g).take (g.toks.length + k)), k, 0⟩ else D0) := hidden (by unfold ruleD; rw [hsk])
            generalize nameErr sk ((allNames g).take (g.toks.length + k)) = e at *
            clear hd hsk
            have hw : IntKind.i64.wrap ((g.toks.length : Int) + (k : Int)) = (g.toks.length : Int) + (k : Int) := IntWalk.i64_in _ (by omega)
            go_wp2_with fail
            go_region_held3 (fun w' => w'.cell? ⟨w.heap.size, 0, none⟩ = some (.slice A1 g.toks.length k1) ∧ w'.cell? ⟨w.heap.size, 1, none⟩ = some (.slice A2 g.rules.length k2) ∧ w'.cell? ⟨w.heap.size, 2, none⟩ = some (.slice A3 g.prods.length k3) ∧ w'.cell? ⟨w.heap.size, 3, none⟩ = some (.int .i64 g.start) ∧ w'.cell? ⟨w.heap.size, 4, none⟩ = some (.int .i64 g.states) ∧ w'.cell? ⟨w.heap.size, 5, none⟩ = some (.int .i64 g.text) ∧ w'.cell? ⟨w.heap.size, 6, none⟩ = some (.int .i64 g.nodes) ∧ w'.cell? ⟨w.heap.size, 7, none⟩ = some (.int .i64 g.pairs) ∧ Below wr.heap.size wr w')
              (first | exact ⟨x0, x1, x2, x3, x4, x5, x6, x7, Below.drew (Below.refl _ _)⟩ | (go_split_ands; (refine ⟨?_, ?_, ?_, ?_, ?_, ?_, ?_, ?_, ?_⟩ <;> assumption)) | (go_split_ands; exact keep_gram HBX.out (by (first | assumption | exact Below.drew (Below.refl _ _) | exact Below.refl _ _)) (by assumption)))
              (first | (go_at_call 29; refine (HNa.out _ (hbr.trans (Below.mono (by (first | assumption | exact Below.drew (Below.refl _ _) | exact Below.refl _ _)) hbr.size))).mono ?_; rintro e w2 ⟨⟨u, rfl, HM⟩, hb2⟩) | (go_at_call 28; refine (HNk.out _ _ (StrsM.rd HM.out)).mono ?_; rintro e w3 ⟨rfl, rfl⟩))
            have HA2 := hidden (HA.out.next ((Below.drew (Below.refl _ _)).trans hb2))
            have hz2 : D < w2.heap.size := HA2.out.lt
            have HZ : Hid (e = 0 → d = orD s1 (firstD (ruleD g) 0 (k + 1))) := hidden (fun he => by
              rw [HE.out, HRk.out, if_neg (by simp [he]), HD.out]
              exact stage_clean (by rw [← HD.out]; simpa using q))
            have HZ2 : Hid (e ≠ 0 → orD s1 (firstD (ruleD g) 0 (k + 1)) = ⟨e, k, 0⟩) := hidden (fun he => by rw [HE.out, HRk.out, if_pos he])
            obtain ⟨y0, y1, y2, t0, t1, t2⟩ := HA2.out.at_.three
            clear hb2 HA x0 x1 x2 x3 x4 x5 x6 x7 r0 r1 r2 s0 s1' s2 hbr HBX HE HRk hw HM HNk HNa HNm HRu
            by_cases he : e = 0
            · have HD2 := hidden (HZ.out he)
              subst he
              clear HZ HZ2 HD
              go_wp2
              go_roundg (g.rules.length - (k + 1))
              case measure => omega
              case rel => exact ⟨k + 1, d, by omega, rfl, by go_num, HD2, HA2⟩
            · have HD2 := hidden (HZ2.out he)
              have qe : (e != 0) = true := by rw [bne_iff_ne]; exact he
              clear HZ HZ2 HD
              go_wp2
              go_roundg (g.rules.length - (k + 1))
              case measure => omega
              case rel => exact ⟨k + 1, ⟨e, k, 0⟩, by omega, rfl, by go_num, hidden HD2.out.symm, hidden (HA2.out.put ⟨e, k, 0⟩)⟩
          · obtain rfl : k = g.rules.length := by omega
            have HF : Hid (ChkAt w D cs (orD s1 (firstD (ruleD g) 0 g.rules.length)) wr) := hidden (by rw [← HD.out]; exact HA.out)
            have q : (d.kind == 0) = true := by simp [hd]
            clear hd
            go_wp2
            go_meet
            exact HF.out
        · have q : (d.kind == 0) = false := by simp [hd]
          have HF : Hid (ChkAt w D cs (orD s1 (firstD (ruleD g) 0 g.rules.length)) wr) := hidden (by rw [stage_stop (rule_clean g) hk (by rw [← HD.out]; exact hd), ← HD.out]; exact HA.out)
          clear hd
          go_wp2
          go_meet
          exact HF.out
    case rest =>
      have HA1 := hidden hcut
      have HK2 : Hid ((orD s1 (firstD (ruleD g) 0 g.rules.length)).kind = 0 → orD s1 (firstD (ruleD g) 0 g.rules.length) = D0) := hidden stage_clean
      have HC2 : Hid (dd = orD (orD s1 (firstD (ruleD g) 0 g.rules.length)) (orD (firstD (prodD g) 0 g.prods.length) (wholeD g))) := hidden (by rw [HC1.out, orD_assoc])
      clear hcut HA0 HNa HNm HRu HK1 HC1
      generalize orD s1 (firstD (ruleD g) 0 g.rules.length) = s2 at *
      go_upto_block 4 with fail
      go_cut [] (fun wx => ChkAt w D cs (orD s2 (firstD (prodD g) 0 g.prods.length)) wx)
      case first =>
        go_wp2_with fail
        go_loopg [7] g.prods.length (fun gh ii wr => ∃ (k : Nat) (d : Defect), k ≤ g.prods.length ∧ gh = g.prods.length - k ∧ ii = .int .i64 k ∧ Hid (d = orD s2 (firstD (prodD g) 0 k)) ∧ Hid (ChkAt w D cs d wr))
        case atStart => exact ⟨0, s2, by omega, rfl, rfl, hidden (orD_right HK2.out).symm, HA1⟩
        case round =>
          obtain ⟨k, d, hk, rfl, rfl, HD, HA⟩ := hrel
          have hbx := HA.out.box
          have hbr := HA.out.below
          have hDl := HA.out.lt
          rw [HCS.out] at hbx
          obtain ⟨x0, x1, x2, x3, x4, x5, x6, x7⟩ := gram_cells hbx
          obtain ⟨r0, r1, r2, s0, s1', s2'⟩ := HA.out.at_.three
          clear hbx
          by_cases hd : d.kind = 0
          · by_cases hlt : k < g.prods.length
            · have q : (d.kind == 0) = true := by simp [hd]
              have HE := hidden (stage_step (prod_clean g) (by rw [← HD.out]; exact hd))
              clear hd
              go_wp2_with fail
              refine (HPr.out _ hbr k hlt).mono ?_
              rintro r w2 ⟨rfl, hb2⟩
              have HA2 := hidden (HA.out.next hb2)
              have hz2 := hb2.size
              obtain ⟨y0, y1, y2, t0, t1, t2⟩ := HA2.out.at_.three
              clear hb2 HA HD x0 x1 x2 x3 x4 x5 x6 x7 r0 r1 r2 s0 s1' s2' hbr
              unfold defC
              go_wp2
              go_roundg (g.prods.length - (k + 1))
              case measure => omega
              case rel => exact ⟨k + 1, prodD g k, by omega, rfl, by go_num, hidden HE.out.symm, hidden (HA2.out.put _)⟩
            · obtain rfl : k = g.prods.length := by omega
              have HF : Hid (ChkAt w D cs (orD s2 (firstD (prodD g) 0 g.prods.length)) wr) := hidden (by rw [← HD.out]; exact HA.out)
              have q : (d.kind == 0) = true := by simp [hd]
              clear hd
              go_wp2
              go_meet
              exact HF.out
          · have q : (d.kind == 0) = false := by simp [hd]
            have HF : Hid (ChkAt w D cs (orD s2 (firstD (prodD g) 0 g.prods.length)) wr) := hidden (by rw [stage_stop (prod_clean g) hk (by rw [← HD.out]; exact hd), ← HD.out]; exact HA.out)
            clear hd
            go_wp2
            go_meet
            exact HF.out
      case rest =>
        have HA2 := hidden hcut
        have HK3 : Hid ((orD s2 (firstD (prodD g) 0 g.prods.length)).kind = 0 → orD s2 (firstD (prodD g) 0 g.prods.length) = D0) := hidden stage_clean
        have HC3 : Hid (dd = orD (orD (orD s2 (firstD (prodD g) 0 g.prods.length)) (startD g)) (firstD (noneD g) 0 g.rules.length)) := hidden (by rw [HC2.out, orD_assoc, orD_assoc]; rfl)
        clear hcut HA1 HPr HK2 HC2
        generalize orD s2 (firstD (prodD g) 0 g.prods.length) = s3 at *
        have hbx := HA2.out.box
        have hDl := HA2.out.lt
        rw [HCS.out] at hbx
        obtain ⟨x0, x1, x2, x3, x4, x5, x6, x7⟩ := gram_cells hbx
        obtain ⟨r0, r1, r2, e0, e1, e2⟩ := HA2.out.at_.three
        clear hbx
        have HT1 : Hid (s3.kind = 0 ∧ (g.start < 0 ∨ (g.rules.length : Int) ≤ g.start) → orD s3 (startD g) = ⟨11, -1, 0⟩) := hidden (fun h => by
          rw [orD_zero h.1]; unfold startD; rw [if_pos h.2])
        have HT2 : Hid (¬ (s3.kind = 0 ∧ (g.start < 0 ∨ (g.rules.length : Int) ≤ g.start)) → orD s3 (startD g) = s3) := hidden (fun h => by
          by_cases h0 : s3.kind = 0
          · rw [orD_zero h0, HK3.out h0]; unfold startD; rw [if_neg (fun h1 => h ⟨h0, h1⟩)]
          · rw [orD_some h0])
        obtain ⟨bb, hbb⟩ : ∃ bb : Bool, bb = decide (s3.kind = 0 ∧ (g.start < 0 ∨ (g.rules.length : Int) ≤ g.start)) := ⟨_, rfl⟩
        have HBB := hidden hbb
        clear hbb
        go_upto_region 16 with fail
        go_cut [81] (fun c wx => c = .bool bb ∧ wc = wx)
        case first =>
          by_cases hd : s3.kind = 0
          · have q : (s3.kind == 0) = true := by simp [hd]
            by_cases hs : g.start < 0
            · obtain rfl : bb = true := by rw [HBB.out]; exact decide_eq_true ⟨hd, .inl hs⟩
              clear hd
              go_wp2
              go_meet
              exact ⟨rfl, rfl⟩
            · by_cases hs2 : (g.rules.length : Int) ≤ g.start
              · obtain rfl : bb = true := by rw [HBB.out]; exact decide_eq_true ⟨hd, .inr hs2⟩
                clear hd
                go_wp2
                go_meet
                exact ⟨rfl, rfl⟩
              · obtain rfl : bb = false := by rw [HBB.out]; exact decide_eq_false (by omega)
                clear hd
                go_wp2
                go_meet
                exact ⟨rfl, rfl⟩
          · have q : (s3.kind == 0) = false := by simp [hd]
            obtain rfl : bb = false := by rw [HBB.out]; exact decide_eq_false (fun h => hd h.1)
            clear hd
            go_wp2
            go_meet
            exact ⟨rfl, rfl⟩
        case rest =>
          obtain ⟨rfl, rfl⟩ := hcut
          go_upto_if 81 with fail
          go_cut [] (fun wx => ChkAt w D cs (orD s3 (startD g)) wx)
          case first =>
            cases bb
            · have HF : Hid (ChkAt w D cs (orD s3 (startD g)) wc) := hidden (by rw [HT2.out (of_decide_eq_false HBB.out.symm)]; exact HA2.out)
              go_wp2
              go_meet
              exact HF.out
            · have HF : Hid (ChkAt w D cs (orD s3 (startD g)) (((wc.setCell ⟨D, 0, none⟩ (.int .i64 11)).setCell ⟨D, 1, none⟩ (.int .i64 (-1))).setCell ⟨D, 2, none⟩ (.int .i64 0))) := hidden (by rw [HT1.out (of_decide_eq_true HBB.out.symm)]; exact HA2.out.put ⟨11, -1, 0⟩)
              go_wp2
              go_meet
              exact HF.out
          case rest =>
            have HA3 := hidden hcut
            have HK4 : Hid ((orD s3 (startD g)).kind = 0 → orD s3 (startD g) = D0) := hidden (fun h => by
              obtain ⟨a, b⟩ := orD_kind.1 h
              rw [orD_zero a, start_clean g b])
            clear hcut HA2 HK3 HT1 HT2 HBB x0 x1 x2 x3 x4 x5 x6 x7 r0 r1 r2 e0 e1 e2 hDl
            generalize orD s3 (startD g) = s4 at *
            go_wp2
            go_loopg [8] g.rules.length (fun gh ii wr => ∃ (k : Nat) (d : Defect), k ≤ g.rules.length ∧ gh = g.rules.length - k ∧ ii = .int .i64 k ∧ Hid (d = orD s4 (firstD (noneD g) 0 k)) ∧ Hid (ChkAt w D cs d wr))
            case atStart => exact ⟨0, s4, by omega, rfl, rfl, hidden (orD_right HK4.out).symm, HA3⟩
            case round =>
              obtain ⟨k, d, hk, rfl, rfl, HD, HA⟩ := hrel
              have hbx := HA.out.box
              have hbr := HA.out.below
              have hDl := HA.out.lt
              rw [HCS.out] at hbx
              obtain ⟨x0, x1, x2, x3, x4, x5, x6, x7⟩ := gram_cells hbx
              obtain ⟨r0, r1, r2, e0, e1, e2⟩ := HA.out.at_.three
              obtain ⟨o0, o1, o2, f0, f1, f2⟩ := HA.out.res.three
              clear hbx
              by_cases hd : d.kind = 0
              · have q : (d.kind == 0) = true := by simp [hd]
                by_cases hlt : k < g.rules.length
                · have HE := hidden (stage_step (none_clean g) (by rw [← HD.out]; exact hd))
                  have HZ : Hid ((ofRule g k).length ≠ 0 → d = orD s4 (firstD (noneD g) 0 (k + 1))) := hidden (fun he => by
                    rw [HE.out, HD.out, stage_clean (by rw [← HD.out]; exact hd)]
                    unfold noneD; rw [if_neg he])
                  have HZ2 : Hid ((ofRule g k).length = 0 → orD s4 (firstD (noneD g) 0 (k + 1)) = ⟨5, k, 0⟩) := hidden (fun he => by rw [HE.out]; unfold noneD; rw [if_pos he])
                  have HOk := hidden (HOf.out _ hbr k)
                  generalize ofRule g k = ro at *
                  clear hd
                  go_wp2_with fail
                  refine HOk.out.mono ?_
                  rintro r w2 ⟨⟨u, rfl, HM⟩, hb2⟩
                  obtain ⟨Au, cu, rfl⟩ := Mine.value HM.out
                  have HA2 := hidden (HA.out.next hb2)
                  have hz2 : D < w2.heap.size := HA2.out.lt
                  clear hb2 HA x0 x1 x2 x3 x4 x5 x6 x7 r0 r1 r2 e0 e1 e2 o0 o1 o2 f0 f1 f2 hbr HE HM HOk
                  obtain ⟨y0, y1, y2, t0, t1, t2⟩ := HA2.out.at_.three
                  by_cases he : ro.length = 0
                  · have HD2 := hidden (HZ2.out he)
                    have qe : ((ro.length : Int) == 0) = true := by simp [he]
                    clear HZ HZ2 HD he
                    go_wp2
                    go_roundg (g.rules.length - (k + 1))
                    case measure => omega
                    case rel => exact ⟨k + 1, ⟨5, k, 0⟩, by omega, rfl, by go_num, hidden HD2.out.symm, hidden (HA2.out.put ⟨5, k, 0⟩)⟩
                  · have HD2 := hidden (HZ.out he)
                    have qe : ((ro.length : Int) == 0) = false := by simp [he]
                    clear HZ HZ2 HD
                    go_wp2
                    go_roundg (g.rules.length - (k + 1))
                    case measure => omega
                    case rel => exact ⟨k + 1, d, by omega, rfl, by go_num, HD2, HA2⟩
                · obtain rfl : k = g.rules.length := by omega
                  have HE : Hid (dd = ⟨d.kind, d.at_, d.more⟩) := hidden (by rw [HC3.out, ← HD.out])
                  clear hd
                  go_wp2
                  exact bodyPost_ret (v := defC ⟨d.kind, d.at_, d.more⟩) (by simp [results, Tryz.results11, go_sem, defC, o0, o1, o2]) rfl ⟨by first | rfl | rw [HE.out], (by repeat (first | (with_reducible exact Below.refl _ _) | (with_reducible assumption) | (with_reducible refine Below.drew ?_) | (with_reducible refine below_drewN ?_ _) | ((with_reducible refine below_alloc ?_ ?_); (focus (first | omega | (simp; done) | (simp; omega)))) | ((with_reducible refine below_set ?_ ?_); (focus (first | omega | (simp; done) | (simp; omega))))))⟩
              · have q : (d.kind == 0) = false := by simp [hd]
                have HE : Hid (dd = ⟨d.kind, d.at_, d.more⟩) := hidden (by rw [HC3.out, stage_stop (none_clean g) hk (by rw [← HD.out]; exact hd), ← HD.out])
                clear hd
                go_wp2
                exact bodyPost_ret (v := defC ⟨d.kind, d.at_, d.more⟩) (by simp [results, Tryz.results11, go_sem, defC, o0, o1, o2]) rfl ⟨by first | rfl | rw [HE.out], (by repeat (first | (with_reducible exact Below.refl _ _) | (with_reducible assumption) | (with_reducible refine Below.drew ?_) | (with_reducible refine below_drewN ?_ _) | ((with_reducible refine below_alloc ?_ ?_); (focus (first | omega | (simp; done) | (simp; omega)))) | ((with_reducible refine below_set ?_ ?_); (focus (first | omega | (simp; done) | (simp; omega))))))⟩
end Go.Proofs.YtfmdmeokbbpmlaaGreat

namespace Go.Proofs.YtfmdmeokbbpmlaaGreat
open Go.RowKit Go.Shelf

theorem _root_.Go.RowKit.Below.drewN {B : Nat} {a w : World} (h : Below B a w) (n : Nat) : Below B a (w.drewN n) := ⟨h.os, h.tape, h.output, h.size, h.block⟩
theorem find_all (g : Gram) (s : ByteArray) : findOf (allNames g) s = if 0 ≤ findOf (tokNames g) s then findOf (tokNames g) s else if 0 ≤ findOf g.rules s then (g.toks.length : Int) + findOf g.rules s else -1 := by
  have := find_append (tokNames g) g.rules s
  rwa [tokNames_len] at this
theorem findTok_lt (g : Gram) (s : ByteArray) : findOf (tokNames g) s < g.toks.length := by
  have := (find_bounds (tokNames g) s).2
  rwa [tokNames_len] at this

set_option maxRecDepth 20000 in
set_option maxHeartbeats 2000000 in
theorem ref_Find18 (a b c : Value) (g : Gram) (s : ByteArray) (w : World) (HG : GramIs w (Old w) a b c g) (h1 : g.toks.length ≤ 100000) (h2 : g.rules.length ≤ 100000) :
    Calls Tryz.prog 78 #[.agg (gramCells a b c g), .string s] w fun r w' => r = .returned (.tuple #[.bool (isRule g s), .int .i64 (findNo g s)]) ∧ Below w.heap.size w w' := by
  have HNa := hidden (fun (w' : World) (hb : Below w.heap.size w w') => ref_Names a b c g w' (HG.old hb) h1 h2)
  have HFa := hidden (find_all g s)
  have l1 := findTok_lt g s
  have l2 := (find_bounds g.rules s).2
  have l3 := (find_bounds g.rules s).1
  have l4 := (find_bounds (tokNames g) s).1
  obtain ⟨⟨A1, k1, rfl, v1, m1⟩, ⟨A2, k2, rfl, v2, m2⟩, ⟨A3, k3, rfl, v3, m3⟩⟩ := HG.vals
  unfold gramCells isRule findNo at *
  have HFi : Hid (∀ u w1, Strs w1 (Old w1) u (allNames g) → Calls Tryz.prog 50 #[u, .string s] w1 fun r w' => r = .returned (.int .i64 (findOf (allNames g) s)) ∧ w1 = w') := hidden (fun u w1 h => ref_find u _ s _ w1 h)
  rw [HFa.out] at HFi
  generalize findOf (tokNames g) s = ft at *
  generalize findOf g.rules s = fr at *
  have hb := Below.refl w.heap.size w
  clear HG HFa
  by_cases c1 : 0 ≤ ft
  · rw [if_pos c1] at HFi ⊢
    have e1 : (decide (ft < 0) && decide (0 ≤ fr)) = false := by rw [decide_eq_false (by omega)]; rfl
    rw [e1]
    clear e1
    go_enter Tryz.func78, Tryz.ntmps78
    go_wp2_with fail
    refine (HNa.out _ ?_).mono ?_
    · exact (by repeat (first | (with_reducible exact Below.refl _ _) | (with_reducible assumption) | (with_reducible refine Below.drew ?_) | (with_reducible refine below_drewN ?_ _) | ((with_reducible refine below_alloc ?_ ?_); (focus (first | omega | (simp; done) | (simp; omega)))) | ((with_reducible refine below_set ?_ ?_); (focus (first | omega | (simp; done) | (simp; omega))))))
    rintro r w2 ⟨⟨u, rfl, HM⟩, hb2⟩
    obtain ⟨hc2, hf2⟩ := old_cells hb2
    have z2 : w.heap.size + 1 ≤ w2.heap.size := by have := hb2.size; simpa using this
    have hbw : Below w.heap.size w w2 := Below.trans (by repeat (first | (with_reducible exact Below.refl _ _) | (with_reducible assumption) | (with_reducible refine Below.drew ?_) | (with_reducible refine below_drewN ?_ _) | ((with_reducible refine below_alloc ?_ ?_); (focus (first | omega | (simp; done) | (simp; omega)))) | ((with_reducible refine below_set ?_ ?_); (focus (first | omega | (simp; done) | (simp; omega)))))) (hb2.mono (by simp))
    have hR := hidden (StrsM.rd HM.out)
    go_wp2_with fail
    refine (HFi.out _ _ hR.out).mono ?_
    rintro r w3 ⟨rfl, rfl⟩
    go_wp2
    go_ret2
    exact ⟨rfl, hbw⟩
  · rw [if_neg c1] at HFi ⊢
    by_cases c2 : 0 ≤ fr
    · rw [if_pos c2] at HFi
      have e1 : (decide (ft < 0) && decide (0 ≤ fr)) = true := by rw [decide_eq_true (by omega), decide_eq_true c2]; rfl
      rw [e1]
      clear e1
      go_enter Tryz.func78, Tryz.ntmps78
      go_wp2_with fail
      refine (HNa.out _ ?_).mono ?_
      · exact (by repeat (first | (with_reducible exact Below.refl _ _) | (with_reducible assumption) | (with_reducible refine Below.drew ?_) | (with_reducible refine below_drewN ?_ _) | ((with_reducible refine below_alloc ?_ ?_); (focus (first | omega | (simp; done) | (simp; omega)))) | ((with_reducible refine below_set ?_ ?_); (focus (first | omega | (simp; done) | (simp; omega))))))
      rintro r w2 ⟨⟨u, rfl, HM⟩, hb2⟩
      have x0 : w2.cell? ⟨w.heap.size, 0, none⟩ = some (.slice A1 g.toks.length k1) := (hb2.cell (p := ⟨w.heap.size, 0, none⟩) (by simp)).trans (by go_simp)
      have z2 : w.heap.size + 1 ≤ w2.heap.size := by have := hb2.size; simpa using this
      have hbw : Below w.heap.size w w2 := Below.trans (by repeat (first | (with_reducible exact Below.refl _ _) | (with_reducible assumption) | (with_reducible refine Below.drew ?_) | (with_reducible refine below_drewN ?_ _) | ((with_reducible refine below_alloc ?_ ?_); (focus (first | omega | (simp; done) | (simp; omega)))) | ((with_reducible refine below_set ?_ ?_); (focus (first | omega | (simp; done) | (simp; omega)))))) (hb2.mono (by simp))
      have hR := hidden (StrsM.rd HM.out)
      clear hb2
      go_wp2_with fail
      refine (HFi.out _ _ hR.out).mono ?_
      rintro r w3 ⟨rfl, rfl⟩
      clear HFi hR HM HNa
      go_wp2
      go_quiet (fail)
      go_wp2
      go_ret2
      exact ⟨by rw [show ((g.toks.length : Int) + fr - g.toks.length) = fr by omega]; rfl, hbw.drewN _⟩
    · rw [if_neg c2] at HFi
      have e1 : (decide (ft < 0) && decide (0 ≤ fr)) = false := by rw [decide_eq_false c2, Bool.and_false]
      rw [e1]
      obtain rfl : fr = -1 := by omega
      clear e1
      go_enter Tryz.func78, Tryz.ntmps78
      go_wp2_with fail
      refine (HNa.out _ ?_).mono ?_
      · exact (by repeat (first | (with_reducible exact Below.refl _ _) | (with_reducible assumption) | (with_reducible refine Below.drew ?_) | (with_reducible refine below_drewN ?_ _) | ((with_reducible refine below_alloc ?_ ?_); (focus (first | omega | (simp; done) | (simp; omega)))) | ((with_reducible refine below_set ?_ ?_); (focus (first | omega | (simp; done) | (simp; omega))))))
      rintro r w2 ⟨⟨u, rfl, HM⟩, hb2⟩
      obtain ⟨hc2, hf2⟩ := old_cells hb2
      have z2 : w.heap.size + 1 ≤ w2.heap.size := by have := hb2.size; simpa using this
      have hbw : Below w.heap.size w w2 := Below.trans (by repeat (first | (with_reducible exact Below.refl _ _) | (with_reducible assumption) | (with_reducible refine Below.drew ?_) | (with_reducible refine below_drewN ?_ _) | ((with_reducible refine below_alloc ?_ ?_); (focus (first | omega | (simp; done) | (simp; omega)))) | ((with_reducible refine below_set ?_ ?_); (focus (first | omega | (simp; done) | (simp; omega)))))) (hb2.mono (by simp))
      have hR := hidden (StrsM.rd HM.out)
      go_wp2_with fail
      refine (HFi.out _ _ hR.out).mono ?_
      rintro r w3 ⟨rfl, rfl⟩
      go_wp2
      go_ret2
      exact ⟨rfl, hbw⟩

set_option maxRecDepth 20000 in
set_option maxHeartbeats 4000000 in
theorem ref_sameProd (x y : Prod) (l1 l2 : Value) (w : World) (h1 : Rd w (Old w) 4 l1 x.right.length (x.right.flatMap itCells)) (h2 : Rd w (Old w) 4 l2 y.right.length (y.right.flatMap itCells)) :
    Calls Tryz.prog 25 #[.agg #[.int .i64 x.left, l1], .agg #[.int .i64 y.left, l2]] w fun r w' => r = .returned (.bool (eqB x y)) ∧ Below w.heap.size w w' := by
  obtain ⟨n1, L⟩ := x
  obtain ⟨n2, M⟩ := y
  dsimp only at h1 h2 ⊢
  have HA := hidden (fun (w' : World) (hw : Below w.heap.size w w') => Rd.old h1 hw)
  have HB := hidden (fun (w' : World) (hw : Below w.heap.size w w') => Rd.old h2 hw)
  have HE : Hid (eqB (⟨n1, L⟩ : Prod) ⟨n2, M⟩ = (n1 == n2 && eqB L M)) := hidden (by
    rw [Bool.eq_iff_iff, eqB_iff]
    simp only [Prod.mk.injEq, Bool.and_eq_true, beq_iff_eq, eqB_iff])
  obtain ⟨A1, k1, rfl, u1, m1⟩ := h1.val
  obtain ⟨A2, k2, rfl, u2, m2⟩ := h2.val
  unfold maxLen at m1 m2
  clear h1 h2
  rw [HE.out]
  clear HE
  by_cases hn : n1 = n2
  · subst hn
    by_cases hlen : L.length = M.length
    · have HT : Hid ((∀ k : Nat, k < L.length → L[k]? = M[k]?) → (n1 == n1 && eqB L M) = true) := hidden (fun h => by rw [eqB_true (list_ext_of hlen h)]; simp)
      have HF : Hid ((∃ (k : Nat) (x y : Item), L[k]? = some x ∧ M[k]? = some y ∧ x ≠ y) → (n1 == n1 && eqB L M) = false) := hidden (fun ⟨k, x, y, h1, h2, h3⟩ => by
        rw [eqB_false (fun e => by subst e; rw [h1] at h2; exact h3 (Option.some.inj h2))]; simp)
      generalize (n1 == n1 && eqB L M) = r at *
      have hlm : L.length ≤ M.length := by omega
      have q0 : ((L.length : Int) != (M.length : Int)) = false := by simp; omega
      have q1 : (n1 != n1) = false := by simp
      clear hlen
      go_enter Tryz.func25, Tryz.ntmps25
      go_wp2
      go_loopw [5] (fun kk wr => ∃ k : Nat, k ≤ L.length ∧ kk = .int .i64 k ∧ Hid (∀ j : Nat, j < k → L[j]? = M[j]?) ∧ Below w.heap.size w wr ∧ w.heap.size + 2 ≤ wr.heap.size ∧ Hid (Holds wr w.heap.size 50 #[.int .i64 n1, .slice A1 L.length k1]) ∧ Hid (Holds wr (w.heap.size + 1) 50 #[.int .i64 n1, .slice A2 M.length k2])) (fun kk _ => L.length - (intOf kk).toNat)
      case atStart => exact ⟨0, by omega, rfl, hidden (fun j h => by omega), (by repeat (first | (with_reducible exact Below.refl _ _) | (with_reducible assumption) | (with_reducible refine Below.drew ?_) | (with_reducible refine below_drewN ?_ _) | ((with_reducible refine below_alloc ?_ ?_); (focus (first | omega | (simp; done) | (simp; omega)))) | ((with_reducible refine below_set ?_ ?_); (focus (first | omega | (simp; done) | (simp; omega)))))), by simp, hidden (by repeat (first | (with_reducible assumption) | ((with_reducible refine holds_new ?_); (focus (first | rfl | (simp; done)))) | (with_reducible refine Holds.alloc ?_ _) | (with_reducible refine Holds.drew ?_))), hidden (by repeat (first | (with_reducible assumption) | ((with_reducible refine holds_new ?_); (focus (first | rfl | (simp; done)))) | (with_reducible refine Holds.alloc ?_ _) | (with_reducible refine Holds.drew ?_)))⟩
      case round =>
        obtain ⟨k, hk, rfl, HN, hb, z, H1, H2⟩ := hrel
        have p1 := H1.out.c21
        have p2 := H2.out.c21
        by_cases hlt : k < L.length
        · have hk2 : k < M.length := by omega
          have hx := List.getElem?_eq_getElem hlt
          have hy := List.getElem?_eq_getElem hk2
          obtain ⟨b1, o1, rfl, _, hat1⟩ := (HA.out _ hb).flat_at (fun _ => rfl) (by decide) hx
          obtain ⟨b2, o2, rfl, _, hat2⟩ := (HB.out _ hb).flat_at (fun _ => rfl) (by decide) hy
          have x0 := hat1 0 _ rfl
          have x1 := hat1 1 _ rfl
          have x2 := hat1 2 _ rfl
          have x3 := hat1 3 _ rfl
          have y0 := hat2 0 _ rfl
          have y1 := hat2 1 _ rfl
          have y2 := hat2 2 _ rfl
          have y3 := hat2 3 _ rfl
          rw [Nat.add_zero] at x0 y0
          generalize L[k] = x at *
          generalize M[k] = y at *
          have HX := hidden hx
          have HY := hidden hy
          clear hx hy hat1 hat2
          have z0 := Ext.cell x0; have z1 := Ext.cell x1; have z2 := Ext.cell x2; have z3 := Ext.cell x3
          have v0 := Ext.cell y0; have v1 := Ext.cell y1; have v2 := Ext.cell y2; have v3 := Ext.cell y3
          have s1 := Ext.cell p1; have s2 := Ext.cell p2
          have hq := fun w => it_eq_run w x y
          go_wp2_with fail
          refine wp_region_ext (by kernel_rfl) (by kernel_rfl) ?_
          repeat (go_big_quiet_step (fail))
          refine wpQuiet_nil ?_
          intro w2 hb2
          have z4 := hb2.size
          replace H1 := hidden (H1.out.below hb2 (by omega))
          replace H2 := hidden (H2.out.below hb2 (by omega))
          clear z0 z1 z2 z3 v0 v1 v2 v3 hq s1 s2 p1 p2
          clear x0 x1 x2 x3 y0 y1 y2 y3
          replace hb := hb.trans (hb2.mono hb.size)
          clear hb2
          by_cases hxy : x = y
          · have HN2 : Hid (∀ j : Nat, j < k + 1 → L[j]? = M[j]?) := hidden (fun j hj => by
              by_cases e : j = k
              · subst e; rw [HX.out, HY.out, hxy]
              · exact HN.out j (by omega))
            rw [eqB_true hxy]
            clear hxy HN HX HY
            go_wp2
            go_roundw
            case rel => exact ⟨k + 1, by omega, by go_num, HN2, hb, by omega, H1, H2⟩
            case measure => simp [intOf]; omega
          · have HE := hidden (HF.out ⟨k, _, _, HX.out, HY.out, hxy⟩)
            rw [eqB_false hxy]
            clear hxy
            go_wp2
            go_ret
            exact ⟨by rw [HE.out]; rfl, hb⟩
        · obtain rfl : k = L.length := by omega
          have HE := hidden (HT.out HN.out)
          go_wp2
          go_ret
          exact ⟨by rw [HE.out]; rfl, hb⟩
    · have q1 : (((L.length : Nat) : Int) != (M.length : Int)) = true := by rw [bne_iff_ne]; omega
      have q2 : (n1 != n1) = false := by simp
      rw [eqB_false (fun e => hlen (by rw [e])), Bool.and_false]
      clear hlen
      go_enter Tryz.func25, Tryz.ntmps25
      go_wp2
      go_ret
      exact ⟨rfl, (by repeat (first | (with_reducible exact Below.refl _ _) | (with_reducible assumption) | (with_reducible refine Below.drew ?_) | (with_reducible refine below_drewN ?_ _) | ((with_reducible refine below_alloc ?_ ?_); (focus (first | omega | (simp; done) | (simp; omega)))) | ((with_reducible refine below_set ?_ ?_); (focus (first | omega | (simp; done) | (simp; omega))))))⟩
  · have q : (n1 != n2) = true := by rw [bne_iff_ne]; exact hn
    have q1 : (n1 == n2) = false := by simp [hn]
    rw [q1, Bool.false_and]
    clear hn
    go_enter Tryz.func25, Tryz.ntmps25
    go_wp2
    go_ret
    exact ⟨rfl, (by repeat (first | (with_reducible exact Below.refl _ _) | (with_reducible assumption) | (with_reducible refine Below.drew ?_) | (with_reducible refine below_drewN ?_ _) | ((with_reducible refine below_alloc ?_ ?_); (focus (first | omega | (simp; done) | (simp; omega)))) | ((with_reducible refine below_set ?_ ?_); (focus (first | omega | (simp; done) | (simp; omega))))))⟩
end Go.Proofs.YtfmdmeokbbpmlaaGreat

namespace Go.Proofs.YtfmdmeokbbpmlaaGreat
open Go.RowKit Go.Shelf

theorem gram_eq (g h : Gram) : eqB g h = (eqB g.toks h.toks && (eqB g.rules h.rules && (eqB g.prods h.prods && (g.start == h.start && (g.states == h.states && (g.text == h.text && (g.nodes == h.nodes && g.pairs == h.pairs))))))) := by
  obtain ⟨a1, a2, a3, a4, a5, a6, a7, a8⟩ := g
  obtain ⟨b1, b2, b3, b4, b5, b6, b7, b8⟩ := h
  rw [Bool.eq_iff_iff, eqB_iff]
  simp only [Gram.mk.injEq, Bool.and_eq_true, beq_iff_eq, eqB_iff]
theorem eqB_list {α : Type} {L M : List α} (hl : L.length = M.length) (h : ∀ k : Nat, k < L.length → L[k]? = M[k]?) : eqB L M = true := eqB_true (list_ext_of hl h)
theorem eqB_at {α : Type} {L M : List α} {k : Nat} {x y : α} (h1 : L[k]? = some x) (h2 : M[k]? = some y) (h3 : x ≠ y) : eqB L M = false := eqB_false (fun e => by
  subst e; rw [h1] at h2; exact h3 (Option.some.inj h2))
theorem and_lid {a b : Bool} (h : a = false) : (a && b) = false := by rw [h]; rfl
theorem and_tru {a b : Bool} (h : a = true) : (a && b) = b := by rw [h]; rfl

theorem eight {w : World} {p : Nat} {t : TypeId} {a b c d e f g h : Value} (H : Holds w p t #[a, b, c, d, e, f, g, h]) :
    w.cell? ⟨p, 0, none⟩ = some a ∧ w.cell? ⟨p, 1, none⟩ = some b ∧ w.cell? ⟨p, 2, none⟩ = some c ∧ w.cell? ⟨p, 3, none⟩ = some d ∧ w.cell? ⟨p, 4, none⟩ = some e ∧ w.cell? ⟨p, 5, none⟩ = some f ∧ w.cell? ⟨p, 6, none⟩ = some g ∧ w.cell? ⟨p, 7, none⟩ = some h :=
  ⟨H.cell 0, H.cell 1, H.cell 2, H.cell 3, H.cell 4, H.cell 5, H.cell 6, H.cell 7⟩
set_option maxRecDepth 20000 in
set_option maxHeartbeats 8000000 in
theorem ref_Same18 (a b c a' b' c' : Value) (g h : Gram) (w : World) (HG : GramIs w (Old w) a b c g) (HH : GramIs w (Old w) a' b' c' h) :
    Calls Tryz.prog 9 #[.agg (gramCells a b c g), .agg (gramCells a' b' c' h)] w fun r w' => r = .returned (.bool (eqB g h)) ∧ Below w.heap.size w w' := by
  have HGo := hidden (fun (w' : World) (hb : Below w.heap.size w w') => HG.old hb)
  have HHo := hidden (fun (w' : World) (hb : Below w.heap.size w w') => HH.old hb)
  have HRS := hidden (fun (w' : World) (hb : Below w.heap.size w w') => same_strs b b' g.rules h.rules w' (HG.old hb).2.1 (HH.old hb).2.1)
  obtain ⟨⟨A1, k1, rfl, v1, m1⟩, ⟨A2, k2, rfl, v2, m2⟩, ⟨A3, k3, rfl, v3, m3⟩⟩ := HG.vals
  obtain ⟨⟨E1, l1, rfl, y1, n1⟩, ⟨E2, l2, rfl, y2, n2⟩, ⟨E3, l3, rfl, y3, n3⟩⟩ := HH.vals
  clear HG HH
  rw [gram_eq]
  unfold gramCells
  obtain ⟨tk, ru, pr, g4, g5, g6, g7, g8⟩ := g
  obtain ⟨tk', ru', pr', h4, h5, h6, h7, h8⟩ := h
  dsimp only at *
  unfold maxLen at *
  obtain ⟨rest, hrest⟩ : ∃ r : Bool, r = (g4 == h4 && (g5 == h5 && (g6 == h6 && (g7 == h7 && g8 == h8)))) := ⟨_, rfl⟩
  rw [← hrest]
  have HRest := hidden hrest
  clear hrest
  have hb := Below.refl w.heap.size w
  by_cases c1 : tk.length = tk'.length
  · have q1 : ((tk.length : Int) != (tk'.length : Int)) = false := by simp; omega
    by_cases c2 : pr.length = pr'.length
    · have q2 : ((pr.length : Int) != (pr'.length : Int)) = false := by simp; omega
      have HT1 := hidden (@eqB_list _ tk tk' c1)
      have HF1 := hidden (fun k x y => @eqB_at _ tk tk' k x y)
      have HT2 := hidden (@eqB_list _ pr pr' c2)
      have HF2 := hidden (fun k x y => @eqB_at _ pr pr' k x y)
      have lm1 : tk.length ≤ tk'.length := by omega
      have lm2 : pr.length ≤ pr'.length := by omega
      clear c1 c2
      generalize eqB ru ru' = er at *
      generalize eqB tk tk' = et at *
      generalize eqB pr pr' = ep at *
      obtain ⟨res, hres⟩ : ∃ r : Bool, r = (et && (er && (ep && rest))) := ⟨_, rfl⟩
      rw [← hres]
      have HRes := hidden hres
      clear hres
      cases er
      · have HE : Hid (res = false) := hidden (by rw [HRes.out]; simp)
        go_enter Tryz.func9, Tryz.ntmps9
        go_wp2_with fail
        refine (HRS.out _ ?_).mono ?_
        · exact (by repeat (first | (with_reducible exact Below.refl _ _) | (with_reducible assumption) | (with_reducible refine Below.drew ?_) | (with_reducible refine below_drewN ?_ _) | ((with_reducible refine below_alloc ?_ ?_); (focus (first | omega | (simp; done) | (simp; omega)))) | ((with_reducible refine below_set ?_ ?_); (focus (first | omega | (simp; done) | (simp; omega))))))
        rintro r w2 ⟨rfl, hb2⟩
        have hbw : Below w.heap.size w w2 := Below.trans (by repeat (first | (with_reducible exact Below.refl _ _) | (with_reducible assumption) | (with_reducible refine Below.drew ?_) | (with_reducible refine below_drewN ?_ _) | ((with_reducible refine below_alloc ?_ ?_); (focus (first | omega | (simp; done) | (simp; omega)))) | ((with_reducible refine below_set ?_ ?_); (focus (first | omega | (simp; done) | (simp; omega)))))) (hb2.mono (by simp; omega))
        clear hb2
        go_wp2
        go_ret
        exact ⟨by rw [HE.out]; rfl, hbw⟩
      · go_enter Tryz.func9, Tryz.ntmps9
        go_wp2_with fail
        refine (HRS.out _ ?_).mono ?_
        · exact (by repeat (first | (with_reducible exact Below.refl _ _) | (with_reducible assumption) | (with_reducible refine Below.drew ?_) | (with_reducible refine below_drewN ?_ _) | ((with_reducible refine below_alloc ?_ ?_); (focus (first | omega | (simp; done) | (simp; omega)))) | ((with_reducible refine below_set ?_ ?_); (focus (first | omega | (simp; done) | (simp; omega))))))
        rintro r w2 ⟨rfl, hb2⟩
        have HB1 := hidden (Holds.below (show Holds _ w.heap.size 27 #[.slice A1 tk.length k1, .slice A2 ru.length k2, .slice A3 pr.length k3, .int .i64 g4, .int .i64 g5, .int .i64 g6, .int .i64 g7, .int .i64 g8] from (by repeat (first | (with_reducible assumption) | ((with_reducible refine holds_new ?_); (focus (first | rfl | (simp; done)))) | (with_reducible refine Holds.alloc ?_ _) | (with_reducible refine Holds.drew ?_)))) hb2 (by simp; omega))
        have HB2 := hidden (Holds.below (show Holds _ (w.heap.size + 1) 27 #[.slice E1 tk'.length l1, .slice E2 ru'.length l2, .slice E3 pr'.length l3, .int .i64 h4, .int .i64 h5, .int .i64 h6, .int .i64 h7, .int .i64 h8] from (by repeat (first | (with_reducible assumption) | ((with_reducible refine holds_new ?_); (focus (first | rfl | (simp; done)))) | (with_reducible refine Holds.alloc ?_ _) | (with_reducible refine Holds.drew ?_)))) hb2 (by simp))
        have hz : w.heap.size + 2 ≤ w2.heap.size := by have := hb2.size; simp at this; omega
        have hbw : Below w.heap.size w w2 := Below.trans (by repeat (first | (with_reducible exact Below.refl _ _) | (with_reducible assumption) | (with_reducible refine Below.drew ?_) | (with_reducible refine below_drewN ?_ _) | ((with_reducible refine below_alloc ?_ ?_); (focus (first | omega | (simp; done) | (simp; omega)))) | ((with_reducible refine below_set ?_ ?_); (focus (first | omega | (simp; done) | (simp; omega)))))) (hb2.mono (by simp; omega))
        clear hb2 hb
        have hb := hbw
        clear hbw
        go_wp2
        go_loopw [5] (fun kk wr => ∃ k : Nat, k ≤ tk.length ∧ kk = .int .i64 k ∧ Hid (∀ j : Nat, j < k → tk[j]? = tk'[j]?) ∧ Below w.heap.size w wr ∧ w.heap.size + 2 ≤ wr.heap.size
          ∧ Hid (Holds wr w.heap.size 27 #[.slice A1 tk.length k1, .slice A2 ru.length k2, .slice A3 pr.length k3, .int .i64 g4, .int .i64 g5, .int .i64 g6, .int .i64 g7, .int .i64 g8])
          ∧ Hid (Holds wr (w.heap.size + 1) 27 #[.slice E1 tk'.length l1, .slice E2 ru'.length l2, .slice E3 pr'.length l3, .int .i64 h4, .int .i64 h5, .int .i64 h6, .int .i64 h7, .int .i64 h8])) (fun kk _ => tk.length - (intOf kk).toNat)
        case atStart => exact ⟨0, by omega, rfl, hidden (fun j h => by omega), hb, hz, HB1, HB2⟩
        case round =>
          clear HB1 HB2 hb hz
          obtain ⟨k, hk, rfl, HN, hb, z, H1, H2⟩ := hrel
          obtain ⟨s0, s1, s2, s3, s4, s5, s6, s7⟩ := eight H1.out
          obtain ⟨t0, t1, t2, t3, t4, t5, t6, t7⟩ := eight H2.out
          by_cases hlt : k < tk.length
          · have hk2 : k < tk'.length := by omega
            have hx := List.getElem?_eq_getElem hlt
            have hy := List.getElem?_eq_getElem hk2
            generalize tk[k] = x at *
            generalize tk'[k] = y at *
            obtain ⟨b1, o1, i1, rfl, _, hat1, hi1⟩ := (HGo.out _ hb).1.at_ hx
            obtain ⟨b2, o2, i2, rfl, _, hat2, hi2⟩ := (HHo.out _ hb).1.at_ hy
            have p0 := hat1 0 _ rfl
            have p1 := hat1 1 _ rfl
            have p2 := hat1 2 _ rfl
            have r0 := hat2 0 _ rfl
            have r1 := hat2 1 _ rfl
            have r2 := hat2 2 _ rfl
            rw [Nat.add_zero] at p0 r0
            rw [show tokR.k = 3 from rfl] at p0 p1 p2 r0 r1 r2
            have HX := hidden hx
            have HY := hidden hy
            have HC := hidden (fun (y' : Ext wr) => ref_sameToken x y i1 i2 y'.w (Rd.old hi1 y'.below) (Rd.old hi2 y'.below))
            clear hx hy hat1 hat2 hi1 hi2
            have e0 := Ext.cell s0; have e1 := Ext.cell t0
            have f0 := Ext.cell p0; have f1 := Ext.cell p1; have f2 := Ext.cell p2
            have f3 := Ext.cell r0; have f4 := Ext.cell r1; have f5 := Ext.cell r2
            go_wp2_with fail
            refine wp_region_ext (by kernel_rfl) (by kernel_rfl) ?_
            repeat (go_big_quiet_step ((go_at_call 24; exact Ext.call (HC.out _))))
            refine wpQuiet_nil ?_
            intro w3 hb3
            have z4 := hb3.size
            replace H1 := hidden (H1.out.below hb3 (by omega))
            replace H2 := hidden (H2.out.below hb3 (by omega))
            clear e0 e1 f0 f1 f2 f3 f4 f5 p0 p1 p2 r0 r1 r2 HC
            clear s0 s1 s2 s3 s4 s5 s6 s7 t0 t1 t2 t3 t4 t5 t6 t7
            replace hb := hb.trans (hb3.mono hb.size)
            clear hb3
            by_cases hxy : x = y
            · have HN2 : Hid (∀ j : Nat, j < k + 1 → tk[j]? = tk'[j]?) := hidden (fun j hj => by
                by_cases e : j = k
                · subst e; rw [HX.out, HY.out, hxy]
                · exact HN.out j (by omega))
              rw [eqB_true hxy]
              clear hxy HN HX HY
              go_wp2
              go_roundw
              case rel => exact ⟨k + 1, by omega, by go_num, HN2, hb, by omega, H1, H2⟩
              case measure => simp [intOf]; omega
            · have HE : Hid (res = false) := hidden (by rw [HRes.out, HF1.out k _ _ HX.out HY.out hxy]; rfl)
              rw [eqB_false hxy]
              clear hxy
              go_wp2
              go_ret
              exact ⟨by rw [HE.out]; rfl, hb⟩
          · obtain rfl : k = tk.length := by omega
            have HRes2 : Hid (res = (ep && rest)) := hidden (by rw [HRes.out, HT1.out HN.out]; rfl)
            clear HRes HT1 HF1 HN
            go_wp2
            clear s0 s1 s2 s3 s4 s5 s6 s7 t0 t1 t2 t3 t4 t5 t6 t7
            have hbA := hb
            have zA := z
            have H1A := H1
            have H2A := H2
            clear hb z H1 H2
            obtain ⟨wo, rfl⟩ : ∃ wo : World, wo = wr := ⟨_, rfl⟩
            go_loopw [6] (fun kk wr => ∃ k : Nat, k ≤ pr.length ∧ kk = .int .i64 k ∧ Hid (∀ j : Nat, j < k → pr[j]? = pr'[j]?) ∧ Below w.heap.size w wr ∧ w.heap.size + 2 ≤ wr.heap.size
              ∧ Hid (Holds wr w.heap.size 27 #[.slice A1 tk.length k1, .slice A2 ru.length k2, .slice A3 pr.length k3, .int .i64 g4, .int .i64 g5, .int .i64 g6, .int .i64 g7, .int .i64 g8])
              ∧ Hid (Holds wr (w.heap.size + 1) 27 #[.slice E1 tk'.length l1, .slice E2 ru'.length l2, .slice E3 pr'.length l3, .int .i64 h4, .int .i64 h5, .int .i64 h6, .int .i64 h7, .int .i64 h8])) (fun kk _ => pr.length - (intOf kk).toNat)
            case atStart => exact ⟨0, by omega, rfl, hidden (fun j h => by omega), hbA, zA, H1A, H2A⟩
            case round =>
              clear hbA zA H1A H2A
              obtain ⟨k, hk, rfl, HN, hb, z, H1, H2⟩ := hrel
              obtain ⟨s0, s1, s2, s3, s4, s5, s6, s7⟩ := eight H1.out
              obtain ⟨t0, t1, t2, t3, t4, t5, t6, t7⟩ := eight H2.out
              by_cases hlt : k < pr.length
              · have hk2 : k < pr'.length := by omega
                have hx := List.getElem?_eq_getElem hlt
                have hy := List.getElem?_eq_getElem hk2
                generalize pr[k] = x at *
                generalize pr'[k] = y at *
                obtain ⟨b1, o1, i1, rfl, _, hat1, hi1⟩ := (HGo.out _ hb).2.2.at_ hx
                obtain ⟨b2, o2, i2, rfl, _, hat2, hi2⟩ := (HHo.out _ hb).2.2.at_ hy
                have p0 := hat1 0 _ rfl
                have p1 := hat1 1 _ rfl
                have r0 := hat2 0 _ rfl
                have r1 := hat2 1 _ rfl
                rw [Nat.add_zero] at p0 r0
                rw [show prodR.k = 2 from rfl] at p0 p1 r0 r1
                have HX := hidden hx
                have HY := hidden hy
                have HC := hidden (fun (y' : Ext wr) => ref_sameProd x y i1 i2 y'.w (Rd.old hi1 y'.below) (Rd.old hi2 y'.below))
                clear hx hy hat1 hat2 hi1 hi2
                have e0 := Ext.cell s2; have e1 := Ext.cell t2
                have f0 := Ext.cell p0; have f1 := Ext.cell p1
                have f3 := Ext.cell r0; have f4 := Ext.cell r1
                go_wp2_with fail
                refine wp_region_ext (by kernel_rfl) (by kernel_rfl) ?_
                repeat (go_big_quiet_step ((go_at_call 25; exact Ext.call (HC.out _))))
                refine wpQuiet_nil ?_
                intro w3 hb3
                have z4 := hb3.size
                replace H1 := hidden (H1.out.below hb3 (by omega))
                replace H2 := hidden (H2.out.below hb3 (by omega))
                clear e0 e1 f0 f1 f3 f4 p0 p1 r0 r1 HC
                clear s0 s1 s2 s3 s4 s5 s6 s7 t0 t1 t2 t3 t4 t5 t6 t7
                replace hb := hb.trans (hb3.mono hb.size)
                clear hb3
                by_cases hxy : x = y
                · have HN2 : Hid (∀ j : Nat, j < k + 1 → pr[j]? = pr'[j]?) := hidden (fun j hj => by
                    by_cases e : j = k
                    · subst e; rw [HX.out, HY.out, hxy]
                    · exact HN.out j (by omega))
                  rw [eqB_true hxy]
                  clear hxy HN HX HY
                  go_wp2
                  go_roundw
                  case rel => exact ⟨k + 1, by omega, by go_num, HN2, hb, by omega, H1, H2⟩
                  case measure => simp [intOf]; omega
                · have HE : Hid (res = false) := hidden (by rw [HRes2.out, HF2.out k _ _ HX.out HY.out hxy]; rfl)
                  rw [eqB_false hxy]
                  clear hxy
                  go_wp2
                  go_ret
                  exact ⟨by rw [HE.out]; rfl, hb⟩
              · obtain rfl : k = pr.length := by omega
                have HRes3 : Hid (res = rest) := hidden (by rw [HRes2.out, HT2.out HN.out]; rfl)
                clear HRes2 HT2 HF2 HN
                have HR5 : Hid (res = (g4 == h4 && (g5 == h5 && (g6 == h6 && (g7 == h7 && g8 == h8))))) := hidden (by rw [HRes3.out, HRest.out])
                clear HRes3 HRest
                cases d4 : (g4 == h4)
                · have HE : Hid (res = false) := hidden (by rw [HR5.out, d4]; rfl)
                  go_wp2
                  go_ret
                  exact ⟨by rw [HE.out]; rfl, hb⟩
                cases d5 : (g5 == h5)
                · have HE : Hid (res = false) := hidden (by rw [HR5.out, d4, d5]; rfl)
                  go_wp2
                  go_ret
                  exact ⟨by rw [HE.out]; rfl, hb⟩
                cases d6 : (g6 == h6)
                · have HE : Hid (res = false) := hidden (by rw [HR5.out, d4, d5, d6]; rfl)
                  go_wp2
                  go_ret
                  exact ⟨by rw [HE.out]; rfl, hb⟩
                cases d7 : (g7 == h7)
                · have HE : Hid (res = false) := hidden (by rw [HR5.out, d4, d5, d6, d7]; rfl)
                  go_wp2
                  go_ret
                  exact ⟨by rw [HE.out]; rfl, hb⟩
                have HE : Hid (res = (g8 == h8)) := hidden (by rw [HR5.out, d4, d5, d6, d7]; rfl)
                go_wp2
                go_ret
                exact ⟨by rw [HE.out]; rfl, hb⟩
    · have q2 : ((pr.length : Int) != (pr'.length : Int)) = true := by rw [bne_iff_ne]; omega
      rw [eqB_false (a := pr) (b := pr') (fun e => c2 (by rw [e])), Bool.false_and, Bool.and_false, Bool.and_false]
      clear c1 c2
      go_enter Tryz.func9, Tryz.ntmps9
      go_wp2
      go_ret
      exact ⟨rfl, (by repeat (first | (with_reducible exact Below.refl _ _) | (with_reducible assumption) | (with_reducible refine Below.drew ?_) | (with_reducible refine below_drewN ?_ _) | ((with_reducible refine below_alloc ?_ ?_); (focus (first | omega | (simp; done) | (simp; omega)))) | ((with_reducible refine below_set ?_ ?_); (focus (first | omega | (simp; done) | (simp; omega))))))⟩
  · have q1 : ((tk.length : Int) != (tk'.length : Int)) = true := by rw [bne_iff_ne]; omega
    rw [eqB_false (a := tk) (b := tk') (fun e => c1 (by rw [e])), Bool.false_and]
    clear c1
    go_enter Tryz.func9, Tryz.ntmps9
    go_wp2
    go_ret
    exact ⟨rfl, (by repeat (first | (with_reducible exact Below.refl _ _) | (with_reducible assumption) | (with_reducible refine Below.drew ?_) | (with_reducible refine below_drewN ?_ _) | ((with_reducible refine below_alloc ?_ ?_); (focus (first | omega | (simp; done) | (simp; omega)))) | ((with_reducible refine below_set ?_ ?_); (focus (first | omega | (simp; done) | (simp; omega))))))⟩
end Go.Proofs.YtfmdmeokbbpmlaaGreat
