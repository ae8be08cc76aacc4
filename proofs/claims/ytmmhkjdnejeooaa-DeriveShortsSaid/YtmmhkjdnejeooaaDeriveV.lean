/-
  The document's size of a rule; clean nodes: facsimileref30.Size, facsimileref29.Clean.
-/
import Derived.Test.YtmmhkjdnejeooaaDeriveR
namespace Go.Proofs.Ytmmhkjdnejeooaa.T
open Go.RowKit Go.Shelf

noncomputable def docS (g : Gram) : List Int := RowS g.prods g.rules.length (g.rules.length + 1)
noncomputable def sizeG (g : Gram) (r : Int) : Int := if rightB g = true ∧ 0 ≤ r ∧ r < g.rules.length then szI (docS g) r else -1
theorem docS_len (g : Gram) : (docS g).length = g.rules.length := reachS_len ⟨_, rfl⟩

set_option maxRecDepth 20000 in
set_option maxHeartbeats 8000000 in
theorem ref_Size30 (a b c : Value) (g : Gram) (rule : Int) (w : World) (HG : GramIs w (Old w) a b c g) (hsm : Small g) (hpr : ∀ p ∈ g.prods, p.right.length ≤ 4398046511104) :
    Calls Try.prog 16 #[.agg (gramCells a b c g), .int .i64 rule] w fun r w' => r = .returned (.int .i64 (sizeG g rule)) ∧ Below w.heap.size w w' := by
  have HRt := hidden (fun (w' : World) (hb : Below w.heap.size w w') => ref_Right21 a b c g w' (HG.old hb) hsm.toks hsm.rules hsm.prods hsm.names)
  have HSs := hidden (fun (hr : rightB g = true) (w' : World) (hb : Below w.heap.size w w') => ref_sizes30 a b c g w' (HG.old hb) (rightB_sound hr) hsm hpr)
  have hE : Hid (sizeG g rule = if rightB g = true ∧ 0 ≤ rule ∧ rule < g.rules.length then szI (docS g) rule else -1) := hidden rfl
  have hdl := docS_len g
  obtain ⟨⟨A1, k1, rfl, v1, m1⟩, ⟨A2, k2, rfl, v2, m2⟩, ⟨A3, k3, rfl, v3, m3⟩⟩ := HG.vals
  generalize sizeG g rule = res at *
  unfold gramCells at *
  have hb1 : Below w.heap.size w (w.alloc (.cells #[.slice A1 g.toks.length k1, .slice A2 g.rules.length k2, .slice A3 g.prods.length k3, .int .i64 g.start, .int .i64 g.states, .int .i64 g.text, .int .i64 g.nodes, .int .i64 g.pairs] 26)) := (Below.refl _ _).alloc (Nat.le_refl _) _
  have HB1 : Hid (Holds (w.alloc (.cells #[.slice A1 g.toks.length k1, .slice A2 g.rules.length k2, .slice A3 g.prods.length k3, .int .i64 g.start, .int .i64 g.states, .int .i64 g.text, .int .i64 g.nodes, .int .i64 g.pairs] 26)) w.heap.size 26 #[.slice A1 g.toks.length k1, .slice A2 g.rules.length k2, .slice A3 g.prods.length k3, .int .i64 g.start, .int .i64 g.states, .int .i64 g.text, .int .i64 g.nodes, .int .i64 g.pairs]) := hidden (Holds.new w _ _)
  clear HG hsm hpr
  go_enter Try.func16, Try.ntmps16
  go_upto_region 1 with fail
  generalize (w.alloc (.cells #[.slice A1 g.toks.length k1, .slice A2 g.rules.length k2, .slice A3 g.prods.length k3, .int .i64 g.start, .int .i64 g.states, .int .i64 g.text, .int .i64 g.nodes, .int .i64 g.pairs] 26)) = w1 at *
  obtain ⟨x0, x1, x2, x3, x4, x5, x6, x7⟩ := eightR HB1.out
  have HX := hidden (HRt.out _ hb1)
  go_wp2_with fail
  refine HX.out.mono ?_
  rintro r w2 ⟨rfl, hb2⟩
  replace HB1 := hidden (HB1.out.below hb2 HB1.out.lt)
  replace hb1 := hb1.trans (hb2.mono hb1.size)
  clear x0 x1 x2 x3 x4 x5 x6 x7 hb2 HX HRt
  obtain ⟨x0, x1, x2, x3, x4, x5, x6, x7⟩ := eightR HB1.out
  cases hr : rightB g
  · have he : Hid (res = -1) := hidden (by rw [hE.out, if_neg (fun h => by have := h.1; rw [hr] at this; cases this)])
    clear hE HSs
    go_wp2
    go_ret
    exact ⟨by rw [he.out]; rfl, hb1⟩
  · by_cases h0 : rule < 0
    · have q0 : decide (rule < 0) = true := decide_eq_true h0
      have he : Hid (res = -1) := hidden (by rw [hE.out, if_neg (fun h => by have := h.2.1; omega)])
      clear hE HSs
      go_wp2
      go_ret
      exact ⟨by rw [he.out]; rfl, hb1⟩
    · have q0 : decide (rule < 0) = false := decide_eq_false h0
      obtain ⟨rn, rfl⟩ : ∃ rn : Nat, rule = (rn : Int) := ⟨rule.toNat, by omega⟩
      by_cases hrl : rn < g.rules.length
      · have q1 : decide ((g.rules.length : Int) ≤ (rn : Int)) = false := decide_eq_false (by omega)
        have hs := List.getElem?_eq_getElem (show rn < (docS g).length by omega)
        have he : Hid (res = (docS g)[rn]'(by omega)) := hidden (by rw [hE.out, if_pos ⟨hr, by omega, by omega⟩, szI_at hs])
        have HX := hidden (HSs.out hr w2 hb1)
        have hdd : RowS g.prods g.rules.length (g.rules.length + 1) = docS g := rfl
        rw [hdd] at HX
        generalize (docS g)[rn]'(by omega) = sv at *
        clear hE HSs hdd
        have hb1z := hb1.size
        go_wp2_with fail
        refine HX.out.mono ?_
        rintro r w3 ⟨⟨q, rfl, hq, HQ⟩, hb3⟩
        have z1 := IntsAt.at_ HQ.out hs
        have qr : (rn : Int) < (g.rules.length : Int) := by omega
        have hbf := hb1.trans (hb3.mono hb1z)
        clear HX HQ hs x0 x1 x2 x3 x4 x5 x6 x7 hb3
        go_wp2
        go_ret
        exact ⟨by rw [he.out]; rfl, hbf⟩
      · have q1 : decide ((g.rules.length : Int) ≤ (rn : Int)) = true := decide_eq_true (by omega)
        have he : Hid (res = -1) := hidden (by rw [hE.out, if_neg (fun h => by have := h.2.2; omega)])
        clear hE HSs
        go_wp2
        go_ret
        exact ⟨by rw [he.out]; rfl, hb1⟩

/-- Nodes of kinds 2 and 3 alone are clean. -/
theorem ref_Clean29 (v : Value) (t : List Node) (w : World) (HN : Nds w (Old w) v t) (h4 : t.length ≤ 1000000) (ht : Tree t) (hk : ∀ i, i < t.length → kindAt t i = 2 ∨ kindAt t i = 3) :
    Calls Try.prog 20 #[v] w fun r w' => r = .returned (.bool true) ∧ Below w.heap.size w w' := by
  have HRt := hidden (fun (w' : World) (hb : Below w.heap.size w w') => ref_right v t w' (by omega) (HN.old hb))
  have HK := hidden hk
  have ht0 := tree_len ht
  obtain ⟨bt, ot, ct, rfl, hct1, hct2, hTt, hat⟩ := HN.open_ (by intro e; rw [e] at ht0; simp at ht0)
  have HAt := hidden hat
  rw [treeB_iff.2 ht] at HRt
  clear HN hat hk
  go_enter Try.func20, Try.ntmps20
  go_wp2
  go_loopw [3] (fun iv wr => ∃ i : Nat, iv = .int .i64 i ∧ i ≤ t.length ∧ Hid (Below w.heap.size w wr)) (fun iv wr => t.length - (intOf iv).toNat)
  case atStart => exact ⟨0, by go_num, Nat.zero_le _, hidden (Below.refl _ _)⟩
  case round =>
    obtain ⟨i, rfl, hi, HB⟩ := hrel
    by_cases hlt : i < t.length
    · have qi : (i : Int) < (t.length : Int) := by omega
      obtain ⟨x, hx⟩ : ∃ x, t[i]? = some x := ⟨_, List.getElem?_eq_getElem hlt⟩
      obtain ⟨l, z0, _⟩ := HAt.out i x hx
      replace z0 := cellF z0 HB.out
      have hkx : x.kind = 2 ∨ x.kind = 3 := by have := HK.out i hlt; unfold kindAt at this; rw [hx] at this; exact this
      have q4 : (x.kind == 4) = false := beq_eq_false_iff_ne.2 (by omega)
      have q5 : (x.kind == 5) = false := beq_eq_false_iff_ne.2 (by omega)
      have q6 : (x.kind == 6) = false := beq_eq_false_iff_ne.2 (by omega)
      clear hx hkx
      go_wp2
      go_roundw
      case rel => exact ⟨i + 1, by go_num, by omega, HB⟩
      case measure => simp [intOf]; omega
    · obtain rfl : i = t.length := by omega
      have qi : ¬ (t.length : Int) < (t.length : Int) := by omega
      have HX := hidden (HRt.out wr HB.out)
      have hbw := HB.out
      clear HB
      go_wp2_with fail
      refine HX.out.mono ?_
      rintro r w5 ⟨rfl, hb5⟩
      have hbf := hbw.trans (hb5.mono hbw.size)
      clear HX hb5
      go_wp2
      go_ret
      exact ⟨rfl, hbf⟩
end Go.Proofs.Ytmmhkjdnejeooaa.T
