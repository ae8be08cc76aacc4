/-
  gram: names, bad, named, item. gram: item. gram: sizes. gram: tokens, rules. gram: rules. gram: prods. gram: Of, Find, whole. gram.Check, Right.
-/
import Derived.Test.YtfmdmeokbbpmlaaGreatG2
import Derived.StillTailTactics
import Derived.IntWalk
import Derived.Deep.RegionHeld3
import Derived.Test.YtfmdmeokbbpmlaaGreatG1
import Derived.WalkMore
import Derived.Deep.LoopGhost
import Derived.Laws.EntriesVeiled
namespace Go.Proofs.YtfmdmeokbbpmlaaGreat
open Go.RowKit Go.Shelf

theorem below_drewN {B : Nat} {a w : World} (h : Below B a w) (n : Nat) : Below B a (w.drewN n) := ⟨h.os, h.tape, h.output, h.size, h.block⟩
/-- W' is W, but for new blocks and for block p. -/
structure But (p : Nat) (w w' : World) : Prop where
  os : w'.os = w.os
  tape : w'.tape = w.tape
  output : w'.output = w.output
  size : w.heap.size ≤ w'.heap.size
  block : ∀ k, k < w.heap.size → k ≠ p → w'.heap[k]? = w.heap[k]?
section
variable {p : Nat} {w w' w'' : World}
theorem But.refl (p : Nat) (w : World) : But p w w := ⟨rfl, rfl, rfl, Nat.le_refl _, fun _ _ _ => rfl⟩
theorem But.of_below (h : Below w.heap.size w w') : But p w w' := ⟨h.os, h.tape, h.output, h.size, fun k hk _ => h.block k hk⟩
theorem But.trans (h : But p w w') (k : But p w' w'') : But p w w'' :=
  ⟨k.os.trans h.os, k.tape.trans h.tape, k.output.trans h.output, Nat.le_trans h.size k.size, fun i hi hn => (k.block i (Nat.lt_of_lt_of_le hi h.size) hn).trans (h.block i hi hn)⟩
theorem But.next (h : But p w w') (k : Below w'.heap.size w' w'') : But p w w'' := h.trans (But.of_below k)
theorem But.set (h : But p w w') (i : Nat) (v : Value) : But p w (w'.setCell ⟨p, i, none⟩ v) :=
  h.trans ⟨rfl, rfl, rfl, by simp [World.setCell], fun k _ hn => Below.heap_setCell _ _ _ _ hn⟩
theorem But.below (h : But p w w') {B : Nat} (hB : B ≤ p) (hs : B ≤ w.heap.size) : Below B w w' := ⟨h.os, h.tape, h.output, h.size, fun k hk => h.block k (by omega) (by omega)⟩
theorem Holds.but {q : Nat} {t : TypeId} {cs : Array Value} (h : Holds w q t cs) (hb : But p w w') (hq : q ≠ p) : Holds w' q t cs := (hb.block q h.lt hq).trans h
theorem But.keeps (h : But p w w') : Keeps (fun k => k < p) w w' := ⟨h.size, fun k hk hl => h.block k hl (by omega)⟩
theorem But.frees {q : Nat} (h : But p w w') (hq : w.heap.size ≤ q) (hp : p = q) : Below w.heap.size w w' := ⟨h.os, h.tape, h.output, h.size, fun k hk => h.block k hk (by omega)⟩
end

/-- The cells of a check: its grammar, and what is wrong. -/
def chkCells (a b c : Value) (g : Gram) (d : Defect) : Array Value :=
  #[a, b, c, .int .i64 g.start, .int .i64 g.states, .int .i64 g.text, .int .i64 g.nodes, .int .i64 g.pairs, .int .i64 d.kind, .int .i64 d.at_, .int .i64 d.more]
/-- A check in block p, that has found d. -/
structure Chk (p : Nat) (a b c : Value) (g : Gram) (d : Defect) (w : World) : Prop where
  at_ : Holds w p 87 (chkCells a b c g d)
  gram : GramIs w (fun k => k < p) a b c g
section
variable {p : Nat} {a b c : Value} {g : Gram} {d : Defect} {w w' : World}
theorem Chk.next (h : Chk p a b c g d w) (hb : Below w.heap.size w w') : Chk p a b c g d w' := ⟨h.at_.below hb h.at_.lt, h.gram.keeps ⟨hb.size, fun k _ hl => hb.block k hl⟩⟩
theorem Chk.cells (h : Chk p a b c g d w) : w.cell? ⟨p, 0, none⟩ = some a ∧ w.cell? ⟨p, 1, none⟩ = some b ∧ w.cell? ⟨p, 2, none⟩ = some c ∧ w.cell? ⟨p, 3, none⟩ = some (.int .i64 g.start) ∧ w.cell? ⟨p, 4, none⟩ = some (.int .i64 g.states) ∧ w.cell? ⟨p, 5, none⟩ = some (.int .i64 g.text) ∧ w.cell? ⟨p, 6, none⟩ = some (.int .i64 g.nodes) ∧ w.cell? ⟨p, 7, none⟩ = some (.int .i64 g.pairs) :=
  ⟨h.at_.cell 0, h.at_.cell 1, h.at_.cell 2, h.at_.cell 3, h.at_.cell 4, h.at_.cell 5, h.at_.cell 6, h.at_.cell 7⟩
theorem Chk.found (h : Chk p a b c g d w) : w.cell? ⟨p, 8, none⟩ = some (.int .i64 d.kind) ∧ w.cell? ⟨p, 9, none⟩ = some (.int .i64 d.at_) ∧ w.cell? ⟨p, 10, none⟩ = some (.int .i64 d.more) ∧ w.frozen? ⟨p, 8, none⟩ = false ∧ w.frozen? ⟨p, 9, none⟩ = false ∧ w.frozen? ⟨p, 10, none⟩ = false :=
  ⟨h.at_.cell 8, h.at_.cell 9, h.at_.cell 10, h.at_.frozen 8, h.at_.frozen 9, h.at_.frozen 10⟩
theorem Chk.lt (h : Chk p a b c g d w) : p < w.heap.size := h.at_.lt
theorem Chk.put (h : Chk p a b c g d w) (e : Defect) : Chk p a b c g e (((w.setCell ⟨p, 8, none⟩ (.int .i64 e.kind)).setCell ⟨p, 9, none⟩ (.int .i64 e.at_)).setCell ⟨p, 10, none⟩ (.int .i64 e.more)) :=
  ⟨Holds.of_eq (holds_set (holds_set (holds_set h.at_))) (by rfl), h.gram.keeps ((((But.refl p w).set 8 _).set 9 _).set 10 _).keeps⟩
theorem Chk.old (h : Chk p a b c g d w) : GramIs w (Old w) a b c g :=
  ⟨h.gram.1.mono (fun _ hk => Nat.lt_trans hk h.lt), Rd.mono h.gram.2.1 (fun _ hk => Nat.lt_trans hk h.lt), h.gram.2.2.mono (fun _ hk => Nat.lt_trans hk h.lt)⟩
end

set_option maxRecDepth 20000 in
set_option maxHeartbeats 2000000 in
theorem gram_bad (p : Nat) (a b c : Value) (g : Gram) (d : Defect) (k at_ more : Int) (w : World) (H : Chk p a b c g d w) :
    Calls Tryz.prog 69 #[.pointer (some ⟨p, 0, none⟩), .int .i64 k, .int .i64 at_, .int .i64 more] w fun e w' => e = .returned (.bool true) ∧ Chk p a b c g ⟨k, at_, more⟩ w' ∧ But p w w' := by
  obtain ⟨x0, x1, x2, x3, x4, x5⟩ := H.found
  have HP := hidden (H.put ⟨k, at_, more⟩)
  have HB := hidden ((((But.refl p w).set 8 (.int .i64 k)).set 9 (.int .i64 at_)).set 10 (.int .i64 more))
  have hl := H.lt
  clear H
  go_enter Tryz.func69, Tryz.ntmps69
  go_wp2
  go_ret
  exact ⟨rfl, HP.out, HB.out⟩

set_option maxRecDepth 20000 in
set_option maxHeartbeats 2000000 in
theorem gram_named (p : Nat) (a b c : Value) (g : Gram) (d : Defect) (s : ByteArray) (v : Value) (l : List ByteArray) (at_ : Int) (w : World) (H : Chk p a b c g d w) (T : Nat → Prop) (hR : Strs w T v l) (hT : ∀ k, T k → k < w.heap.size) (hs : s.size ≤ maxLen) :
    Calls Tryz.prog 71 #[.pointer (some ⟨p, 0, none⟩), .string s, v, .int .i64 at_] w fun e w' => e = .returned (.bool (decide (nameErr s l ≠ 0))) ∧ Chk p a b c g (if nameErr s l ≠ 0 then ⟨nameErr s l, at_, 0⟩ else d) w' ∧ But p w w' := by
  have HN := hidden (word_name s w hs)
  have HB := hidden (fun k (w' : World) (hb : Below w.heap.size w w') => gram_bad p a b c g d k at_ 0 w' (H.next hb))
  have HF := hidden (fun (w' : World) (hb : Below w.heap.size w w') => word_find v l s T w' (Rd.below hR hb hT))
  have HH := hidden H
  have HM := hidden (find_mem l s)
  obtain ⟨A, k, rfl, hc1, hc2⟩ := hR.val
  unfold nameErr
  generalize nameB s = nb at *
  generalize findOf l s = f at *
  clear H hR
  cases nb
  · simp only [if_true, ne_eq, Int.reduceEq, not_false_eq_true, decide_true]
    go_enter Tryz.func71, Tryz.ntmps71
    go_wp2_with fail
    refine HN.out.mono ?_
    rintro r w1 ⟨rfl, hb1⟩
    go_wp2_with fail
    refine (HB.out 7 _ hb1).mono ?_
    rintro r w2 ⟨rfl, HC, hb2⟩
    have HC2 := hidden HC
    clear HC
    have HB2 := hidden ((But.of_below hb1).trans hb2)
    clear hb1 hb2
    go_wp2
    go_ret
    exact ⟨rfl, HC2.out, HB2.out⟩
  · simp only [Bool.true_eq_false, if_false]
    by_cases hm : s ∈ l
    · have q := HM.out.2 hm
      rw [holdsB_true hm]
      simp only [if_true, ne_eq, Int.reduceEq, not_false_eq_true, decide_true]
      clear hm
      go_enter Tryz.func71, Tryz.ntmps71
      go_wp2_with fail
      refine HN.out.mono ?_
      rintro r w1 ⟨rfl, hb1⟩
      go_wp2_with fail
      refine (HF.out _ hb1).mono ?_
      rintro r w' ⟨rfl, rfl⟩
      go_wp2_with fail
      refine (HB.out 8 _ hb1).mono ?_
      rintro r w2 ⟨rfl, HC, hb2⟩
      have HC2 := hidden HC
      clear HC
      have HB2 := hidden ((But.of_below hb1).trans hb2)
      clear hb1 hb2
      go_wp2
      go_ret
      exact ⟨rfl, HC2.out, HB2.out⟩
    · have q : ¬ 0 ≤ f := fun h => hm (HM.out.1 h)
      rw [holdsB_false hm]
      simp only [Bool.false_eq_true, if_false, ne_eq, not_true, decide_false]
      clear hm
      go_enter Tryz.func71, Tryz.ntmps71
      go_wp2_with fail
      refine HN.out.mono ?_
      rintro r w1 ⟨rfl, hb1⟩
      go_wp2_with fail
      refine (HF.out _ hb1).mono ?_
      rintro r w' ⟨rfl, rfl⟩
      have HC2 := hidden (HH.out.next hb1)
      go_wp2
      go_ret
      exact ⟨rfl, HC2.out, But.of_below hb1⟩

set_option maxRecDepth 20000 in
set_option maxHeartbeats 4000000 in
theorem gram_names (a : Value) (g : Gram) (w : World) (HG : Recs tokR w (Old w) a g.toks) (h1 : g.toks.length ≤ 100000) :
    Calls Tryz.prog 70 #[a] w fun r w' => (∃ u, r = .returned u ∧ Hid (StrsM w' w.heap.size u (tokNames g))) ∧ Below w.heap.size w w' := by
  have HGo := hidden (fun (w' : World) (hb : Below w.heap.size w w') => HG.old hb)
  obtain ⟨A1, k1, rfl, v1, m1⟩ := HG.value
  have HL1 := hidden (tokNames_len g)
  have hb := Below.refl w.heap.size w
  clear HG
  unfold maxLen at m1
  go_enter Tryz.func70, Tryz.ntmps70
  go_wp2
  go_loopw [3, 8] (fun vv ii wr => ∃ k : Nat, k ≤ g.toks.length ∧ ii = .int .i64 k ∧ Hid (StrsM wr w.heap.size vv ((tokNames g).take k)) ∧ Below w.heap.size w wr) (fun _ ii _ => g.toks.length - (intOf ii).toNat)
  case atStart => exact ⟨0, by omega, rfl, hidden (Mine.nil _ _ _ _), hb⟩
  case round =>
    clear hb
    obtain ⟨k, hk, rfl, HM, hb⟩ := hrel
    have hbz := hb.size
    by_cases hlt : k < g.toks.length
    · have hx := List.getElem?_eq_getElem hlt
      generalize g.toks[k] = t at *
      obtain ⟨b1, o1, l1, rfl, hT, hat, hin⟩ := (HGo.out _ hb).at_ hx
      obtain ⟨A4, k4, rfl, _, _⟩ := hin.val
      have hT : b1 < wr.heap.size := hT
      have y0 := hat 0 _ rfl
      have y1 := hat 1 _ rfl
      have y2 := hat 2 _ rfl
      rw [Nat.add_zero] at y0
      rw [show tokR.k = 3 from rfl] at y0 y1 y2
      have HX := hidden (take_snoc_at (tokNames_at hx))
      have HM2 := hidden (HM.out.alloc (.cells #[.string t.name, .slice A4 (tokR.m t) k4, .int .i64 t.cls] 42))
      have hb2 := hb.alloc (Nat.le_trans (Nat.le_refl _) hbz) (.cells #[.string t.name, .slice A4 (tokR.m t) k4, .int .i64 t.cls] 42)
      clear hat hx hin HM hb
      go_wp2_with (at_builtin; refine wpList_append_str rfl _ _ rfl w.heap.size _ _ HM2 t.name rfl rfl rfl (by simp) (by rw [List.length_take]; omega) (by simp; omega) ?_; intro v' w' hA hb3 hK)
      go_roundw
      case rel => exact ⟨k + 1, by omega, by go_num, by rw [HX.out] at hA; exact hA, hb2.trans hb3⟩
      case measure => simp [intOf]; omega
    · obtain rfl : k = g.toks.length := by omega
      have HM1 : Hid (StrsM wr w.heap.size u3 (tokNames g)) := hidden (by
        have := HM.out
        rwa [List.take_of_length_le (by rw [HL1.out]; omega)] at this)
      clear HM
      go_wp2
      go_ret
      exact ⟨⟨_, rfl, HM1⟩, hb⟩
end Go.Proofs.YtfmdmeokbbpmlaaGreat

namespace Go.Proofs.YtfmdmeokbbpmlaaGreat
open Go.RowKit Go.Shelf

set_option maxRecDepth 20000 in
set_option maxHeartbeats 4000000 in
theorem gram_item (p : Nat) (a b c : Value) (g : Gram) (d : Defect) (x : Item) (w : World) (H : Chk p a b c g d w) :
    Calls Tryz.prog 73 #[.pointer (some ⟨p, 0, none⟩), .agg #[.bool x.rule, .int .i64 x.n, .int .i64 x.gap, .int .i64 x.in_]] w fun r w' => r = .returned (.int .i64 (itemErr g x)) ∧ Below w.heap.size w w' := by
  obtain ⟨⟨A1, k1, rfl, v1, m1⟩, ⟨A2, k2, rfl, v2, m2⟩, ⟨A3, k3, rfl, v3, m3⟩⟩ := H.gram.vals
  have HT := hidden (fun (t : Token) (h : g.toks[x.n.toNat]? = some t) => H.old.1.at_ h)
  have HCl := hidden (fun (t : Token) (h : g.toks[x.n.toNat]? = some t) => cls_at h)
  obtain ⟨x0, x1, x2, x3, x4, x5, x6, x7⟩ := H.cells
  have hl := H.lt
  clear x2 x3 x4 x5 x6 x7
  unfold itemErr
  clear H
  obtain ⟨r, n, gp, i_⟩ := x
  dsimp only at *
  unfold maxLen at *
  by_cases h0 : n < 0
  · rw [if_pos (Or.inl h0)]
    cases r
    all_goals
      go_enter Tryz.func73, Tryz.ntmps73
      go_wp2
      go_ret
      exact ⟨rfl, (by repeat (first | (with_reducible exact Below.refl _ _) | (with_reducible assumption) | (with_reducible refine Below.drew ?_) | (with_reducible refine below_drewN ?_ _) | ((with_reducible refine below_alloc ?_ ?_); (focus (first | omega | (simp; done) | (simp; omega)))) | ((with_reducible refine below_set ?_ ?_); (focus (first | omega | (simp; done) | (simp; omega))))))⟩
  obtain ⟨k, rfl⟩ : ∃ k : Nat, n = (k : Int) := ⟨n.toNat, by omega⟩
  cases r
  · simp only [Int.toNat_natCast, if_neg (show ¬ (false = true) by decide)] at *
    by_cases hn : (g.toks.length : Int) ≤ k
    · rw [if_pos (Or.inr hn)]
      go_enter Tryz.func73, Tryz.ntmps73
      go_wp2
      go_ret
      exact ⟨rfl, (by repeat (first | (with_reducible exact Below.refl _ _) | (with_reducible assumption) | (with_reducible refine Below.drew ?_) | (with_reducible refine below_drewN ?_ _) | ((with_reducible refine below_alloc ?_ ?_); (focus (first | omega | (simp; done) | (simp; omega)))) | ((with_reducible refine below_set ?_ ?_); (focus (first | omega | (simp; done) | (simp; omega))))))⟩
    · rw [if_neg (by omega)]
      have hkn : k < g.toks.length := by omega
      have hx := List.getElem?_eq_getElem hkn
      generalize g.toks[k] = t at *
      rw [HCl.out _ hx]
      obtain ⟨b1, o1, l1, rfl, hT, hat, _⟩ := HT.out _ hx
      have y2 := hat 2 _ rfl
      rw [show tokR.k = 3 from rfl] at y2
      have hT : b1 < w.heap.size := hT
      clear hat hx HT HCl h0
      by_cases hc : t.cls = 0
      · rw [if_neg (by simp [hc])]
        rw [hc] at y2
        clear hc
        by_cases h1 : gp < 0 ∨ 2 < gp ∨ i_ < 0 ∨ 8 < i_
        · rw [if_pos h1]
          rcases h1 with h1 | h1 | h1 | h1
          all_goals
            go_enter Tryz.func73, Tryz.ntmps73
            go_wp2_with fail
            go_quiet (fail)
            go_wp2
            all_goals
              go_ret
              exact ⟨rfl, (by repeat (first | (with_reducible exact Below.refl _ _) | (with_reducible assumption) | (with_reducible refine Below.drew ?_) | (with_reducible refine below_drewN ?_ _) | ((with_reducible refine below_alloc ?_ ?_); (focus (first | omega | (simp; done) | (simp; omega)))) | ((with_reducible refine below_set ?_ ?_); (focus (first | omega | (simp; done) | (simp; omega))))))⟩
        · rw [if_neg h1]
          obtain ⟨g1, g2, g3, g4⟩ : 0 ≤ gp ∧ gp ≤ 2 ∧ 0 ≤ i_ ∧ i_ ≤ 8 := by omega
          clear h1
          go_enter Tryz.func73, Tryz.ntmps73
          go_wp2_with fail
          go_quiet (fail)
          go_wp2
          go_ret
          exact ⟨rfl, (by repeat (first | (with_reducible exact Below.refl _ _) | (with_reducible assumption) | (with_reducible refine Below.drew ?_) | (with_reducible refine below_drewN ?_ _) | ((with_reducible refine below_alloc ?_ ?_); (focus (first | omega | (simp; done) | (simp; omega)))) | ((with_reducible refine below_set ?_ ?_); (focus (first | omega | (simp; done) | (simp; omega))))))⟩
      · rw [if_pos (by simp [hc])]
        have q : (t.cls != 0) = true := by rw [bne_iff_ne]; exact hc
        clear hc
        go_enter Tryz.func73, Tryz.ntmps73
        go_wp2_with fail
        go_quiet (fail)
        go_wp2
        go_ret
        exact ⟨rfl, (by repeat (first | (with_reducible exact Below.refl _ _) | (with_reducible assumption) | (with_reducible refine Below.drew ?_) | (with_reducible refine below_drewN ?_ _) | ((with_reducible refine below_alloc ?_ ?_); (focus (first | omega | (simp; done) | (simp; omega)))) | ((with_reducible refine below_set ?_ ?_); (focus (first | omega | (simp; done) | (simp; omega))))))⟩
  · simp only [Int.toNat_natCast, if_true] at *
    clear HT HCl h0
    by_cases hn : (g.rules.length : Int) ≤ k
    · rw [if_pos (Or.inr hn)]
      go_enter Tryz.func73, Tryz.ntmps73
      go_wp2
      go_ret
      exact ⟨rfl, (by repeat (first | (with_reducible exact Below.refl _ _) | (with_reducible assumption) | (with_reducible refine Below.drew ?_) | (with_reducible refine below_drewN ?_ _) | ((with_reducible refine below_alloc ?_ ?_); (focus (first | omega | (simp; done) | (simp; omega)))) | ((with_reducible refine below_set ?_ ?_); (focus (first | omega | (simp; done) | (simp; omega))))))⟩
    · rw [if_neg (by omega), if_neg (by simp)]
      by_cases h1 : gp < 0 ∨ 2 < gp ∨ i_ < 0 ∨ 8 < i_
      · rw [if_pos h1]
        rcases h1 with h1 | h1 | h1 | h1
        all_goals
          go_enter Tryz.func73, Tryz.ntmps73
          go_wp2_with fail
          go_quiet (fail)
          go_wp2
          all_goals
            go_ret
            exact ⟨rfl, (by repeat (first | (with_reducible exact Below.refl _ _) | (with_reducible assumption) | (with_reducible refine Below.drew ?_) | (with_reducible refine below_drewN ?_ _) | ((with_reducible refine below_alloc ?_ ?_); (focus (first | omega | (simp; done) | (simp; omega)))) | ((with_reducible refine below_set ?_ ?_); (focus (first | omega | (simp; done) | (simp; omega))))))⟩
      · rw [if_neg h1]
        obtain ⟨g1, g2, g3, g4⟩ : 0 ≤ gp ∧ gp ≤ 2 ∧ 0 ≤ i_ ∧ i_ ≤ 8 := by omega
        clear h1
        go_enter Tryz.func73, Tryz.ntmps73
        go_wp2_with fail
        go_quiet (fail)
        go_wp2
        go_ret
        exact ⟨rfl, (by repeat (first | (with_reducible exact Below.refl _ _) | (with_reducible assumption) | (with_reducible refine Below.drew ?_) | (with_reducible refine below_drewN ?_ _) | ((with_reducible refine below_alloc ?_ ?_); (focus (first | omega | (simp; done) | (simp; omega)))) | ((with_reducible refine below_set ?_ ?_); (focus (first | omega | (simp; done) | (simp; omega))))))⟩
end Go.Proofs.YtfmdmeokbbpmlaaGreat

namespace Go.Proofs.YtfmdmeokbbpmlaaGreat
open Go.RowKit Go.Shelf

theorem But.drew {p : Nat} {w w' : World} (h : But p w w') : But p w w'.drew := ⟨h.os, h.tape, h.output, h.size, h.block⟩
theorem But.alloc {p : Nat} {w w' : World} (h : But p w w') (o : Obj) : But p w (w'.alloc o) := h.next ((Below.refl _ _).alloc (Nat.le_refl _) _)
theorem Chk.drew {p : Nat} {a b c : Value} {g : Gram} {d : Defect} {w : World} (h : Chk p a b c g d w) : Chk p a b c g d w.drew := h.next (Below.refl _ _).drew
theorem Chk.alloc {p : Nat} {a b c : Value} {g : Gram} {d : Defect} {w : World} (h : Chk p a b c g d w) (o : Obj) : Chk p a b c g d (w.alloc o) := h.next ((Below.refl _ _).alloc (Nat.le_refl _) _)

/-- What a check's method leaves behind. -/
def ChkOut (p : Nat) (a b c : Value) (g : Gram) (d : Defect) (w : World) (e : Ending) (w' : World) : Prop := e = .returned (.bool (decide (d.kind ≠ 0))) ∧ Chk p a b c g d w' ∧ But p w w'
theorem ChkOut.mk_ {p : Nat} {a b c : Value} {g : Gram} {d d' : Defect} {w w' : World} {r : Bool} (hd : d' = d) (hr : r = decide (d.kind ≠ 0)) (h1 : Chk p a b c g d' w') (h2 : But p w w') : ChkOut p a b c g d w (.returned (.bool r)) w' := by
  subst hd
  exact ⟨by rw [hr], h1, h2⟩

set_option maxRecDepth 20000 in
set_option maxHeartbeats 8000000 in
theorem gram_sizes (p : Nat) (a b c : Value) (g : Gram) (w : World) (H : Chk p a b c g D0 w) (s1 : g.toks.length ≤ 100000) (s2 : g.rules.length ≤ 100000) (s3 : g.prods.length ≤ 100000) :
    Calls Tryz.prog 44 #[.pointer (some ⟨p, 0, none⟩)] w (ChkOut p a b c g (sizesOf g) w) := by
  obtain ⟨⟨A1, k1, rfl, v1, m1⟩, ⟨A2, k2, rfl, v2, m2⟩, ⟨A3, k3, rfl, v3, m3⟩⟩ := H.gram.vals
  have HH := hidden H
  have HBad := hidden (fun k at_ (w' : World) (h : Chk p (.slice A1 g.toks.length k1) (.slice A2 g.rules.length k2) (.slice A3 g.prods.length k3) g D0 w') => gram_bad p _ _ _ g D0 k at_ 0 w' h)
  obtain ⟨x0, x1, x2, x3, x4, x5, x6, x7⟩ := H.cells
  have hl := H.lt
  have HS := hidden (show sizesOf g = _ from rfl)
  obtain ⟨dd, hdd⟩ : ∃ dd, dd = sizesOf g := ⟨_, rfl⟩
  rw [← hdd]
  unfold sizesOf at hdd
  have HD := hidden hdd
  clear hdd H HS x3
  generalize g.toks.length = n1 at *
  generalize g.rules.length = n2 at *
  generalize g.prods.length = n3 at *
  obtain ⟨sa, esa⟩ : ∃ x, g.states = x := ⟨_, rfl⟩
  obtain ⟨tx, etx⟩ : ∃ x, g.text = x := ⟨_, rfl⟩
  obtain ⟨nd, end_⟩ : ∃ x, g.nodes = x := ⟨_, rfl⟩
  obtain ⟨pr, epr⟩ : ∃ x, g.pairs = x := ⟨_, rfl⟩
  have HGs := hidden (And.intro esa (And.intro etx (And.intro end_ epr)))
  rw [esa] at x4 HD
  rw [etx] at x5 HD
  rw [end_] at x6 HD
  rw [epr] at x7 HD
  clear esa etx end_ epr
  have hw1 : IntKind.i64.wrap ((n1 : Int) - 64) = (n1 : Int) - 64 := IntWalk.i64_in _ (by omega)
  have hw2 : IntKind.i64.wrap ((n2 : Int) - 64) = (n2 : Int) - 64 := IntWalk.i64_in _ (by omega)
  have hw3 : IntKind.i64.wrap ((n3 : Int) - 256) = (n3 : Int) - 256 := IntWalk.i64_in _ (by omega)
  go_enter Tryz.func44, Tryz.ntmps44
  go_wp2_with fail
  go_region_held3 (fun w' => w'.cell? ⟨p, 0, none⟩ = some (.slice A1 n1 k1) ∧ w'.cell? ⟨p, 1, none⟩ = some (.slice A2 n2 k2) ∧ w'.cell? ⟨p, 2, none⟩ = some (.slice A3 n3 k3))
    (first | exact ⟨x0, x1, x2⟩ | go_keep) (fail)
  have HB1 := hidden (((But.refl p w).alloc (.cells #[.int .i64 ((n1 : Int) - 64), .int .i64 ((n2 : Int) - 64), .int .i64 ((n3 : Int) - 256)] 3)).drew)
  have HC1 := hidden ((HH.out.alloc (.cells #[.int .i64 ((n1 : Int) - 64), .int .i64 ((n2 : Int) - 64), .int .i64 ((n3 : Int) - 256)] 3)).drew)
  have y0 : (w.alloc (.cells #[.int .i64 ((n1 : Int) - 64), .int .i64 ((n2 : Int) - 64), .int .i64 ((n3 : Int) - 256)] 3)).drew.cell? ⟨w.heap.size, 0, none⟩ = some (.int .i64 ((n1 : Int) - 64)) := (Holds.new w _ _).cell 0
  have y1 : (w.alloc (.cells #[.int .i64 ((n1 : Int) - 64), .int .i64 ((n2 : Int) - 64), .int .i64 ((n3 : Int) - 256)] 3)).drew.cell? ⟨w.heap.size, 1, none⟩ = some (.int .i64 ((n2 : Int) - 64)) := (Holds.new w _ _).cell 1
  have y2 : (w.alloc (.cells #[.int .i64 ((n1 : Int) - 64), .int .i64 ((n2 : Int) - 64), .int .i64 ((n3 : Int) - 256)] 3)).drew.cell? ⟨w.heap.size, 2, none⟩ = some (.int .i64 ((n3 : Int) - 256)) := (Holds.new w _ _).cell 2
  clear hw1 hw2 hw3 HH x0 x1 x2 x4 x5 x6 x7
  generalize (w.alloc (.cells #[.int .i64 ((n1 : Int) - 64), .int .i64 ((n2 : Int) - 64), .int .i64 ((n3 : Int) - 256)] 3)).drew = w1 at *
  generalize w.heap.size = q0 at *
  go_wp2
  go_loop [30] (fun ii => ∃ k : Nat, k ≤ 3 ∧ ii = .int .i64 k ∧ (1 ≤ k → n1 ≤ 64) ∧ (2 ≤ k → n2 ≤ 64) ∧ (3 ≤ k → n3 ≤ 256)) (fun ii => 3 - (intOf ii).toNat)
  case atStart => exact ⟨0, by omega, rfl, by omega, by omega, by omega⟩
  case round =>
    obtain ⟨k, hk, rfl, g1, g2, g3⟩ := hrel
    obtain rfl | rfl | rfl | rfl : k = 0 ∨ k = 1 ∨ k = 2 ∨ k = 3 := by omega
    · clear g1 g2 g3
      by_cases h1 : 64 < n1
      · have hp1 : (0 : Int) < (n1 : Int) - 64 := by omega
        obtain rfl : dd = ⟨4, 0, 0⟩ := by rw [HD.out, if_pos h1]
        go_wp2_with fail
        refine (HBad.out 4 0 _ HC1.out).mono ?_
        rintro r w2 ⟨rfl, HC2, hb2⟩
        have HE := hidden (ChkOut.mk_ (r := true) rfl rfl HC2 (HB1.out.trans hb2))
        clear HC2 hb2
        go_wp2
        go_ret
        exact HE.out
      · have hp1 : ¬ (0 : Int) < (n1 : Int) - 64 := by omega
        go_wp2
        go_round
        case rel => exact ⟨1, by omega, rfl, by omega, by omega, by omega⟩
        case measure => simp [intOf]
    · have g1 := g1 (by omega)
      clear g2 g3
      by_cases h1 : 64 < n2
      · have hp1 : (0 : Int) < (n2 : Int) - 64 := by omega
        obtain rfl : dd = ⟨4, 1, 0⟩ := by rw [HD.out, if_neg (by omega), if_pos h1]
        go_wp2_with fail
        refine (HBad.out 4 1 _ HC1.out).mono ?_
        rintro r w2 ⟨rfl, HC2, hb2⟩
        have HE := hidden (ChkOut.mk_ (r := true) rfl rfl HC2 (HB1.out.trans hb2))
        clear HC2 hb2
        go_wp2
        go_ret
        exact HE.out
      · have hp1 : ¬ (0 : Int) < (n2 : Int) - 64 := by omega
        go_wp2
        go_round
        case rel => exact ⟨2, by omega, rfl, by omega, by omega, by omega⟩
        case measure => simp [intOf]
    · have g1 := g1 (by omega)
      have g2 := g2 (by omega)
      clear g3
      by_cases h1 : 256 < n3
      · have hp1 : (0 : Int) < (n3 : Int) - 256 := by omega
        obtain rfl : dd = ⟨4, 2, 0⟩ := by rw [HD.out, if_neg (by omega), if_neg (by omega), if_pos h1]
        go_wp2_with fail
        refine (HBad.out 4 2 _ HC1.out).mono ?_
        rintro r w2 ⟨rfl, HC2, hb2⟩
        have HE := hidden (ChkOut.mk_ (r := true) rfl rfl HC2 (HB1.out.trans hb2))
        clear HC2 hb2
        go_wp2
        go_ret
        exact HE.out
      · have hp1 : ¬ (0 : Int) < (n3 : Int) - 256 := by omega
        go_wp2
        go_round
        case rel => exact ⟨3, by omega, rfl, by omega, by omega, by omega⟩
        case measure => simp [intOf]
    · have g1 := g1 (by omega)
      have g2 := g2 (by omega)
      have g3 := g3 (by omega)
      have HD2 : Hid (dd = if sa < 1 ∨ 4096 < sa then ⟨2, 0, 0⟩ else if tx < 0 ∨ 65536 < tx then ⟨2, 1, 0⟩ else if nd < 1 ∨ 65536 < nd then ⟨2, 2, 0⟩ else if pr < 1 ∨ 1048576 < pr then ⟨2, 3, 0⟩ else D0) := hidden (by rw [HD.out, if_neg (by omega), if_neg (by omega), if_neg (by omega)])
      obtain ⟨x0, x1, x2, x3, x4, x5, x6, x7⟩ := HC1.out.cells
      rw [HGs.out.1] at x4
      rw [HGs.out.2.1] at x5
      rw [HGs.out.2.2.1] at x6
      rw [HGs.out.2.2.2] at x7
      clear HD g1 g2 g3 y0 y1 y2 x0 x1 x2 x3
      go_wp2_with fail
      go_region_held3 (fun w' => w'.cell? ⟨p, 4, none⟩ = some (.int .i64 sa) ∧ w'.cell? ⟨p, 5, none⟩ = some (.int .i64 tx) ∧ w'.cell? ⟨p, 6, none⟩ = some (.int .i64 nd) ∧ w'.cell? ⟨p, 7, none⟩ = some (.int .i64 pr))
        (first | exact ⟨x4, x5, x6, x7⟩ | go_keep) (fail)
      have HB2 := hidden ((HB1.out.alloc (.cells #[.int .i64 1, .int .i64 sa, .int .i64 4096, .int .i64 0, .int .i64 tx, .int .i64 65536, .int .i64 1, .int .i64 nd, .int .i64 65536, .int .i64 1, .int .i64 pr, .int .i64 1048576] 117)).drew)
      have HC2 := hidden ((HC1.out.alloc (.cells #[.int .i64 1, .int .i64 sa, .int .i64 4096, .int .i64 0, .int .i64 tx, .int .i64 65536, .int .i64 1, .int .i64 nd, .int .i64 65536, .int .i64 1, .int .i64 pr, .int .i64 1048576] 117)).drew)
      have HQ : Hid (Holds (w1.alloc (.cells #[.int .i64 1, .int .i64 sa, .int .i64 4096, .int .i64 0, .int .i64 tx, .int .i64 65536, .int .i64 1, .int .i64 nd, .int .i64 65536, .int .i64 1, .int .i64 pr, .int .i64 1048576] 117)).drew w1.heap.size 117 #[.int .i64 1, .int .i64 sa, .int .i64 4096, .int .i64 0, .int .i64 tx, .int .i64 65536, .int .i64 1, .int .i64 nd, .int .i64 65536, .int .i64 1, .int .i64 pr, .int .i64 1048576]) := hidden (Holds.new w1 _ _).drew
      have hq : p < w1.heap.size := HC1.out.lt
      clear x4 x5 x6 x7 HB1 HC1
      generalize (w1.alloc (.cells #[.int .i64 1, .int .i64 sa, .int .i64 4096, .int .i64 0, .int .i64 tx, .int .i64 65536, .int .i64 1, .int .i64 nd, .int .i64 65536, .int .i64 1, .int .i64 pr, .int .i64 1048576] 117)).drew = w2 at *
      generalize w1.heap.size = q at *
      go_wp2
      go_loopw [67] (fun ii wr => ∃ k : Nat, k ≤ 4 ∧ ii = .int .i64 k ∧ Hid (1 ≤ k → ¬ (sa < 1 ∨ 4096 < sa)) ∧ Hid (2 ≤ k → ¬ (tx < 0 ∨ 65536 < tx)) ∧ Hid (3 ≤ k → ¬ (nd < 1 ∨ 65536 < nd)) ∧ Hid (4 ≤ k → ¬ (pr < 1 ∨ 1048576 < pr)) ∧ Hid (But p w wr) ∧ Hid (Chk p (.slice A1 n1 k1) (.slice A2 n2 k2) (.slice A3 n3 k3) g D0 wr) ∧ Hid (Holds wr q 117 #[.int .i64 1, .int .i64 sa, .int .i64 4096, .int .i64 0, .int .i64 tx, .int .i64 65536, .int .i64 1, .int .i64 nd, .int .i64 65536, .int .i64 1, .int .i64 pr, .int .i64 1048576])) (fun ii _ => 4 - (intOf ii).toNat)
      case atStart => exact ⟨0, by omega, rfl, hidden (by omega), hidden (by omega), hidden (by omega), hidden (by omega), HB2, HC2, HQ⟩
      case round =>
        clear HB2 HC2 HQ
        obtain ⟨k, hk, rfl, g1, g2, g3, g4, HB, HC, HQ⟩ := hrel
        have hqr := HQ.out.lt
        have hpr := HC.out.lt
        obtain rfl | rfl | rfl | rfl | rfl : k = 0 ∨ k = 1 ∨ k = 2 ∨ k = 3 ∨ k = 4 := by omega
        · have y0 : wr.cell? ⟨q, 0, none⟩ = some (.int .i64 1) := HQ.out.cell 0
          have y1 : wr.cell? ⟨q, 1, none⟩ = some (.int .i64 sa) := HQ.out.cell 1
          have y2 : wr.cell? ⟨q, 2, none⟩ = some (.int .i64 4096) := HQ.out.cell 2
          have HCn := hidden (HC.out.alloc (.cells #[.int .i64 1, .int .i64 sa, .int .i64 4096] 117))
          have HBn := hidden (HB.out.alloc (.cells #[.int .i64 1, .int .i64 sa, .int .i64 4096] 117))
          by_cases c1 : sa < 1
          · obtain rfl : dd = ⟨2, 0, 0⟩ := by rw [HD2.out, if_pos (Or.inl c1)]
            go_wp2_with fail
            refine (HBad.out 2 0 _ HCn.out).mono ?_
            rintro r w3 ⟨rfl, HC3, hb3⟩
            have HE := hidden (ChkOut.mk_ (r := true) rfl rfl HC3 (HBn.out.trans hb3))
            clear HC3 hb3
            go_wp2
            go_ret
            exact HE.out
          by_cases c2 : 4096 < sa
          · obtain rfl : dd = ⟨2, 0, 0⟩ := by rw [HD2.out, if_pos (Or.inr c2)]
            go_wp2_with fail
            refine (HBad.out 2 0 _ HCn.out).mono ?_
            rintro r w3 ⟨rfl, HC3, hb3⟩
            have HE := hidden (ChkOut.mk_ (r := true) rfl rfl HC3 (HBn.out.trans hb3))
            clear HC3 hb3
            go_wp2
            go_ret
            exact HE.out
          have HN : Hid (1 ≤ 1 → ¬ (sa < 1 ∨ 4096 < sa)) := hidden (by omega)
          have HQn := hidden (HQ.out.alloc (.cells #[.int .i64 1, .int .i64 sa, .int .i64 4096] 117))
          go_wp2
          go_roundw
          case rel => exact ⟨1, by omega, rfl, HN, hidden (by omega), hidden (by omega), hidden (by omega), HBn, HCn, HQn⟩
          case measure => simp [intOf]
        · have y0 : wr.cell? ⟨q, 3, none⟩ = some (.int .i64 0) := HQ.out.cell 3
          have y1 : wr.cell? ⟨q, 4, none⟩ = some (.int .i64 tx) := HQ.out.cell 4
          have y2 : wr.cell? ⟨q, 5, none⟩ = some (.int .i64 65536) := HQ.out.cell 5
          have HCn := hidden (HC.out.alloc (.cells #[.int .i64 0, .int .i64 tx, .int .i64 65536] 117))
          have HBn := hidden (HB.out.alloc (.cells #[.int .i64 0, .int .i64 tx, .int .i64 65536] 117))
          by_cases c1 : tx < 0
          · obtain rfl : dd = ⟨2, 1, 0⟩ := by rw [HD2.out, if_neg (g1.out (by omega)), if_pos (Or.inl c1)]
            go_wp2_with fail
            refine (HBad.out 2 1 _ HCn.out).mono ?_
            rintro r w3 ⟨rfl, HC3, hb3⟩
            have HE := hidden (ChkOut.mk_ (r := true) rfl rfl HC3 (HBn.out.trans hb3))
            clear HC3 hb3
            go_wp2
            go_ret
            exact HE.out
          by_cases c2 : 65536 < tx
          · obtain rfl : dd = ⟨2, 1, 0⟩ := by rw [HD2.out, if_neg (g1.out (by omega)), if_pos (Or.inr c2)]
            go_wp2_with fail
            refine (HBad.out 2 1 _ HCn.out).mono ?_
            rintro r w3 ⟨rfl, HC3, hb3⟩
            have HE := hidden (ChkOut.mk_ (r := true) rfl rfl HC3 (HBn.out.trans hb3))
            clear HC3 hb3
            go_wp2
            go_ret
            exact HE.out
          have HN : Hid (2 ≤ 2 → ¬ (tx < 0 ∨ 65536 < tx)) := hidden (by omega)
          have HQn := hidden (HQ.out.alloc (.cells #[.int .i64 0, .int .i64 tx, .int .i64 65536] 117))
          go_wp2
          go_roundw
          case rel => exact ⟨2, by omega, rfl, hidden (fun _ => g1.out (by omega)), HN, hidden (by omega), hidden (by omega), HBn, HCn, HQn⟩
          case measure => simp [intOf]
        · have y0 : wr.cell? ⟨q, 6, none⟩ = some (.int .i64 1) := HQ.out.cell 6
          have y1 : wr.cell? ⟨q, 7, none⟩ = some (.int .i64 nd) := HQ.out.cell 7
          have y2 : wr.cell? ⟨q, 8, none⟩ = some (.int .i64 65536) := HQ.out.cell 8
          have HCn := hidden (HC.out.alloc (.cells #[.int .i64 1, .int .i64 nd, .int .i64 65536] 117))
          have HBn := hidden (HB.out.alloc (.cells #[.int .i64 1, .int .i64 nd, .int .i64 65536] 117))
          by_cases c1 : nd < 1
          · obtain rfl : dd = ⟨2, 2, 0⟩ := by rw [HD2.out, if_neg (g1.out (by omega)), if_neg (g2.out (by omega)), if_pos (Or.inl c1)]
            go_wp2_with fail
            refine (HBad.out 2 2 _ HCn.out).mono ?_
            rintro r w3 ⟨rfl, HC3, hb3⟩
            have HE := hidden (ChkOut.mk_ (r := true) rfl rfl HC3 (HBn.out.trans hb3))
            clear HC3 hb3
            go_wp2
            go_ret
            exact HE.out
          by_cases c2 : 65536 < nd
          · obtain rfl : dd = ⟨2, 2, 0⟩ := by rw [HD2.out, if_neg (g1.out (by omega)), if_neg (g2.out (by omega)), if_pos (Or.inr c2)]
            go_wp2_with fail
            refine (HBad.out 2 2 _ HCn.out).mono ?_
            rintro r w3 ⟨rfl, HC3, hb3⟩
            have HE := hidden (ChkOut.mk_ (r := true) rfl rfl HC3 (HBn.out.trans hb3))
            clear HC3 hb3
            go_wp2
            go_ret
            exact HE.out
          have HN : Hid (3 ≤ 3 → ¬ (nd < 1 ∨ 65536 < nd)) := hidden (by omega)
          have HQn := hidden (HQ.out.alloc (.cells #[.int .i64 1, .int .i64 nd, .int .i64 65536] 117))
          go_wp2
          go_roundw
          case rel => exact ⟨3, by omega, rfl, hidden (fun _ => g1.out (by omega)), hidden (fun _ => g2.out (by omega)), HN, hidden (by omega), HBn, HCn, HQn⟩
          case measure => simp [intOf]
        · have y0 : wr.cell? ⟨q, 9, none⟩ = some (.int .i64 1) := HQ.out.cell 9
          have y1 : wr.cell? ⟨q, 10, none⟩ = some (.int .i64 pr) := HQ.out.cell 10
          have y2 : wr.cell? ⟨q, 11, none⟩ = some (.int .i64 1048576) := HQ.out.cell 11
          have HCn := hidden (HC.out.alloc (.cells #[.int .i64 1, .int .i64 pr, .int .i64 1048576] 117))
          have HBn := hidden (HB.out.alloc (.cells #[.int .i64 1, .int .i64 pr, .int .i64 1048576] 117))
          by_cases c1 : pr < 1
          · obtain rfl : dd = ⟨2, 3, 0⟩ := by rw [HD2.out, if_neg (g1.out (by omega)), if_neg (g2.out (by omega)), if_neg (g3.out (by omega)), if_pos (Or.inl c1)]
            go_wp2_with fail
            refine (HBad.out 2 3 _ HCn.out).mono ?_
            rintro r w3 ⟨rfl, HC3, hb3⟩
            have HE := hidden (ChkOut.mk_ (r := true) rfl rfl HC3 (HBn.out.trans hb3))
            clear HC3 hb3
            go_wp2
            go_ret
            exact HE.out
          by_cases c2 : 1048576 < pr
          · obtain rfl : dd = ⟨2, 3, 0⟩ := by rw [HD2.out, if_neg (g1.out (by omega)), if_neg (g2.out (by omega)), if_neg (g3.out (by omega)), if_pos (Or.inr c2)]
            go_wp2_with fail
            refine (HBad.out 2 3 _ HCn.out).mono ?_
            rintro r w3 ⟨rfl, HC3, hb3⟩
            have HE := hidden (ChkOut.mk_ (r := true) rfl rfl HC3 (HBn.out.trans hb3))
            clear HC3 hb3
            go_wp2
            go_ret
            exact HE.out
          have HN : Hid (4 ≤ 4 → ¬ (pr < 1 ∨ 1048576 < pr)) := hidden (by omega)
          have HQn := hidden (HQ.out.alloc (.cells #[.int .i64 1, .int .i64 pr, .int .i64 1048576] 117))
          go_wp2
          go_roundw
          case rel => exact ⟨4, by omega, rfl, hidden (fun _ => g1.out (by omega)), hidden (fun _ => g2.out (by omega)), hidden (fun _ => g3.out (by omega)), HN, HBn, HCn, HQn⟩
          case measure => simp [intOf]
        · obtain rfl : dd = D0 := by rw [HD2.out, if_neg (g1.out (by omega)), if_neg (g2.out (by omega)), if_neg (g3.out (by omega)), if_neg (g4.out (by omega))]
          have HE := hidden (ChkOut.mk_ (r := false) rfl rfl HC.out HB.out)
          clear HC HB HQ
          go_wp2
          go_ret
          exact HE.out
end Go.Proofs.YtfmdmeokbbpmlaaGreat

namespace Go.Proofs.YtfmdmeokbbpmlaaGreat
open Go.RowKit Go.Shelf

theorem But.keepsT {p : Nat} {w w' : World} {T : Nat → Prop} (h : But p w w') (hT : ∀ k, T k → k ≠ p) : Keeps T w w' := ⟨h.size, fun k hk hl => h.block k hl (hT k hk)⟩
theorem tokD_at {g : Gram} {k : Nat} {t : Token} (h : g.toks[k]? = some t) {e rx : Int} (he : nameErr t.name ((tokNames g).take k) = e) (hr : rxErr t.rex = rx) :
    tokD g k = if e ≠ 0 then ⟨e, k, 0⟩ else if rx ≠ 0 then ⟨9, k, rx⟩ else if t.cls < 0 ∨ 3 < t.cls then ⟨1, k, 0⟩ else D0 := by
  unfold tokD
  rw [h]
  dsimp only
  unfold tokErr
  dsimp only
  have hk := (List.getElem?_eq_some_iff.1 h).1
  rw [allNames_take_le (by omega), he, hr]

set_option maxRecDepth 20000 in
set_option maxHeartbeats 8000000 in
theorem gram_tokens (p : Nat) (a b c : Value) (g : Gram) (w : World) (H : Chk p a b c g D0 w) (s1 : g.toks.length ≤ 100000) (hz : Named g) :
    Calls Tryz.prog 45 #[.pointer (some ⟨p, 0, none⟩)] w (ChkOut p a b c g (firstD (tokD g) 0 g.toks.length) w) := by
  have HH := hidden H
  have HNa := hidden (gram_names a g w H.old.1 s1)
  have HZ : Hid (∀ (k : Nat) (t : Token), g.toks[k]? = some t → t.name.size ≤ maxLen) := hidden (fun k t h => hz _ (by unfold allNames; exact List.mem_append_left _ (List.mem_of_getElem? (tokNames_at h))))
  obtain ⟨⟨A1, k1, rfl, v1, m1⟩, ⟨A2, k2, rfl, v2, m2⟩, ⟨A3, k3, rfl, v3, m3⟩⟩ := H.gram.vals
  have HBad := hidden (fun k at_ more (w' : World) (h : Chk p (.slice A1 g.toks.length k1) (.slice A2 g.rules.length k2) (.slice A3 g.prods.length k3) g D0 w') => gram_bad p _ _ _ g D0 k at_ more w' h)
  have HNd := hidden (fun s v l at_ (w' : World) (h : Chk p (.slice A1 g.toks.length k1) (.slice A2 g.rules.length k2) (.slice A3 g.prods.length k3) g D0 w') T hR hT hs => gram_named p _ _ _ g D0 s v l at_ w' h T hR hT hs)
  obtain ⟨x0, x1, x2, x3, x4, x5, x6, x7⟩ := H.cells
  have hl := H.lt
  have hbp := But.refl p w
  have HHit := hidden (fun k (h1 : k < g.toks.length) (h2 : (tokD g k).kind ≠ 0) (h3 : ∀ j, j < k → (tokD g j).kind = 0) => first0_hit (n := g.toks.length) h1 h2 h3)
  have HMis := hidden (fun (h3 : ∀ j, j < g.toks.length → (tokD g j).kind = 0) => first0_miss h3)
  have HL1 := hidden (tokNames_len g)
  generalize firstD (tokD g) 0 g.toks.length = dd at *
  clear H x1 x2 x3 x4 x5 x6 x7
  unfold maxLen at m1
  go_enter Tryz.func45, Tryz.ntmps45
  go_wp2_with fail
  refine HNa.out.mono ?_
  rintro r w1 ⟨⟨u, rfl, HM⟩, hb1⟩
  have HC1 := hidden (HH.out.next hb1)
  have hz1 := hb1.size
  have HB1 := hidden (But.of_below (p := p) hb1)
  have hR : Rd w1 (fun k => w.heap.size ≤ k ∧ k < w1.heap.size) 1 u (tokNames g).length ((tokNames g).flatMap strC) := Mine.rd HM.out (fun _ _ h1 h2 => ⟨h1, h2⟩)
  obtain ⟨Au, ku, rfl, hu1, hu2⟩ := hR.val
  have HR1 := hidden hR
  have y0 := HC1.out.cells.1
  have hll := HL1.out
  unfold maxLen at hu2
  clear hb1 hR HM HNa HH x0 hbp
  go_wp2
  go_loopw [19] (fun ii wr => ∃ k : Nat, k ≤ g.toks.length ∧ ii = .int .i64 k ∧ Hid (∀ j, j < k → (tokD g j).kind = 0) ∧ Hid (But p w1 wr) ∧ Hid (Chk p (.slice A1 g.toks.length k1) (.slice A2 g.rules.length k2) (.slice A3 g.prods.length k3) g D0 wr)) (fun ii _ => g.toks.length - (intOf ii).toNat)
  case atStart => exact ⟨0, by omega, rfl, hidden (fun j h => by omega), hidden (But.refl _ _), HC1⟩
  case round =>
    clear HC1 y0
    obtain ⟨k, hk, rfl, HN, HB, HC⟩ := hrel
    by_cases hlt : k < g.toks.length
    · have hx := List.getElem?_eq_getElem hlt
      generalize g.toks[k] = t at *
      obtain ⟨b1, o1, l1, rfl, hT, hat, hin⟩ := HC.out.gram.1.at_ hx
      obtain ⟨A4, k4, rfl, _, _⟩ := hin.val
      have hT : b1 < wr.heap.size := Nat.lt_trans hT HC.out.lt
      have y0 := hat 0 _ rfl
      have y1 := hat 1 _ rfl
      have y2 := hat 2 _ rfl
      rw [Nat.add_zero] at y0
      rw [show tokR.k = 3 from rfl] at y0 y1 y2
      have HTD := hidden (tokD_at hx (e := nameErr t.name ((tokNames g).take k)) (rx := rxErr t.rex) rfl rfl)
      have HRx := hidden (fun (w' : World) (hb : But p wr w') => rx_check _ t.rex w' (Rd.mono (Rd.keeps hin hb.keeps) (fun _ h => Nat.lt_of_lt_of_le (Nat.lt_trans h HC.out.lt) hb.size)))
      generalize rxErr t.rex = rx at *
      have HZt := hidden (HZ.out k t hx)
      have HHk := hidden (fun h2 => HHit.out k hlt h2 HN.out)
      have HNx : Hid ((tokD g k).kind = 0 → ∀ j, j < k + 1 → (tokD g j).kind = 0) := hidden (fun h j hj => by
        by_cases e : j = k
        · subst e; exact h
        · exact HN.out j (by omega))
      have HRk : Hid (Rd wr (fun k => w.heap.size ≤ k ∧ k < w1.heap.size) 1 (.slice Au k ku) k (((tokNames g).take k).flatMap strC)) := hidden (by
        have h1 : Strs wr (fun k => w.heap.size ≤ k ∧ k < w1.heap.size) (.slice Au (tokNames g).length ku) (tokNames g) := HR1.out.keeps (HB.out.keepsT (fun k hk => by omega))
        exact strs_take h1 (by omega))
      have HRl : Hid (((tokNames g).take k).length = k) := hidden (by rw [List.length_take]; omega)
      have HCn := hidden (HC.out.alloc (.cells #[.string t.name, .slice A4 (tokR.m t) k4, .int .i64 t.cls] 42))
      have HBn := hidden (HB.out.alloc (.cells #[.string t.name, .slice A4 (tokR.m t) k4, .int .i64 t.cls] 42))
      have HRn := hidden (HRk.out.alloc (.cells #[.string t.name, .slice A4 (tokR.m t) k4, .int .i64 t.cls] 42))
      have HPn : Hid (Holds (wr.alloc (.cells #[.string t.name, .slice A4 (tokR.m t) k4, .int .i64 t.cls] 42)) wr.heap.size 42 #[.string t.name, .slice A4 (tokR.m t) k4, .int .i64 t.cls]) := hidden (Holds.new _ _ _)
      have hpr := HC.out.lt
      have hwr := HB.out.size
      obtain ⟨eb, hebd⟩ : ∃ eb : Bool, eb = decide (nameErr t.name ((tokNames g).take k) ≠ 0) := ⟨_, rfl⟩
      have HNk : Hid (∀ w', Chk p (.slice (some ⟨b1, o1, none⟩) g.toks.length k1) (.slice A2 g.rules.length k2) (.slice A3 g.prods.length k3) g D0 w' → Rd w' (fun k => w.heap.size ≤ k ∧ k < w1.heap.size) 1 (.slice Au k ku) k (((tokNames g).take k).flatMap strC) → wr.heap.size ≤ w'.heap.size →
          Calls Tryz.prog 71 #[.pointer (some ⟨p, 0, none⟩), .string t.name, .slice Au k ku, .int .i64 (k : Int)] w' fun r w'' => r = .returned (.bool eb) ∧ Chk p (.slice (some ⟨b1, o1, none⟩) g.toks.length k1) (.slice A2 g.rules.length k2) (.slice A3 g.prods.length k3) g (if nameErr t.name ((tokNames g).take k) ≠ 0 then ⟨nameErr t.name ((tokNames g).take k), k, 0⟩ else D0) w'' ∧ But p w' w'') := hidden (fun w' h1 h2 h3 => by
        rw [hebd]
        exact HNd.out t.name _ ((tokNames g).take k) k w' h1 (fun k => w.heap.size ≤ k ∧ k < w1.heap.size) (by unfold Strs; rw [HRl.out]; exact h2) (fun k hk => by omega) HZt.out)
      have HEb := hidden hebd
      clear hebd
      generalize nameErr t.name ((tokNames g).take k) = e at *
      have i1 : (0 : Int) ≤ (k : Int) := by omega
      have i2 : (k : Int) ≤ (ku : Int) := by omega
      clear hat hx hin
      go_wp2_with fail
      have x0 : (wr.alloc (.cells #[.string t.name, .slice A4 (tokR.m t) k4, .int .i64 t.cls] 42)).cell? ⟨wr.heap.size, 0, none⟩ = some (.string t.name) := HPn.out.cell 0
      go_region_held3 (fun w' => w'.cell? ⟨wr.heap.size, 0, none⟩ = some (.string t.name))
        (first | exact x0 | go_keep | exact (HPn.out.drew.but hb3 (by omega)).cell 0 | exact (HPn.out.but hb3 (by omega)).cell 0)
        (first | (go_at_call 71; refine (HNk.out _ (by first | exact HCn.out.drew | exact HCn.out) (by first | exact HRn.out.drew | exact HRn.out) (by simp)).mono ?_; rintro r w3 ⟨rfl, HC3, hb3⟩))
      have HB3 := hidden (HBn.out.drew.trans hb3)
      have HBr := hidden ((((But.refl p wr).alloc _).drew).trans hb3)
      have HP3 := hidden (HPn.out.drew.but hb3 (by omega))
      have hz3 : wr.heap.size < w3.heap.size := HP3.out.lt
      have HC3' := hidden HC3
      clear HC3 hb3 x0 y0 y1 y2 HCn HBn HRn HPn HNk HRk HRl HZt HC HB i1 i2
      by_cases he : e = 0
      · obtain rfl : eb = false := by rw [HEb.out]; simp [he]
        subst he
        have HC3 : Hid (Chk p (.slice (some ⟨b1, o1, none⟩) g.toks.length k1) (.slice A2 g.rules.length k2) (.slice A3 g.prods.length k3) g D0 w3) := HC3'
        have z1 : w3.cell? ⟨wr.heap.size, 1, none⟩ = some (.slice A4 (tokR.m t) k4) := HP3.out.cell 1
        clear HC3'
        go_wp2_with fail
        refine (HRx.out _ HBr.out).mono ?_
        rintro r w4 ⟨rfl, hb4⟩
        have HC4 := hidden (HC3.out.next hb4)
        have HB4 := hidden (HB3.out.next hb4)
        have HP4 := hidden (HP3.out.below hb4 hz3)
        have hz4 := HP4.out.lt
        clear hb4 HC3 HB3 HP3 z1 HRx HBr
        by_cases hr : rx = 0
        · subst hr
          have z2 : w4.cell? ⟨wr.heap.size, 2, none⟩ = some (.int .i64 t.cls) := HP4.out.cell 2
          by_cases hcl : t.cls < 0
          · have HE : Hid (tokD g k = ⟨1, k, 0⟩) := hidden (by rw [HTD.out, if_neg (by simp), if_neg (by simp), if_pos (Or.inl hcl)])
            have HD : Hid (dd = ⟨1, k, 0⟩) := hidden (by rw [← HE.out]; exact HHk.out (by rw [HE.out]; simp))
            go_wp2_with fail
            refine (HBad.out 1 _ _ _ HC4.out).mono ?_
            rintro r w5 ⟨rfl, HC5, hb5⟩
            have HF := hidden (ChkOut.mk_ (r := true) HD.out.symm (by rw [HD.out]; rfl) HC5 (HB1.out.trans (HB4.out.trans hb5)))
            clear HC5 hb5
            go_wp2
            go_ret
            exact HF.out
          by_cases hcl2 : 3 < t.cls
          · have HE : Hid (tokD g k = ⟨1, k, 0⟩) := hidden (by rw [HTD.out, if_neg (by simp), if_neg (by simp), if_pos (Or.inr hcl2)])
            have HD : Hid (dd = ⟨1, k, 0⟩) := hidden (by rw [← HE.out]; exact HHk.out (by rw [HE.out]; simp))
            go_wp2_with fail
            refine (HBad.out 1 _ _ _ HC4.out).mono ?_
            rintro r w5 ⟨rfl, HC5, hb5⟩
            have HF := hidden (ChkOut.mk_ (r := true) HD.out.symm (by rw [HD.out]; rfl) HC5 (HB1.out.trans (HB4.out.trans hb5)))
            clear HC5 hb5
            go_wp2
            go_ret
            exact HF.out
          have HE : Hid (tokD g k = D0) := hidden (by rw [HTD.out, if_neg (by simp), if_neg (by simp), if_neg (by omega)])
          have HN2 := hidden (HNx.out (by rw [HE.out]; rfl))
          clear HHk HNx HTD HE HN
          go_wp2
          go_roundw
          case rel => exact ⟨k + 1, by omega, by go_num, HN2, HB4, HC4⟩
          case measure => simp [intOf]; omega
        · have HE : Hid (tokD g k = ⟨9, k, rx⟩) := hidden (by rw [HTD.out, if_neg (by simp), if_pos hr])
          have HD : Hid (dd = ⟨9, k, rx⟩) := hidden (by rw [← HE.out]; exact HHk.out (by rw [HE.out]; simp))
          have qr : (rx != 0) = true := by rw [bne_iff_ne]; exact hr
          go_wp2_with fail
          refine (HBad.out 9 _ _ _ HC4.out).mono ?_
          rintro r w5 ⟨rfl, HC5, hb5⟩
          have HF := hidden (ChkOut.mk_ (r := true) HD.out.symm (by rw [HD.out]; rfl) HC5 (HB1.out.trans (HB4.out.trans hb5)))
          clear HC5 hb5
          go_wp2
          go_ret
          exact HF.out
      · have HE : Hid (tokD g k = ⟨e, k, 0⟩) := hidden (by rw [HTD.out, if_pos he])
        have HD : Hid (dd = ⟨e, k, 0⟩) := hidden (by rw [← HE.out]; exact HHk.out (by rw [HE.out]; exact he))
        have HC4 : Hid (Chk p (.slice (some ⟨b1, o1, none⟩) g.toks.length k1) (.slice A2 g.rules.length k2) (.slice A3 g.prods.length k3) g ⟨e, k, 0⟩ w3) := hidden (by have := HC3'.out; rwa [if_pos he] at this)
        have HF := hidden (ChkOut.mk_ (r := true) HD.out.symm (by rw [HD.out]; simp [he]) HC4.out (HB1.out.trans HB3.out))
        obtain rfl : eb = true := by rw [HEb.out]; simp [he]
        clear HC3' HC4
        go_wp2
        go_ret
        exact HF.out
    · obtain rfl : k = g.toks.length := by omega
      have HE := hidden (HMis.out HN.out)
      have HF := hidden (ChkOut.mk_ (r := false) HE.out.symm (by rw [HE.out]; rfl) HC.out (HB1.out.trans HB.out))
      clear HC HB HE
      go_wp2
      go_ret
      exact HF.out
end Go.Proofs.YtfmdmeokbbpmlaaGreat

namespace Go.Proofs.YtfmdmeokbbpmlaaGreat
open Go.RowKit Go.Shelf

theorem Chk.nextB {p B : Nat} {a b c : Value} {g : Gram} {d : Defect} {w w' : World} (h : Chk p a b c g d w) (hb : Below B w w') (hp : p < B) : Chk p a b c g d w' :=
  ⟨h.at_.below hb hp, h.gram.below hb (fun _ hk => Nat.lt_trans hk hp)⟩
theorem But.nextB {p : Nat} {w wr w' : World} (h : But p w wr) (hb : Below w.heap.size wr w') : But p w w' :=
  ⟨hb.os.trans h.os, hb.tape.trans h.tape, hb.output.trans h.output, Nat.le_trans h.size hb.size, fun k hk hn => (hb.block k hk).trans (h.block k hk hn)⟩
theorem Mine.but {w w' : World} {base p : Nat} {e : TypeId} {size n : Nat} {v : Value} {xs : List Value} (h : Mine w base e size v n xs) (hb : But p w w') (hp : p < base) : Mine w' base e size v n xs :=
  h.keep fun k _ h1 h2 => hb.block k h2 (by omega)

set_option maxRecDepth 20000 in
set_option maxHeartbeats 8000000 in
theorem gram_rules (p : Nat) (a b c : Value) (g : Gram) (w : World) (H : Chk p a b c g D0 w) (s1 : g.toks.length ≤ 100000) (s2 : g.rules.length ≤ 100000) (hz : Named g) :
    Calls Tryz.prog 46 #[.pointer (some ⟨p, 0, none⟩)] w (ChkOut p a b c g (firstD (ruleD g) 0 g.rules.length) w) := by
  have HH := hidden H
  have HNa := hidden (gram_names a g w H.old.1 s1)
  have HZ : Hid (∀ (k : Nat) (s : ByteArray), g.rules[k]? = some s → s.size ≤ maxLen) := hidden (fun k s h => hz _ (by unfold allNames; exact List.mem_append_right _ (List.mem_of_getElem? h)))
  obtain ⟨⟨A1, k1, rfl, v1, m1⟩, ⟨A2, k2, rfl, v2, m2⟩, ⟨A3, k3, rfl, v3, m3⟩⟩ := H.gram.vals
  have HNd := hidden (fun s v l at_ (w' : World) (h : Chk p (.slice A1 g.toks.length k1) (.slice A2 g.rules.length k2) (.slice A3 g.prods.length k3) g D0 w') T hR hT hs => gram_named p _ _ _ g D0 s v l at_ w' h T hR hT hs)
  obtain ⟨x0, x1, x2, x3, x4, x5, x6, x7⟩ := H.cells
  have hl := H.lt
  have HHit := hidden (fun k (h1 : k < g.rules.length) (h2 : (ruleD g k).kind ≠ 0) (h3 : ∀ j, j < k → (ruleD g j).kind = 0) => first0_hit (n := g.rules.length) h1 h2 h3)
  have HMis := hidden (fun (h3 : ∀ j, j < g.rules.length → (ruleD g j).kind = 0) => first0_miss h3)
  have HT0 : Hid ((allNames g).take (g.toks.length + 0) = tokNames g) := hidden (by rw [allNames_take]; simp)
  have HTs : Hid (∀ k (s : ByteArray), g.rules[k]? = some s → (allNames g).take (g.toks.length + k) ++ [s] = (allNames g).take (g.toks.length + (k + 1))) := hidden (fun k s h => by
    rw [allNames_take, allNames_take, List.append_assoc, take_snoc_at h])
  generalize firstD (ruleD g) 0 g.rules.length = dd at *
  clear H x2 x3 x4 x5 x6 x7
  unfold maxLen at m2
  go_enter Tryz.func46, Tryz.ntmps46
  go_wp2_with fail
  refine HNa.out.mono ?_
  rintro r w1 ⟨⟨u, rfl, HM⟩, hb1⟩
  have HC1 := hidden (HH.out.next hb1)
  have hz1 := hb1.size
  have HB1 := hidden (But.of_below (p := p) hb1)
  have HM1 : Hid (StrsM w1 w.heap.size u ((allNames g).take (g.toks.length + 0))) := hidden (by rw [HT0.out]; exact HM.out)
  have y1 := HC1.out.cells.2.1
  clear hb1 HM HNa HH x0 x1
  go_wp2
  go_loopw [3, 18] (fun vv ii wr => ∃ k : Nat, k ≤ g.rules.length ∧ ii = .int .i64 k ∧ Hid (∀ j, j < k → (ruleD g j).kind = 0) ∧ Hid (But p w wr) ∧ Hid (Chk p (.slice A1 g.toks.length k1) (.slice A2 g.rules.length k2) (.slice A3 g.prods.length k3) g D0 wr) ∧ Hid (StrsM wr w.heap.size vv ((allNames g).take (g.toks.length + k)))) (fun _ ii _ => g.rules.length - (intOf ii).toNat)
  case atStart => exact ⟨0, by omega, rfl, hidden (fun j h => by omega), HB1, HC1, HM1⟩
  case round =>
    clear HC1 y1 HB1 HM1
    obtain ⟨k, hk, rfl, HN, HB, HC, HM⟩ := hrel
    by_cases hlt : k < g.rules.length
    · have hx := List.getElem?_eq_getElem hlt
      generalize g.rules[k] = s at *
      obtain ⟨b1, o1, rfl, hT, y0⟩ := strs_at HC.out.gram.2.1 hx
      have hpr := HC.out.lt
      have hT : b1 < wr.heap.size := Nat.lt_trans hT HC.out.lt
      have hwr := HB.out.size
      have HTD : Hid (ruleD g k = if nameErr s ((allNames g).take (g.toks.length + k)) ≠ 0 then ⟨nameErr s ((allNames g).take (g.toks.length + k)), k, 0⟩ else D0) := hidden (by unfold ruleD; rw [hx])
      have HHk := hidden (fun h2 => HHit.out k hlt h2 HN.out)
      have HNx : Hid ((ruleD g k).kind = 0 → ∀ j, j < k + 1 → (ruleD g j).kind = 0) := hidden (fun h j hj => by
        by_cases e : j = k
        · subst e; exact h
        · exact HN.out j (by omega))
      have HSn := hidden (HTs.out k s hx)
      have hlen : ((allNames g).take (g.toks.length + k)).length ≤ 200000 := by rw [List.length_take]; omega
      obtain ⟨eb, hebd⟩ : ∃ eb : Bool, eb = decide (nameErr s ((allNames g).take (g.toks.length + k)) ≠ 0) := ⟨_, rfl⟩
      have HNk := hidden (HNd.out s _ ((allNames g).take (g.toks.length + k)) (k : Int) wr HC.out (Old wr) (StrsM.rd HM.out) (fun _ h => h) (HZ.out k s hx))
      rw [← hebd] at HNk
      have HEb := hidden hebd
      clear hebd hx HC
      generalize (allNames g).take (g.toks.length + k) = L at *
      obtain ⟨Au, ku, rfl⟩ := Mine.value HM.out
      generalize nameErr s L = e at *
      go_wp2_with fail
      refine HNk.out.mono ?_
      rintro r w3 ⟨rfl, HC3, hb3⟩
      have HB3 := hidden (HB.out.trans hb3)
      have HM3 := hidden (Mine.but HM.out hb3 hl)
      have HC3' := hidden HC3
      have hz3 := HB3.out.size
      clear HC3 hb3 y0 HM HNk HB
      by_cases he : e = 0
      · obtain rfl : eb = false := by rw [HEb.out]; simp [he]
        subst he
        have HC3 : Hid (Chk p (.slice A1 g.toks.length k1) (.slice (some ⟨b1, o1, none⟩) g.rules.length k2) (.slice A3 g.prods.length k3) g D0 w3) := HC3'
        have HE : Hid (ruleD g k = D0) := hidden (by rw [HTD.out, if_neg (by simp)])
        have HN2 := hidden (HNx.out (by rw [HE.out]; rfl))
        clear HC3' HHk HNx HTD HE HN HEb
        go_wp2_with (at_builtin; refine wpList_append_str rfl _ _ rfl w.heap.size _ _ HM3 s rfl rfl rfl (by rfl) (by omega) (by omega) ?_; intro v' w' hA hb2 hK)
        go_roundw
        case rel => exact ⟨k + 1, by omega, by go_num, HN2, hidden (HB3.out.nextB hb2), hidden (HC3.out.nextB hb2 hl), by rw [HSn.out] at hA; exact hA⟩
        case measure => simp [intOf]; omega
      · have HE : Hid (ruleD g k = ⟨e, k, 0⟩) := hidden (by rw [HTD.out, if_pos he])
        have HD : Hid (dd = ⟨e, k, 0⟩) := hidden (by rw [← HE.out]; exact HHk.out (by rw [HE.out]; exact he))
        have HC4 : Hid (Chk p (.slice A1 g.toks.length k1) (.slice (some ⟨b1, o1, none⟩) g.rules.length k2) (.slice A3 g.prods.length k3) g ⟨e, k, 0⟩ w3) := hidden (by have := HC3'.out; rwa [if_pos he] at this)
        have HF := hidden (ChkOut.mk_ (r := true) HD.out.symm (by rw [HD.out]; simp [he]) HC4.out HB3.out)
        obtain rfl : eb = true := by rw [HEb.out]; simp [he]
        clear HC3' HC4
        go_wp2
        go_ret
        exact HF.out
    · obtain rfl : k = g.rules.length := by omega
      have HE := hidden (HMis.out HN.out)
      have HF := hidden (ChkOut.mk_ (r := false) HE.out.symm (by rw [HE.out]; rfl) HC.out HB.out)
      clear HC HB HE
      go_wp2
      go_ret
      exact HF.out
end Go.Proofs.YtfmdmeokbbpmlaaGreat

namespace Go.Proofs.YtfmdmeokbbpmlaaGreat
open Go.RowKit Go.Shelf

theorem But.drewN {p : Nat} {w w' : World} (h : But p w w') (n : Nat) : But p w (w'.drewN n) := ⟨h.os, h.tape, h.output, h.size, h.block⟩
theorem Chk.drewN {p : Nat} {a b c : Value} {g : Gram} {d : Defect} {w : World} (h : Chk p a b c g d w) (n : Nat) : Chk p a b c g d (w.drewN n) := h.next (below_drewN (Below.refl _ _) n)
theorem prodD_at {g : Gram} {k : Nat} {le : Int} {ri : List Item} (h : g.prods[k]? = some ⟨le, ri⟩) :
    prodD g k = if le < 0 ∨ (g.rules.length : Int) ≤ le then ⟨11, k, 0⟩ else if 16 < ri.length then ⟨4, k, 0⟩ else firstD (itemD g k ri) 0 ri.length := by
  unfold prodD
  rw [h]
  rfl

set_option maxRecDepth 20000 in
set_option maxHeartbeats 8000000 in
theorem gram_prods (p : Nat) (a b c : Value) (g : Gram) (w : World) (H : Chk p a b c g D0 w) :
    Calls Tryz.prog 47 #[.pointer (some ⟨p, 0, none⟩)] w (ChkOut p a b c g (firstD (prodD g) 0 g.prods.length) w) := by
  have HH := hidden H
  obtain ⟨⟨A1, k1, rfl, v1, m1⟩, ⟨A2, k2, rfl, v2, m2⟩, ⟨A3, k3, rfl, v3, m3⟩⟩ := H.gram.vals
  have HBad := hidden (fun k at_ more (w' : World) (h : Chk p (.slice A1 g.toks.length k1) (.slice A2 g.rules.length k2) (.slice A3 g.prods.length k3) g D0 w') => gram_bad p _ _ _ g D0 k at_ more w' h)
  have HIt := hidden (fun x (w' : World) (h : Chk p (.slice A1 g.toks.length k1) (.slice A2 g.rules.length k2) (.slice A3 g.prods.length k3) g D0 w') => gram_item p _ _ _ g D0 x w' h)
  obtain ⟨x0, x1, x2, x3, x4, x5, x6, x7⟩ := H.cells
  have hl := H.lt
  have HHit := hidden (fun k (h1 : k < g.prods.length) (h2 : (prodD g k).kind ≠ 0) (h3 : ∀ j, j < k → (prodD g j).kind = 0) => first0_hit (n := g.prods.length) h1 h2 h3)
  have HMis := hidden (fun (h3 : ∀ j, j < g.prods.length → (prodD g j).kind = 0) => first0_miss h3)
  generalize firstD (prodD g) 0 g.prods.length = dd at *
  clear H x0 x1 x3 x4 x5 x6 x7
  unfold maxLen at m2 m3
  go_enter Tryz.func47, Tryz.ntmps47
  go_wp2
  go_step3
  go_wp2
  go_step3
  go_wp2
  go_loopg [15, 3] g.prods.length (fun gh ii ww wr => ∃ k : Nat, k ≤ g.prods.length ∧ gh = g.prods.length - k ∧ ii = .int .i64 k ∧ ww = .bool false ∧ Hid (∀ j, j < k → (prodD g j).kind = 0) ∧ Hid (But p w wr) ∧ Hid (Chk p (.slice A1 g.toks.length k1) (.slice A2 g.rules.length k2) (.slice A3 g.prods.length k3) g D0 wr))
  case atStart => exact ⟨0, by omega, rfl, rfl, rfl, hidden (fun j h => by omega), hidden (But.refl _ _), HH⟩
  case round =>
    clear HH x2
    obtain ⟨k, hk, rfl, rfl, rfl, HN, HB, HC⟩ := hrel
    obtain ⟨wo, rfl⟩ : ∃ wo : World, wo = wr := ⟨_, rfl⟩
    by_cases hlt : k < g.prods.length
    · have hx := List.getElem?_eq_getElem hlt
      generalize g.prods[k] = pr at *
      obtain ⟨le, ri⟩ := pr
      obtain ⟨b1, o1, l1, rfl, hT, hat, hin⟩ := HC.out.gram.2.2.at_ hx
      have hin : Rd wo (fun k => k < p) 4 l1 ri.length (ri.flatMap itCells) := hin
      obtain ⟨A4, k4, rfl, v4, m4⟩ := hin.val
      have hT : b1 < wo.heap.size := Nat.lt_trans hT HC.out.lt
      have hpr := HC.out.lt
      have hwr := HB.out.size
      have y0 : wo.cell? ⟨b1, o1 + k * 2, none⟩ = some (.int .i64 le) := hat 0 _ rfl
      have y1 : wo.cell? ⟨b1, o1 + k * 2 + 1, none⟩ = some (.slice A4 ri.length k4) := hat 1 _ rfl
      have HTD := hidden (prodD_at hx)
      have HHk := hidden (fun h2 => HHit.out k hlt h2 HN.out)
      have HNx : Hid ((prodD g k).kind = 0 → ∀ j, j < k + 1 → (prodD g j).kind = 0) := hidden (fun h j hj => by
        by_cases e : j = k
        · subst e; exact h
        · exact HN.out j (by omega))
      have HIn := hidden (fun (w' : World) (hb : But p wo w') => Rd.keeps hin hb.keeps)
      have HCn := hidden (HC.out.alloc (.cells #[.int .i64 le, .slice A4 ri.length k4] 50))
      have HBn := hidden (HB.out.alloc (.cells #[.int .i64 le, .slice A4 ri.length k4] 50))
      have HBo := hidden ((But.refl p wo).alloc (.cells #[.int .i64 le, .slice A4 ri.length k4] 50))
      have x1 := HC.out.cells.2.1
      unfold maxLen at m4
      clear hat hx hin HB HC HHit
      by_cases h1 : le < 0 ∨ (g.rules.length : Int) ≤ le
      · have HE : Hid (prodD g k = ⟨11, k, 0⟩) := hidden (by rw [HTD.out, if_pos h1])
        have HD : Hid (dd = ⟨11, k, 0⟩) := hidden (by rw [← HE.out]; exact HHk.out (by rw [HE.out]; simp))
        have hcs : le < 0 ∨ (¬ le < 0 ∧ (g.rules.length : Int) ≤ le) := by omega
        clear h1 HN HNx HTD HE HHk
        rcases hcs with h1 | ⟨h0, h1⟩
        all_goals
          go_wp2_with fail
          go_quiet (fail)
          go_wp2_with fail
          refine (HBad.out 11 _ _ _ (HCn.out.drewN _)).mono ?_
          rintro r w5 ⟨rfl, HC5, hb5⟩
          have HF := hidden (ChkOut.mk_ (r := true) HD.out.symm (by rw [HD.out]; rfl) HC5 ((HBn.out.drewN _).trans hb5))
          clear HC5 hb5
          go_wp2
          (try rw [Exit.noGoto_ret])
          go_ret
          exact HF.out
      · obtain ⟨h1a, h1b⟩ : ¬ le < 0 ∧ ¬ (g.rules.length : Int) ≤ le := by omega
        by_cases h2 : 16 < ri.length
        · have HE : Hid (prodD g k = ⟨4, k, 0⟩) := hidden (by rw [HTD.out, if_neg h1, if_pos h2])
          have HD : Hid (dd = ⟨4, k, 0⟩) := hidden (by rw [← HE.out]; exact HHk.out (by rw [HE.out]; simp))
          clear h1 HN HNx HTD HE HHk
          go_wp2_with fail
          go_quiet (fail)
          go_wp2_with fail
          refine (HBad.out 4 _ _ _ (HCn.out.drewN _)).mono ?_
          rintro r w5 ⟨rfl, HC5, hb5⟩
          have HF := hidden (ChkOut.mk_ (r := true) HD.out.symm (by rw [HD.out]; rfl) HC5 ((HBn.out.drewN _).trans hb5))
          clear HC5 hb5
          go_wp2
          (try rw [Exit.noGoto_ret])
          go_ret
          exact HF.out
        · have HE : Hid (prodD g k = firstD (itemD g k ri) 0 ri.length) := hidden (by rw [HTD.out, if_neg h1, if_neg h2])
          have HI1 := hidden (fun j (h1 : j < ri.length) (h2 : (itemD g k ri j).kind ≠ 0) (h3 : ∀ m, m < j → (itemD g k ri m).kind = 0) => first0_hit (n := ri.length) h1 h2 h3)
          have HI2 := hidden (fun (h3 : ∀ m, m < ri.length → (itemD g k ri m).kind = 0) => first0_miss h3)
          have HIa : Hid (∀ (j : Nat) x, ri[j]? = some x → itemD g k ri j = if itemErr g x ≠ 0 then ⟨itemErr g x, k, (j : Int) + 1⟩ else D0) := hidden (fun j x hx => by unfold itemD; rw [hx])
          clear h1 HTD
          go_wp2_with fail
          go_quiet (fail)
          have HCm := hidden (HCn.out.drewN nq)
          have HBm := hidden (HBo.out.drewN nq)
          have HBw := hidden (HBn.out.drewN nq)
          go_wp2
          go_loopg [49, 3] ri.length (fun gj jj ww wx => ∃ j : Nat, j ≤ ri.length ∧ gj = ri.length - j ∧ jj = .int .i64 j ∧ ww = .bool false ∧ Hid (∀ m, m < j → (itemD g k ri m).kind = 0) ∧ Hid (But p wo wx) ∧ Hid (But p w wx) ∧ Hid (Chk p (.slice A1 g.toks.length k1) (.slice A2 g.rules.length k2) (.slice (some ⟨b1, o1, none⟩) g.prods.length k3) g D0 wx))
          case atStart => exact ⟨0, by omega, rfl, rfl, rfl, hidden (fun j h => by omega), HBm, HBw, HCm⟩
          case round =>
            clear HBm HBw HCm HBn HBo HCn x1 y0 y1
            obtain ⟨j, hj, rfl, rfl, rfl, HJ, HBx, HBy, HC⟩ := hrel
            have hwx := HBx.out.size
            have hpx := HC.out.lt
            by_cases hjl : j < ri.length
            · have hxj := List.getElem?_eq_getElem hjl
              generalize ri[j] = x at *
              obtain ⟨b2, o2, rfl, hT2, hat⟩ := (HIn.out _ HBx.out).flat_at (fun _ => rfl) (by decide) hxj
              have hT2 : b2 < wr.heap.size := Nat.lt_trans hT2 HC.out.lt
              have i0 : wr.cell? ⟨b2, o2 + j * 4, none⟩ = some (.bool x.rule) := hat 0 _ rfl
              have i1 : wr.cell? ⟨b2, o2 + j * 4 + 1, none⟩ = some (.int .i64 x.n) := hat 1 _ rfl
              have i2 : wr.cell? ⟨b2, o2 + j * 4 + 2, none⟩ = some (.int .i64 x.gap) := hat 2 _ rfl
              have i3 : wr.cell? ⟨b2, o2 + j * 4 + 3, none⟩ = some (.int .i64 x.in_) := hat 3 _ rfl
              have HCj := hidden (HC.out.alloc (.cells #[.bool x.rule, .int .i64 x.n, .int .i64 x.gap, .int .i64 x.in_] 47))
              have HBj := hidden (HBx.out.alloc (.cells #[.bool x.rule, .int .i64 x.n, .int .i64 x.gap, .int .i64 x.in_] 47))
              have HBk := hidden (HBy.out.alloc (.cells #[.bool x.rule, .int .i64 x.n, .int .i64 x.gap, .int .i64 x.in_] 47))
              have HIj := hidden (HIa.out j x hxj)
              have HItj := hidden (HIt.out x _ HCj.out)
              have HIh := hidden (fun h2 => HI1.out j hjl h2 HJ.out)
              have HJx : Hid ((itemD g k ri j).kind = 0 → ∀ m, m < j + 1 → (itemD g k ri m).kind = 0) := hidden (fun h m hm => by
                by_cases e : m = j
                · subst e; exact h
                · exact HJ.out m (by omega))
              generalize itemErr g x = e at *
              clear hat hxj HBx HBy HC
              go_wp2_with fail
              refine HItj.out.mono ?_
              rintro r w6 ⟨rfl, hb6⟩
              have HC6 := hidden (HCj.out.next hb6)
              have HB6 := hidden (HBj.out.next hb6)
              have HB7 := hidden (HBk.out.next hb6)
              clear HCj HBj HBk HItj hb6 i0 i1 i2 i3
              by_cases he : e = 0
              · have HJ2 := hidden (HJx.out (by rw [HIj.out, if_neg (by simp [he])]; rfl))
                subst he
                clear HIh HJx HIj HJ
                go_wp2
                go_roundg (ri.length - (j + 1))
                case measure => omega
                case rel => exact ⟨j + 1, by omega, rfl, by go_num, rfl, HJ2, HB6, HB7, HC6⟩
              · have HE2 : Hid (itemD g k ri j = ⟨e, k, (j : Int) + 1⟩) := hidden (by rw [HIj.out, if_pos he])
                have HE3 : Hid (prodD g k = ⟨e, k, (j : Int) + 1⟩) := hidden (by rw [HE.out, HIh.out (by rw [HE2.out]; exact he), HE2.out])
                have HD : Hid (dd = ⟨e, k, (j : Int) + 1⟩) := hidden (by rw [← HE3.out]; exact HHk.out (by rw [HE3.out]; exact he))
                have qe : (e != 0) = true := by rw [bne_iff_ne]; exact he
                clear HIh HJx HIj HJ HE HHk HNx HE2 HE3 HI1 HI2 HIa HN
                go_wp2_with fail
                refine (HBad.out e _ _ _ HC6.out).mono ?_
                rintro r w8 ⟨rfl, HC8, hb8⟩
                have HF := hidden (ChkOut.mk_ (r := true) HD.out.symm (by rw [HD.out]; simp [he]) HC8 (HB7.out.trans hb8))
                clear HC8 hb8
                go_wp2
                (try rw [Exit.noGoto_ret])
                go_ret
                exact HF.out
            · obtain rfl : j = ri.length := by omega
              have HN2 := hidden (HNx.out (by rw [HE.out, HI2.out HJ.out]; rfl))
              clear HN HNx HE HI1 HI2 HIa HJ HHk
              go_wp2
              go_roundg (g.prods.length - (k + 1))
              case measure => omega
              case rel => exact ⟨k + 1, by omega, rfl, by go_num, rfl, HN2, HBy, HC⟩
    · obtain rfl : k = g.prods.length := by omega
      have HE := hidden (HMis.out HN.out)
      have HF := hidden (ChkOut.mk_ (r := false) HE.out.symm (by rw [HE.out]; rfl) HC.out HB.out)
      clear HC HB HE
      go_wp2
      (try rw [Exit.noGoto_ret])
      go_ret
      exact HF.out
end Go.Proofs.YtfmdmeokbbpmlaaGreat

namespace Go.Proofs.YtfmdmeokbbpmlaaGreat
open Go.RowKit Go.Shelf

set_option maxRecDepth 20000 in
set_option maxHeartbeats 4000000 in
theorem gram_Of (a b c : Value) (g : Gram) (r : Int) (w : World) (HG : GramIs w (Old w) a b c g) (h3 : g.prods.length ≤ 100000) :
    Calls Tryz.prog 74 #[.agg (gramCells a b c g), .int .i64 r] w fun e w' => (∃ u, e = .returned u ∧ Hid (IntsM w' w.heap.size u (ofRule g r))) ∧ Below w.heap.size w w' := by
  have HGo := hidden (fun (w' : World) (hb : Below w.heap.size w w') => HG.old hb)
  obtain ⟨⟨A1, k1, rfl, v1, m1⟩, ⟨A2, k2, rfl, v2, m2⟩, ⟨A3, k3, rfl, v3, m3⟩⟩ := HG.vals
  unfold gramCells at *
  have HS := hidden (fun (k : Nat) (p : Prod) (h : g.prods[k]? = some p) => ofUpto_snoc (r := r) h)
  have HL := hidden (ofUpto_len g r)
  have HD : Hid (ofUpto g r g.prods.length = ofRule g r) := hidden rfl
  clear HG
  unfold maxLen at m3
  go_enter Tryz.func74, Tryz.ntmps74
  go_wp2
  go_loopw [5, 11] (fun vv ii wr => ∃ k : Nat, k ≤ g.prods.length ∧ ii = .int .i64 k ∧ Hid (IntsM wr (w.heap.size + 1) vv (ofUpto g r k)) ∧ Below w.heap.size w wr ∧ w.heap.size + 1 ≤ wr.heap.size) (fun _ ii _ => g.prods.length - (intOf ii).toNat)
  case atStart => exact ⟨0, by omega, rfl, hidden (Mine.fresh_nil _ _ _ _ _), (by repeat (first | (with_reducible exact Below.refl _ _) | (with_reducible assumption) | (with_reducible refine Below.drew ?_) | (with_reducible refine below_drewN ?_ _) | ((with_reducible refine below_alloc ?_ ?_); (focus (first | omega | (simp; done) | (simp; omega)))) | ((with_reducible refine below_set ?_ ?_); (focus (first | omega | (simp; done) | (simp; omega)))))), by simp⟩
  case round =>
    obtain ⟨k, hk, rfl, HM, hb, z⟩ := hrel
    have hbz := hb.size
    by_cases hlt : k < g.prods.length
    · have hx := List.getElem?_eq_getElem hlt
      generalize g.prods[k] = p at *
      obtain ⟨b1, o1, l1, rfl, hT, hat, hin⟩ := (HGo.out _ hb).2.2.at_ hx
      have hin : Rd wr (Old wr) 4 l1 p.right.length (p.right.flatMap itCells) := hin
      obtain ⟨A4, k4, rfl, _, _⟩ := hin.val
      have hT : b1 < wr.heap.size := hT
      have y0 : wr.cell? ⟨b1, o1 + k * 2, none⟩ = some (.int .i64 p.left) := hat 0 _ rfl
      have y1 : wr.cell? ⟨b1, o1 + k * 2 + 1, none⟩ = some (.slice A4 p.right.length k4) := hat 1 _ rfl
      have HSx := hidden (HS.out k p hx)
      have hl := HL.out k
      have HM2 := hidden (HM.out.alloc (.cells #[.int .i64 p.left, .slice A4 p.right.length k4] 50))
      have HB2 := hidden (hb.alloc hbz (.cells #[.int .i64 p.left, .slice A4 p.right.length k4] 50))
      clear hat hx hin HM
      by_cases hr : p.left = r
      · have HE : Hid (ofUpto g r (k + 1) = ofUpto g r k ++ [(k : Int)]) := hidden (by rw [HSx.out, if_pos (by simp [hr])])
        have q : (p.left == r) = true := by simp [hr]
        clear HSx hr hb
        go_wp2_with (at_builtin; refine wpList_append_i rfl _ _ rfl (w.heap.size + 1) _ _ HM2 (k : Int) rfl rfl rfl (by simp) (by omega) (by simp; omega) ?_; intro v' w' hA hb2 hK)
        go_roundw
        case rel => exact ⟨k + 1, by omega, by go_num, by rw [HE.out]; exact hA, HB2.out.trans (hb2.mono (by omega)), by have := hb2.size; simp at this; omega⟩
        case measure => simp [intOf]; omega
      · have HE : Hid (ofUpto g r (k + 1) = ofUpto g r k) := hidden (by rw [HSx.out, if_neg (by simp [hr])])
        have q : (p.left == r) = false := by simp [hr]
        clear HSx hr hb
        go_wp2
        go_roundw
        case rel => exact ⟨k + 1, by omega, by go_num, by rw [HE.out]; exact HM2, HB2.out, by simp; omega⟩
        case measure => simp [intOf]; omega
    · obtain rfl : k = g.prods.length := by omega
      rw [HD.out] at HM
      go_wp2
      go_ret
      exact ⟨⟨_, rfl, hidden (Mine.base HM.out (by omega))⟩, hb⟩

set_option maxRecDepth 20000 in
set_option maxHeartbeats 2000000 in
theorem gram_Find (a b c : Value) (g : Gram) (s : ByteArray) (w : World) (HG : GramIs w (Old w) a b c g) (h1 : g.toks.length ≤ 100000) :
    Calls Tryz.prog 83 #[.agg (gramCells a b c g), .string s] w fun r w' => r = .returned (.tuple #[.bool (isRule g s), .int .i64 (findNo g s)]) ∧ Below w.heap.size w w' := by
  have HNa := hidden (fun (w' : World) (hb : Below w.heap.size w w') => gram_names a g w' (HG.old hb).1 h1)
  have HFt : Hid (∀ u w1, Strs w1 (Old w1) u (tokNames g) → Calls Tryz.prog 64 #[u, .string s] w1 fun r w' => r = .returned (.int .i64 (findOf (tokNames g) s)) ∧ w1 = w') := hidden (fun u w1 h => word_find u _ s _ w1 h)
  have HFr := hidden (fun (w' : World) (hb : Below w.heap.size w w') => word_find b g.rules s _ w' (HG.old hb).2.1)
  obtain ⟨⟨A1, k1, rfl, v1, m1⟩, ⟨A2, k2, rfl, v2, m2⟩, ⟨A3, k3, rfl, v3, m3⟩⟩ := HG.vals
  unfold gramCells isRule findNo at *
  generalize findOf (tokNames g) s = ft at *
  generalize findOf g.rules s = fr at *
  have hb := Below.refl w.heap.size w
  clear HG
  by_cases c1 : 0 ≤ ft
  · rw [if_pos c1]
    have e1 : (decide (ft < 0) && decide (0 ≤ fr)) = false := by rw [decide_eq_false (by omega)]; rfl
    rw [e1]
    clear e1
    go_enter Tryz.func83, Tryz.ntmps83
    go_wp2_with fail
    refine (HNa.out _ ?_).mono ?_
    · exact (by repeat (first | (with_reducible exact Below.refl _ _) | (with_reducible assumption) | (with_reducible refine Below.drew ?_) | (with_reducible refine below_drewN ?_ _) | ((with_reducible refine below_alloc ?_ ?_); (focus (first | omega | (simp; done) | (simp; omega)))) | ((with_reducible refine below_set ?_ ?_); (focus (first | omega | (simp; done) | (simp; omega))))))
    rintro r w2 ⟨⟨u, rfl, HM⟩, hb2⟩
    have hbw : Below w.heap.size w w2 := Below.trans (by repeat (first | (with_reducible exact Below.refl _ _) | (with_reducible assumption) | (with_reducible refine Below.drew ?_) | (with_reducible refine below_drewN ?_ _) | ((with_reducible refine below_alloc ?_ ?_); (focus (first | omega | (simp; done) | (simp; omega)))) | ((with_reducible refine below_set ?_ ?_); (focus (first | omega | (simp; done) | (simp; omega)))))) (hb2.mono (by simp))
    have hR := hidden (StrsM.rd HM.out)
    clear hb2
    go_wp2_with fail
    refine (HFt.out _ _ hR.out).mono ?_
    rintro r w3 ⟨rfl, rfl⟩
    go_wp2
    go_ret2
    exact ⟨rfl, hbw⟩
  · rw [if_neg c1]
    have e1 : (decide (ft < 0) && decide (0 ≤ fr)) = decide (0 ≤ fr) := by rw [decide_eq_true (show ft < 0 by omega)]; rfl
    rw [e1]
    clear e1
    go_enter Tryz.func83, Tryz.ntmps83
    go_wp2_with fail
    refine (HNa.out _ ?_).mono ?_
    · exact (by repeat (first | (with_reducible exact Below.refl _ _) | (with_reducible assumption) | (with_reducible refine Below.drew ?_) | (with_reducible refine below_drewN ?_ _) | ((with_reducible refine below_alloc ?_ ?_); (focus (first | omega | (simp; done) | (simp; omega)))) | ((with_reducible refine below_set ?_ ?_); (focus (first | omega | (simp; done) | (simp; omega))))))
    rintro r w2 ⟨⟨u, rfl, HM⟩, hb2⟩
    have x1 : w2.cell? ⟨w.heap.size, 1, none⟩ = some (.slice A2 g.rules.length k2) := (hb2.cell (p := ⟨w.heap.size, 1, none⟩) (by simp)).trans (by go_simp)
    have z2 : w.heap.size + 1 ≤ w2.heap.size := by have := hb2.size; simpa using this
    have hbw : Below w.heap.size w w2 := Below.trans (by repeat (first | (with_reducible exact Below.refl _ _) | (with_reducible assumption) | (with_reducible refine Below.drew ?_) | (with_reducible refine below_drewN ?_ _) | ((with_reducible refine below_alloc ?_ ?_); (focus (first | omega | (simp; done) | (simp; omega)))) | ((with_reducible refine below_set ?_ ?_); (focus (first | omega | (simp; done) | (simp; omega)))))) (hb2.mono (by simp))
    have hR := hidden (StrsM.rd HM.out)
    clear hb2
    go_wp2_with fail
    refine (HFt.out _ _ hR.out).mono ?_
    rintro r w3 ⟨rfl, rfl⟩
    go_wp2_with fail
    refine (HFr.out _ hbw).mono ?_
    rintro r w4 ⟨rfl, rfl⟩
    go_wp2
    go_ret2
    exact ⟨rfl, hbw⟩

set_option maxRecDepth 20000 in
set_option maxHeartbeats 8000000 in
theorem gram_whole (p : Nat) (a b c : Value) (g : Gram) (w : World) (H : Chk p a b c g D0 w) (s3 : g.prods.length ≤ 100000) :
    Calls Tryz.prog 48 #[.pointer (some ⟨p, 0, none⟩)] w (ChkOut p a b c g (wholeD g) w) := by
  have HH := hidden H
  have HOf := hidden (fun (w' : World) (h : Chk p a b c g D0 w') (r : Int) => gram_Of a b c g r w' h.old s3)
  obtain ⟨⟨A1, k1, rfl, v1, m1⟩, ⟨A2, k2, rfl, v2, m2⟩, ⟨A3, k3, rfl, v3, m3⟩⟩ := H.gram.vals
  have HBad := hidden (fun k at_ more (w' : World) (h : Chk p (.slice A1 g.toks.length k1) (.slice A2 g.rules.length k2) (.slice A3 g.prods.length k3) g D0 w') => gram_bad p _ _ _ g D0 k at_ more w' h)
  obtain ⟨x0, x1, x2, x3, x4, x5, x6, x7⟩ := H.cells
  have hl := H.lt
  have HW1 : Hid (g.start < 0 ∨ (g.rules.length : Int) ≤ g.start → wholeD g = ⟨11, -1, 0⟩) := hidden (fun h => by unfold wholeD startD; rw [if_pos h]; rfl)
  have HW2 : Hid (¬ (g.start < 0 ∨ (g.rules.length : Int) ≤ g.start) → wholeD g = firstD (noneD g) 0 g.rules.length) := hidden (fun h => by unfold wholeD startD; rw [if_neg h]; rfl)
  have HHit := hidden (fun k (h1 : k < g.rules.length) (h2 : (noneD g k).kind ≠ 0) (h3 : ∀ j, j < k → (noneD g j).kind = 0) => first0_hit (n := g.rules.length) h1 h2 h3)
  have HMis := hidden (fun (h3 : ∀ j, j < g.rules.length → (noneD g j).kind = 0) => first0_miss h3)
  generalize wholeD g = dd at *
  clear H x0 x2 x4 x5 x6 x7
  unfold maxLen at m2
  unfold gramCells at HOf
  by_cases h1 : g.start < 0 ∨ (g.rules.length : Int) ≤ g.start
  · have HD := hidden (HW1.out h1)
    have hcs : g.start < 0 ∨ (¬ g.start < 0 ∧ (g.rules.length : Int) ≤ g.start) := by omega
    clear h1 HW1 HW2 HHit HMis
    rcases hcs with h1 | ⟨h0, h1⟩
    all_goals
      go_enter Tryz.func48, Tryz.ntmps48
      go_wp2_with fail
      go_quiet (fail)
      go_wp2_with fail
      refine (HBad.out 11 _ _ _ (HH.out.drewN _)).mono ?_
      rintro r w5 ⟨rfl, HC5, hb5⟩
      have HF := hidden (ChkOut.mk_ (r := true) HD.out.symm (by rw [HD.out]; rfl) HC5 (((But.refl p w).drewN _).trans hb5))
      clear HC5 hb5
      go_wp2
      go_ret
      exact HF.out
  · have HD := hidden (HW2.out h1)
    obtain ⟨h1a, h1b⟩ : ¬ g.start < 0 ∧ ¬ (g.rules.length : Int) ≤ g.start := by omega
    clear h1 HW1 HW2
    go_enter Tryz.func48, Tryz.ntmps48
    go_wp2_with fail
    go_quiet (fail)
    have HC0 := hidden (HH.out.drewN nq)
    have HB0 := hidden ((But.refl p w).drewN nq)
    clear HH
    go_wp2
    go_loopw [32] (fun ii wr => ∃ k : Nat, k ≤ g.rules.length ∧ ii = .int .i64 k ∧ Hid (∀ j, j < k → (noneD g j).kind = 0) ∧ Hid (But p w wr) ∧ Hid (Chk p (.slice A1 g.toks.length k1) (.slice A2 g.rules.length k2) (.slice A3 g.prods.length k3) g D0 wr)) (fun ii _ => g.rules.length - (intOf ii).toNat)
    case atStart => exact ⟨0, by omega, rfl, hidden (fun j h => by omega), HB0, HC0⟩
    case round =>
      clear HB0 HC0 x1 x3
      obtain ⟨k, hk, rfl, HN, HB, HC⟩ := hrel
      by_cases hlt : k < g.rules.length
      · have hpr := HC.out.lt
        obtain ⟨x0, x1, x2, x3, x4, x5, x6, x7⟩ := HC.out.cells
        have HTD : Hid (noneD g k = if (ofRule g k).length = 0 then ⟨5, k, 0⟩ else D0) := hidden rfl
        have HHk := hidden (fun h2 => HHit.out k hlt h2 HN.out)
        have HNx : Hid ((noneD g k).kind = 0 → ∀ j, j < k + 1 → (noneD g j).kind = 0) := hidden (fun h j hj => by
          by_cases e : j = k
          · subst e; exact h
          · exact HN.out j (by omega))
        have HOk := hidden (HOf.out wr HC.out k)
        generalize ofRule g k = ro at *
        go_wp2_with fail
        refine HOk.out.mono ?_
        rintro r w3 ⟨⟨u, rfl, HM⟩, hb3⟩
        obtain ⟨Au, ku, rfl⟩ := Mine.value HM.out
        have HB3 := hidden (HB.out.next hb3)
        have HC3 := hidden (HC.out.next hb3)
        clear hb3 HB HC HM HOk x0 x1 x2 x3 x4 x5 x6 x7
        by_cases he : ro.length = 0
        · have HE : Hid (noneD g k = ⟨5, k, 0⟩) := hidden (by rw [HTD.out, if_pos he])
          have HD5 : Hid (dd = ⟨5, k, 0⟩) := hidden (by rw [HD.out, HHk.out (by rw [HE.out]; simp), HE.out])
          have qe : ((ro.length : Int) == 0) = true := by simp [he]
          clear HTD HHk HNx HE he HD
          go_wp2_with fail
          refine (HBad.out 5 _ _ _ HC3.out).mono ?_
          rintro r w5 ⟨rfl, HC5, hb5⟩
          have HF := hidden (ChkOut.mk_ (r := true) HD5.out.symm (by rw [HD5.out]; rfl) HC5 (HB3.out.trans hb5))
          clear HC5 hb5
          go_wp2
          go_ret
          exact HF.out
        · have HN2 := hidden (HNx.out (by rw [HTD.out, if_neg he]; rfl))
          have qe : ((ro.length : Int) == 0) = false := by simp [he]
          clear HTD HHk HNx HN
          go_wp2
          go_roundw
          case rel => exact ⟨k + 1, by omega, by go_num, HN2, HB3, HC3⟩
          case measure => simp [intOf]; omega
      · obtain rfl : k = g.rules.length := by omega
        have HE : Hid (dd = D0) := hidden (by rw [HD.out, HMis.out HN.out])
        have HF := hidden (ChkOut.mk_ (r := false) HE.out.symm (by rw [HE.out]; rfl) HC.out HB.out)
        clear HC HB HE
        go_wp2
        go_ret
        exact HF.out
end Go.Proofs.YtfmdmeokbbpmlaaGreat

namespace Go.Proofs.YtfmdmeokbbpmlaaGreat
open Go.RowKit Go.Shelf

theorem gram_at {w wr : World} {a b c : Value} {g : Gram} {p : Nat} (h : GramIs w (Old w) a b c g) (hb : Below w.heap.size w wr) (hp : w.heap.size ≤ p) : GramIs wr (fun k => k < p) a b c g :=
  have h' := h.below hb (fun _ h => h)
  ⟨h'.1.mono (fun _ hk => Nat.lt_of_lt_of_le hk hp), Rd.mono h'.2.1 (fun _ hk => Nat.lt_of_lt_of_le hk hp), h'.2.2.mono (fun _ hk => Nat.lt_of_lt_of_le hk hp)⟩
/-- The parts of what is wrong with a grammar, one behind the other. -/
noncomputable def stageD (g : Gram) : Nat → Defect
  | 0 => sizesOf g
  | 1 => firstD (tokD g) 0 g.toks.length
  | 2 => firstD (ruleD g) 0 g.rules.length
  | 3 => firstD (prodD g) 0 g.prods.length
  | _ => wholeD g
theorem stage_zero (g : Gram) (k : Nat) (h : (stageD g k).kind = 0) : stageD g k = D0 := by
  match k with
  | 0 => exact sizes_clean g h
  | 1 => exact firstD_clean _ _ h
  | 2 => exact firstD_clean _ _ h
  | 3 => exact firstD_clean _ _ h
  | _ + 4 => exact whole_clean g h
theorem check_stage {g : Gram} {k : Nat} (hk : k < 5) (h : (stageD g k).kind ≠ 0) (hn : ∀ j, j < k → (stageD g j).kind = 0) : checkOf g = stageD g k := by
  show orD (stageD g 0) (orD (stageD g 1) (orD (stageD g 2) (orD (stageD g 3) (stageD g 4)))) = _
  match k, hk with
  | 0, _ => exact orD_some h
  | 1, _ => rw [orD_zero (hn 0 (by omega))]; exact orD_some h
  | 2, _ => rw [orD_zero (hn 0 (by omega)), orD_zero (hn 1 (by omega))]; exact orD_some h
  | 3, _ => rw [orD_zero (hn 0 (by omega)), orD_zero (hn 1 (by omega)), orD_zero (hn 2 (by omega))]; exact orD_some h
  | 4, _ => rw [orD_zero (hn 0 (by omega)), orD_zero (hn 1 (by omega)), orD_zero (hn 2 (by omega)), orD_zero (hn 3 (by omega))]
theorem check_none {g : Gram} (hn : ∀ j, j < 5 → (stageD g j).kind = 0) : checkOf g = D0 := by
  show orD (stageD g 0) (orD (stageD g 1) (orD (stageD g 2) (orD (stageD g 3) (stageD g 4)))) = _
  rw [orD_zero (hn 0 (by omega)), orD_zero (hn 1 (by omega)), orD_zero (hn 2 (by omega)), orD_zero (hn 3 (by omega))]
  exact stage_zero g 4 (hn 4 (by omega))

set_option maxRecDepth 20000 in
set_option maxHeartbeats 8000000 in
theorem gram_Check (a b c : Value) (g : Gram) (w : World) (HG : GramIs w (Old w) a b c g) (s1 : g.toks.length ≤ 100000) (s2 : g.rules.length ≤ 100000) (s3 : g.prods.length ≤ 100000) (hz : Named g) :
    Calls Tryz.prog 21 #[.agg (gramCells a b c g)] w fun r w' => r = .returned (defC (checkOf g)) ∧ Below w.heap.size w w' := by
  obtain ⟨⟨A1, k1, rfl, v1, m1⟩, ⟨A2, k2, rfl, v2, m2⟩, ⟨A3, k3, rfl, v3, m3⟩⟩ := HG.vals
  obtain ⟨dd, hdd⟩ : ∃ dd, dd = checkOf g := ⟨_, rfl⟩
  rw [← hdd]
  have HC := hidden hdd
  clear hdd
  have HG0 := hidden HG
  have HCS := hidden (fun k (h1 : k < 5) h2 h3 => HC.out.trans (check_stage (g := g) h1 h2 h3))
  have HCN := hidden (fun h => HC.out.trans (check_none (g := g) h))
  have HM0 := hidden (fun p (w' : World) (h : Chk p (.slice A1 g.toks.length k1) (.slice A2 g.rules.length k2) (.slice A3 g.prods.length k3) g D0 w') => gram_sizes p _ _ _ g w' h s1 s2 s3)
  have HM1 := hidden (fun p (w' : World) (h : Chk p (.slice A1 g.toks.length k1) (.slice A2 g.rules.length k2) (.slice A3 g.prods.length k3) g D0 w') => gram_tokens p _ _ _ g w' h s1 hz)
  have HM2 := hidden (fun p (w' : World) (h : Chk p (.slice A1 g.toks.length k1) (.slice A2 g.rules.length k2) (.slice A3 g.prods.length k3) g D0 w') => gram_rules p _ _ _ g w' h s1 s2 hz)
  have HM3 := hidden (fun p (w' : World) (h : Chk p (.slice A1 g.toks.length k1) (.slice A2 g.rules.length k2) (.slice A3 g.prods.length k3) g D0 w') => gram_prods p _ _ _ g w' h )
  have HM4 := hidden (fun p (w' : World) (h : Chk p (.slice A1 g.toks.length k1) (.slice A2 g.rules.length k2) (.slice A3 g.prods.length k3) g D0 w') => gram_whole p _ _ _ g w' h s3)
  have hb := Below.refl w.heap.size w
  clear HG HC
  unfold gramCells at *
  go_enter Tryz.func21, Tryz.ntmps21
  go_wp2
  go_loopg [26] 5 (fun gh ii wr => ∃ k : Nat, k ≤ 5 ∧ gh = 5 - k ∧ ii = .int .i64 k ∧ Hid (∀ j, j < k → (stageD g j).kind = 0) ∧ Hid (Below w.heap.size w wr) ∧ Hid (Chk (w.heap.size + 1 + 1) (.slice A1 g.toks.length k1) (.slice A2 g.rules.length k2) (.slice A3 g.prods.length k3) g D0 wr)
    ∧ Hid (Holds wr (w.heap.size + 1) 35 #[.int .i64 0, .int .i64 0, .int .i64 0]) ∧ Hid (Holds wr (w.heap.size + 1 + 1 + 1) 89 #[.func (.func 44) #[.pointer (some ⟨w.heap.size + 1 + 1, 0, none⟩)] #[], .func (.func 45) #[.pointer (some ⟨w.heap.size + 1 + 1, 0, none⟩)] #[], .func (.func 46) #[.pointer (some ⟨w.heap.size + 1 + 1, 0, none⟩)] #[], .func (.func 47) #[.pointer (some ⟨w.heap.size + 1 + 1, 0, none⟩)] #[], .func (.func 48) #[.pointer (some ⟨w.heap.size + 1 + 1, 0, none⟩)] #[]]))
  case atStart => exact ⟨0, by omega, rfl, rfl, hidden (fun j h => by omega), hidden (by repeat (first | (with_reducible exact Below.refl _ _) | (with_reducible assumption) | (with_reducible refine Below.drew ?_) | (with_reducible refine below_drewN ?_ _) | ((with_reducible refine below_alloc ?_ ?_); (focus (first | omega | (simp; done) | (simp; omega)))) | ((with_reducible refine below_set ?_ ?_); (focus (first | omega | (simp; done) | (simp; omega)))))), hidden ⟨show Holds _ _ 87 #[.slice A1 g.toks.length k1, .slice A2 g.rules.length k2, .slice A3 g.prods.length k3, .int .i64 g.start, .int .i64 g.states, .int .i64 g.text, .int .i64 g.nodes, .int .i64 g.pairs, .int .i64 0, .int .i64 0, .int .i64 0] from (by repeat (first | (with_reducible assumption) | ((with_reducible refine holds_new ?_); (focus (first | rfl | (simp; done)))) | (with_reducible refine Holds.alloc ?_ _) | (with_reducible refine Holds.drew ?_))), gram_at HG0.out (by repeat (first | (with_reducible exact Below.refl _ _) | (with_reducible assumption) | (with_reducible refine Below.drew ?_) | (with_reducible refine below_drewN ?_ _) | ((with_reducible refine below_alloc ?_ ?_); (focus (first | omega | (simp; done) | (simp; omega)))) | ((with_reducible refine below_set ?_ ?_); (focus (first | omega | (simp; done) | (simp; omega)))))) (by omega)⟩, hidden (by repeat (first | (with_reducible assumption) | ((with_reducible refine holds_new ?_); (focus (first | rfl | (simp; done)))) | (with_reducible refine Holds.alloc ?_ _) | (with_reducible refine Holds.drew ?_))), hidden (by repeat (first | (with_reducible assumption) | ((with_reducible refine holds_new ?_); (focus (first | rfl | (simp; done)))) | (with_reducible refine Holds.alloc ?_ _) | (with_reducible refine Holds.drew ?_)))⟩
  case round =>
    clear hb HG0
    obtain ⟨k, hk, rfl, rfl, HN, HB, HK, HR, HL⟩ := hrel
    have hl3 := HL.out.lt
    obtain rfl | rfl | rfl | rfl | rfl | rfl : k = 0 ∨ k = 1 ∨ k = 2 ∨ k = 3 ∨ k = 4 ∨ k = 5 := by omega
    · have y0 : wr.cell? ⟨w.heap.size + 1 + 1 + 1, 0, none⟩ = some (.func (.func 44) #[.pointer (some ⟨w.heap.size + 1 + 1, 0, none⟩)] #[]) := HL.out.cell 0
      have HKa := hidden (HK.out.alloc (.cells #[.func (.func 44) #[.pointer (some ⟨w.heap.size + 1 + 1, 0, none⟩)] #[]] 89))
      have HRa := hidden (HR.out.alloc (.cells #[.func (.func 44) #[.pointer (some ⟨w.heap.size + 1 + 1, 0, none⟩)] #[]] 89))
      have HLa := hidden (HL.out.alloc (.cells #[.func (.func 44) #[.pointer (some ⟨w.heap.size + 1 + 1, 0, none⟩)] #[]] 89))
      have HBa := hidden (HB.out.alloc (Nat.le_trans (by omega) (Nat.le_of_lt hl3)) (.cells #[.func (.func 44) #[.pointer (some ⟨w.heap.size + 1 + 1, 0, none⟩)] #[]] 89))
      have HMk := hidden (HM0.out _ _ HKa.out)
      have HSk : Hid (stageD g 0 = sizesOf g) := hidden rfl
      rw [← HSk.out] at HMk
      have HCk := hidden (fun h2 => HCS.out 0 (by omega) h2 HN.out)
      have HNx : Hid ((stageD g 0).kind = 0 → ∀ j, j < 1 → (stageD g j).kind = 0) := hidden (fun h j hj => by
        by_cases e : j = 0
        · subst e; exact h
        · exact HN.out j (by omega))
      have HSz := hidden (stage_zero g 0)
      generalize stageD g 0 = sd at *
      clear HB HK HR HL
      go_wp2_with fail
      refine HMk.out.mono ?_
      rintro r w5 ⟨rfl, hC5, hB5⟩
      have HB5 := hidden (HBa.out.trans (hB5.below (by omega) (by simp; omega)))
      have HR5 := hidden (HRa.out.but hB5 (by omega))
      have HL5 := hidden (HLa.out.but hB5 (by omega))
      have HK5 := hidden hC5
      have hl5 := HL5.out.lt
      clear hC5 hB5 HMk HKa HRa HLa HBa y0
      by_cases he : sd.kind = 0
      · have q : decide (sd.kind ≠ 0) = false := by simp [he]
        rw [q]
        have HN2 := hidden (HNx.out he)
        obtain rfl := HSz.out he
        clear he HNx HSz HCk HSk q HN
        go_wp2
        go_roundg (5 - 1)
        case measure => omega
        case rel => exact ⟨1, by omega, rfl, rfl, HN2, HB5, HK5, HR5, HL5⟩
      · have q : decide (sd.kind ≠ 0) = true := by simp [he]
        rw [q]
        have HE : Hid (dd = ⟨sd.kind, sd.at_, sd.more⟩) := hidden (HCk.out he)
        obtain ⟨z0, z1, z2, z3, z4, z5⟩ := HK5.out.found
        obtain ⟨o0, o1, o2, f0, f1, f2⟩ := HR5.out.three
        have hbw := HB5.out
        clear he HNx HSz HCk HSk q HN HB5 HL5 HK5 HR5
        go_wp2
        exact bodyPost_ret (v := defC ⟨sd.kind, sd.at_, sd.more⟩) (by simp [results, Tryz.results21, go_sem, defC, o0, o1, o2]) rfl ⟨by first | rfl | rw [HE.out], (by repeat (first | (with_reducible exact Below.refl _ _) | (with_reducible assumption) | (with_reducible refine Below.drew ?_) | (with_reducible refine below_drewN ?_ _) | ((with_reducible refine below_alloc ?_ ?_); (focus (first | omega | (simp; done) | (simp; omega)))) | ((with_reducible refine below_set ?_ ?_); (focus (first | omega | (simp; done) | (simp; omega))))))⟩
    · have y0 : wr.cell? ⟨w.heap.size + 1 + 1 + 1, 1, none⟩ = some (.func (.func 45) #[.pointer (some ⟨w.heap.size + 1 + 1, 0, none⟩)] #[]) := HL.out.cell 1
      have HKa := hidden (HK.out.alloc (.cells #[.func (.func 45) #[.pointer (some ⟨w.heap.size + 1 + 1, 0, none⟩)] #[]] 89))
      have HRa := hidden (HR.out.alloc (.cells #[.func (.func 45) #[.pointer (some ⟨w.heap.size + 1 + 1, 0, none⟩)] #[]] 89))
      have HLa := hidden (HL.out.alloc (.cells #[.func (.func 45) #[.pointer (some ⟨w.heap.size + 1 + 1, 0, none⟩)] #[]] 89))
      have HBa := hidden (HB.out.alloc (Nat.le_trans (by omega) (Nat.le_of_lt hl3)) (.cells #[.func (.func 45) #[.pointer (some ⟨w.heap.size + 1 + 1, 0, none⟩)] #[]] 89))
      have HMk := hidden (HM1.out _ _ HKa.out)
      have HSk : Hid (stageD g 1 = firstD (tokD g) 0 g.toks.length) := hidden rfl
      rw [← HSk.out] at HMk
      have HCk := hidden (fun h2 => HCS.out 1 (by omega) h2 HN.out)
      have HNx : Hid ((stageD g 1).kind = 0 → ∀ j, j < 2 → (stageD g j).kind = 0) := hidden (fun h j hj => by
        by_cases e : j = 1
        · subst e; exact h
        · exact HN.out j (by omega))
      have HSz := hidden (stage_zero g 1)
      generalize stageD g 1 = sd at *
      clear HB HK HR HL
      go_wp2_with fail
      refine HMk.out.mono ?_
      rintro r w5 ⟨rfl, hC5, hB5⟩
      have HB5 := hidden (HBa.out.trans (hB5.below (by omega) (by simp; omega)))
      have HR5 := hidden (HRa.out.but hB5 (by omega))
      have HL5 := hidden (HLa.out.but hB5 (by omega))
      have HK5 := hidden hC5
      have hl5 := HL5.out.lt
      clear hC5 hB5 HMk HKa HRa HLa HBa y0
      by_cases he : sd.kind = 0
      · have q : decide (sd.kind ≠ 0) = false := by simp [he]
        rw [q]
        have HN2 := hidden (HNx.out he)
        obtain rfl := HSz.out he
        clear he HNx HSz HCk HSk q HN
        go_wp2
        go_roundg (5 - 2)
        case measure => omega
        case rel => exact ⟨2, by omega, rfl, rfl, HN2, HB5, HK5, HR5, HL5⟩
      · have q : decide (sd.kind ≠ 0) = true := by simp [he]
        rw [q]
        have HE : Hid (dd = ⟨sd.kind, sd.at_, sd.more⟩) := hidden (HCk.out he)
        obtain ⟨z0, z1, z2, z3, z4, z5⟩ := HK5.out.found
        obtain ⟨o0, o1, o2, f0, f1, f2⟩ := HR5.out.three
        have hbw := HB5.out
        clear he HNx HSz HCk HSk q HN HB5 HL5 HK5 HR5
        go_wp2
        exact bodyPost_ret (v := defC ⟨sd.kind, sd.at_, sd.more⟩) (by simp [results, Tryz.results21, go_sem, defC, o0, o1, o2]) rfl ⟨by first | rfl | rw [HE.out], (by repeat (first | (with_reducible exact Below.refl _ _) | (with_reducible assumption) | (with_reducible refine Below.drew ?_) | (with_reducible refine below_drewN ?_ _) | ((with_reducible refine below_alloc ?_ ?_); (focus (first | omega | (simp; done) | (simp; omega)))) | ((with_reducible refine below_set ?_ ?_); (focus (first | omega | (simp; done) | (simp; omega))))))⟩
    · have y0 : wr.cell? ⟨w.heap.size + 1 + 1 + 1, 2, none⟩ = some (.func (.func 46) #[.pointer (some ⟨w.heap.size + 1 + 1, 0, none⟩)] #[]) := HL.out.cell 2
      have HKa := hidden (HK.out.alloc (.cells #[.func (.func 46) #[.pointer (some ⟨w.heap.size + 1 + 1, 0, none⟩)] #[]] 89))
      have HRa := hidden (HR.out.alloc (.cells #[.func (.func 46) #[.pointer (some ⟨w.heap.size + 1 + 1, 0, none⟩)] #[]] 89))
      have HLa := hidden (HL.out.alloc (.cells #[.func (.func 46) #[.pointer (some ⟨w.heap.size + 1 + 1, 0, none⟩)] #[]] 89))
      have HBa := hidden (HB.out.alloc (Nat.le_trans (by omega) (Nat.le_of_lt hl3)) (.cells #[.func (.func 46) #[.pointer (some ⟨w.heap.size + 1 + 1, 0, none⟩)] #[]] 89))
      have HMk := hidden (HM2.out _ _ HKa.out)
      have HSk : Hid (stageD g 2 = firstD (ruleD g) 0 g.rules.length) := hidden rfl
      rw [← HSk.out] at HMk
      have HCk := hidden (fun h2 => HCS.out 2 (by omega) h2 HN.out)
      have HNx : Hid ((stageD g 2).kind = 0 → ∀ j, j < 3 → (stageD g j).kind = 0) := hidden (fun h j hj => by
        by_cases e : j = 2
        · subst e; exact h
        · exact HN.out j (by omega))
      have HSz := hidden (stage_zero g 2)
      generalize stageD g 2 = sd at *
      clear HB HK HR HL
      go_wp2_with fail
      refine HMk.out.mono ?_
      rintro r w5 ⟨rfl, hC5, hB5⟩
      have HB5 := hidden (HBa.out.trans (hB5.below (by omega) (by simp; omega)))
      have HR5 := hidden (HRa.out.but hB5 (by omega))
      have HL5 := hidden (HLa.out.but hB5 (by omega))
      have HK5 := hidden hC5
      have hl5 := HL5.out.lt
      clear hC5 hB5 HMk HKa HRa HLa HBa y0
      by_cases he : sd.kind = 0
      · have q : decide (sd.kind ≠ 0) = false := by simp [he]
        rw [q]
        have HN2 := hidden (HNx.out he)
        obtain rfl := HSz.out he
        clear he HNx HSz HCk HSk q HN
        go_wp2
        go_roundg (5 - 3)
        case measure => omega
        case rel => exact ⟨3, by omega, rfl, rfl, HN2, HB5, HK5, HR5, HL5⟩
      · have q : decide (sd.kind ≠ 0) = true := by simp [he]
        rw [q]
        have HE : Hid (dd = ⟨sd.kind, sd.at_, sd.more⟩) := hidden (HCk.out he)
        obtain ⟨z0, z1, z2, z3, z4, z5⟩ := HK5.out.found
        obtain ⟨o0, o1, o2, f0, f1, f2⟩ := HR5.out.three
        have hbw := HB5.out
        clear he HNx HSz HCk HSk q HN HB5 HL5 HK5 HR5
        go_wp2
        exact bodyPost_ret (v := defC ⟨sd.kind, sd.at_, sd.more⟩) (by simp [results, Tryz.results21, go_sem, defC, o0, o1, o2]) rfl ⟨by first | rfl | rw [HE.out], (by repeat (first | (with_reducible exact Below.refl _ _) | (with_reducible assumption) | (with_reducible refine Below.drew ?_) | (with_reducible refine below_drewN ?_ _) | ((with_reducible refine below_alloc ?_ ?_); (focus (first | omega | (simp; done) | (simp; omega)))) | ((with_reducible refine below_set ?_ ?_); (focus (first | omega | (simp; done) | (simp; omega))))))⟩
    · have y0 : wr.cell? ⟨w.heap.size + 1 + 1 + 1, 3, none⟩ = some (.func (.func 47) #[.pointer (some ⟨w.heap.size + 1 + 1, 0, none⟩)] #[]) := HL.out.cell 3
      have HKa := hidden (HK.out.alloc (.cells #[.func (.func 47) #[.pointer (some ⟨w.heap.size + 1 + 1, 0, none⟩)] #[]] 89))
      have HRa := hidden (HR.out.alloc (.cells #[.func (.func 47) #[.pointer (some ⟨w.heap.size + 1 + 1, 0, none⟩)] #[]] 89))
      have HLa := hidden (HL.out.alloc (.cells #[.func (.func 47) #[.pointer (some ⟨w.heap.size + 1 + 1, 0, none⟩)] #[]] 89))
      have HBa := hidden (HB.out.alloc (Nat.le_trans (by omega) (Nat.le_of_lt hl3)) (.cells #[.func (.func 47) #[.pointer (some ⟨w.heap.size + 1 + 1, 0, none⟩)] #[]] 89))
      have HMk := hidden (HM3.out _ _ HKa.out)
      have HSk : Hid (stageD g 3 = firstD (prodD g) 0 g.prods.length) := hidden rfl
      rw [← HSk.out] at HMk
      have HCk := hidden (fun h2 => HCS.out 3 (by omega) h2 HN.out)
      have HNx : Hid ((stageD g 3).kind = 0 → ∀ j, j < 4 → (stageD g j).kind = 0) := hidden (fun h j hj => by
        by_cases e : j = 3
        · subst e; exact h
        · exact HN.out j (by omega))
      have HSz := hidden (stage_zero g 3)
      generalize stageD g 3 = sd at *
      clear HB HK HR HL
      go_wp2_with fail
      refine HMk.out.mono ?_
      rintro r w5 ⟨rfl, hC5, hB5⟩
      have HB5 := hidden (HBa.out.trans (hB5.below (by omega) (by simp; omega)))
      have HR5 := hidden (HRa.out.but hB5 (by omega))
      have HL5 := hidden (HLa.out.but hB5 (by omega))
      have HK5 := hidden hC5
      have hl5 := HL5.out.lt
      clear hC5 hB5 HMk HKa HRa HLa HBa y0
      by_cases he : sd.kind = 0
      · have q : decide (sd.kind ≠ 0) = false := by simp [he]
        rw [q]
        have HN2 := hidden (HNx.out he)
        obtain rfl := HSz.out he
        clear he HNx HSz HCk HSk q HN
        go_wp2
        go_roundg (5 - 4)
        case measure => omega
        case rel => exact ⟨4, by omega, rfl, rfl, HN2, HB5, HK5, HR5, HL5⟩
      · have q : decide (sd.kind ≠ 0) = true := by simp [he]
        rw [q]
        have HE : Hid (dd = ⟨sd.kind, sd.at_, sd.more⟩) := hidden (HCk.out he)
        obtain ⟨z0, z1, z2, z3, z4, z5⟩ := HK5.out.found
        obtain ⟨o0, o1, o2, f0, f1, f2⟩ := HR5.out.three
        have hbw := HB5.out
        clear he HNx HSz HCk HSk q HN HB5 HL5 HK5 HR5
        go_wp2
        exact bodyPost_ret (v := defC ⟨sd.kind, sd.at_, sd.more⟩) (by simp [results, Tryz.results21, go_sem, defC, o0, o1, o2]) rfl ⟨by first | rfl | rw [HE.out], (by repeat (first | (with_reducible exact Below.refl _ _) | (with_reducible assumption) | (with_reducible refine Below.drew ?_) | (with_reducible refine below_drewN ?_ _) | ((with_reducible refine below_alloc ?_ ?_); (focus (first | omega | (simp; done) | (simp; omega)))) | ((with_reducible refine below_set ?_ ?_); (focus (first | omega | (simp; done) | (simp; omega))))))⟩
    · have y0 : wr.cell? ⟨w.heap.size + 1 + 1 + 1, 4, none⟩ = some (.func (.func 48) #[.pointer (some ⟨w.heap.size + 1 + 1, 0, none⟩)] #[]) := HL.out.cell 4
      have HKa := hidden (HK.out.alloc (.cells #[.func (.func 48) #[.pointer (some ⟨w.heap.size + 1 + 1, 0, none⟩)] #[]] 89))
      have HRa := hidden (HR.out.alloc (.cells #[.func (.func 48) #[.pointer (some ⟨w.heap.size + 1 + 1, 0, none⟩)] #[]] 89))
      have HLa := hidden (HL.out.alloc (.cells #[.func (.func 48) #[.pointer (some ⟨w.heap.size + 1 + 1, 0, none⟩)] #[]] 89))
      have HBa := hidden (HB.out.alloc (Nat.le_trans (by omega) (Nat.le_of_lt hl3)) (.cells #[.func (.func 48) #[.pointer (some ⟨w.heap.size + 1 + 1, 0, none⟩)] #[]] 89))
      have HMk := hidden (HM4.out _ _ HKa.out)
      have HSk : Hid (stageD g 4 = wholeD g) := hidden rfl
      rw [← HSk.out] at HMk
      have HCk := hidden (fun h2 => HCS.out 4 (by omega) h2 HN.out)
      have HNx : Hid ((stageD g 4).kind = 0 → ∀ j, j < 5 → (stageD g j).kind = 0) := hidden (fun h j hj => by
        by_cases e : j = 4
        · subst e; exact h
        · exact HN.out j (by omega))
      have HSz := hidden (stage_zero g 4)
      generalize stageD g 4 = sd at *
      clear HB HK HR HL
      go_wp2_with fail
      refine HMk.out.mono ?_
      rintro r w5 ⟨rfl, hC5, hB5⟩
      have HB5 := hidden (HBa.out.trans (hB5.below (by omega) (by simp; omega)))
      have HR5 := hidden (HRa.out.but hB5 (by omega))
      have HL5 := hidden (HLa.out.but hB5 (by omega))
      have HK5 := hidden hC5
      have hl5 := HL5.out.lt
      clear hC5 hB5 HMk HKa HRa HLa HBa y0
      by_cases he : sd.kind = 0
      · have q : decide (sd.kind ≠ 0) = false := by simp [he]
        rw [q]
        have HN2 := hidden (HNx.out he)
        obtain rfl := HSz.out he
        clear he HNx HSz HCk HSk q HN
        go_wp2
        go_roundg (5 - 5)
        case measure => omega
        case rel => exact ⟨5, by omega, rfl, rfl, HN2, HB5, HK5, HR5, HL5⟩
      · have q : decide (sd.kind ≠ 0) = true := by simp [he]
        rw [q]
        have HE : Hid (dd = ⟨sd.kind, sd.at_, sd.more⟩) := hidden (HCk.out he)
        obtain ⟨z0, z1, z2, z3, z4, z5⟩ := HK5.out.found
        obtain ⟨o0, o1, o2, f0, f1, f2⟩ := HR5.out.three
        have hbw := HB5.out
        clear he HNx HSz HCk HSk q HN HB5 HL5 HK5 HR5
        go_wp2
        exact bodyPost_ret (v := defC ⟨sd.kind, sd.at_, sd.more⟩) (by simp [results, Tryz.results21, go_sem, defC, o0, o1, o2]) rfl ⟨by first | rfl | rw [HE.out], (by repeat (first | (with_reducible exact Below.refl _ _) | (with_reducible assumption) | (with_reducible refine Below.drew ?_) | (with_reducible refine below_drewN ?_ _) | ((with_reducible refine below_alloc ?_ ?_); (focus (first | omega | (simp; done) | (simp; omega)))) | ((with_reducible refine below_set ?_ ?_); (focus (first | omega | (simp; done) | (simp; omega))))))⟩
    · have HE : Hid (dd = ⟨0, 0, 0⟩) := hidden (HCN.out HN.out)
      obtain ⟨z0, z1, z2, z3, z4, z5⟩ := HK.out.found
      obtain ⟨o0, o1, o2, f0, f1, f2⟩ := HR.out.three
      have hbw := HB.out
      clear HN HB HL HK HR
      go_wp2
      exact bodyPost_ret (v := defC ⟨0, 0, 0⟩) (by simp [results, Tryz.results21, go_sem, defC, o0, o1, o2, D0]) rfl ⟨by first | rfl | rw [HE.out], (by repeat (first | (with_reducible exact Below.refl _ _) | (with_reducible assumption) | (with_reducible refine Below.drew ?_) | (with_reducible refine below_drewN ?_ _) | ((with_reducible refine below_alloc ?_ ?_); (focus (first | omega | (simp; done) | (simp; omega)))) | ((with_reducible refine below_set ?_ ?_); (focus (first | omega | (simp; done) | (simp; omega))))))⟩

end Go.Proofs.YtfmdmeokbbpmlaaGreat
