/-
  gram: names, bad, named, item.
-/
import Derived.Test.YtaagkbgbghleiaaGramProd
import Derived.StillTailTactics
namespace Go.Proofs.Ytaagkbgbghleiaa
open Go.RowKit Go.Shelf

theorem below_drewN {B : Nat} {a w : World} (h : Below B a w) (n : Nat) : Below B a (w.drewN n) := ⟨h.os, h.tape, h.output, h.size, h.block⟩
/-- W' is W, but for new blocks and for block p. -/
structure But (p : Nat) (w w' : World) : Prop where
  os : w'.os = w.os
  tape : w'.tape = w.tape
  output : w'.output = w.output
  size : w.heap.size ≤ w'.heap.size
  block : ∀ k, k < w.heap.size → k ≠ p → w'.heap[k]? = w.heap[k]?
section
variable {p : Nat} {w w' w'' : World}
theorem But.refl (p : Nat) (w : World) : But p w w := ⟨rfl, rfl, rfl, Nat.le_refl _, fun _ _ _ => rfl⟩
theorem But.of_below (h : Below w.heap.size w w') : But p w w' := ⟨h.os, h.tape, h.output, h.size, fun k hk _ => h.block k hk⟩
theorem But.trans (h : But p w w') (k : But p w' w'') : But p w w'' :=
  ⟨k.os.trans h.os, k.tape.trans h.tape, k.output.trans h.output, Nat.le_trans h.size k.size, fun i hi hn => (k.block i (Nat.lt_of_lt_of_le hi h.size) hn).trans (h.block i hi hn)⟩
theorem But.next (h : But p w w') (k : Below w'.heap.size w' w'') : But p w w'' := h.trans (But.of_below k)
theorem But.set (h : But p w w') (i : Nat) (v : Value) : But p w (w'.setCell ⟨p, i, none⟩ v) :=
  h.trans ⟨rfl, rfl, rfl, by simp [World.setCell], fun k _ hn => Below.heap_setCell _ _ _ _ hn⟩
theorem But.below (h : But p w w') {B : Nat} (hB : B ≤ p) (hs : B ≤ w.heap.size) : Below B w w' := ⟨h.os, h.tape, h.output, h.size, fun k hk => h.block k (by omega) (by omega)⟩
theorem Holds.but {q : Nat} {t : TypeId} {cs : Array Value} (h : Holds w q t cs) (hb : But p w w') (hq : q ≠ p) : Holds w' q t cs := (hb.block q h.lt hq).trans h
theorem But.keeps (h : But p w w') : Keeps (fun k => k < p) w w' := ⟨h.size, fun k hk hl => h.block k hl (by omega)⟩
theorem But.frees {q : Nat} (h : But p w w') (hq : w.heap.size ≤ q) (hp : p = q) : Below w.heap.size w w' := ⟨h.os, h.tape, h.output, h.size, fun k hk => h.block k hk (by omega)⟩
end

/-- The cells of a check: its grammar, and what is wrong. -/
def chkCells (a b c : Value) (g : Gram) (d : Defect) : Array Value :=
  #[a, b, c, .int .i64 g.start, .int .i64 g.states, .int .i64 g.text, .int .i64 g.nodes, .int .i64 g.pairs, .int .i64 d.kind, .int .i64 d.at_, .int .i64 d.more]
/-- A check in block p, that has found d. -/
structure Chk (p : Nat) (a b c : Value) (g : Gram) (d : Defect) (w : World) : Prop where
  at_ : Holds w p 83 (chkCells a b c g d)
  gram : GramIs w (fun k => k < p) a b c g
section
variable {p : Nat} {a b c : Value} {g : Gram} {d : Defect} {w w' : World}
theorem Chk.next (h : Chk p a b c g d w) (hb : Below w.heap.size w w') : Chk p a b c g d w' := ⟨h.at_.below hb h.at_.lt, h.gram.keeps ⟨hb.size, fun k _ hl => hb.block k hl⟩⟩
theorem Chk.cells (h : Chk p a b c g d w) : w.cell? ⟨p, 0, none⟩ = some a ∧ w.cell? ⟨p, 1, none⟩ = some b ∧ w.cell? ⟨p, 2, none⟩ = some c ∧ w.cell? ⟨p, 3, none⟩ = some (.int .i64 g.start) ∧ w.cell? ⟨p, 4, none⟩ = some (.int .i64 g.states) ∧ w.cell? ⟨p, 5, none⟩ = some (.int .i64 g.text) ∧ w.cell? ⟨p, 6, none⟩ = some (.int .i64 g.nodes) ∧ w.cell? ⟨p, 7, none⟩ = some (.int .i64 g.pairs) :=
  ⟨h.at_.cell 0, h.at_.cell 1, h.at_.cell 2, h.at_.cell 3, h.at_.cell 4, h.at_.cell 5, h.at_.cell 6, h.at_.cell 7⟩
theorem Chk.found (h : Chk p a b c g d w) : w.cell? ⟨p, 8, none⟩ = some (.int .i64 d.kind) ∧ w.cell? ⟨p, 9, none⟩ = some (.int .i64 d.at_) ∧ w.cell? ⟨p, 10, none⟩ = some (.int .i64 d.more) ∧ w.frozen? ⟨p, 8, none⟩ = false ∧ w.frozen? ⟨p, 9, none⟩ = false ∧ w.frozen? ⟨p, 10, none⟩ = false :=
  ⟨h.at_.cell 8, h.at_.cell 9, h.at_.cell 10, h.at_.frozen 8, h.at_.frozen 9, h.at_.frozen 10⟩
theorem Chk.lt (h : Chk p a b c g d w) : p < w.heap.size := h.at_.lt
theorem Chk.put (h : Chk p a b c g d w) (e : Defect) : Chk p a b c g e (((w.setCell ⟨p, 8, none⟩ (.int .i64 e.kind)).setCell ⟨p, 9, none⟩ (.int .i64 e.at_)).setCell ⟨p, 10, none⟩ (.int .i64 e.more)) :=
  ⟨Holds.of_eq (holds_set (holds_set (holds_set h.at_))) (by rfl), h.gram.keeps ((((But.refl p w).set 8 _).set 9 _).set 10 _).keeps⟩
theorem Chk.old (h : Chk p a b c g d w) : GramIs w (Old w) a b c g :=
  ⟨h.gram.1.mono (fun _ hk => Nat.lt_trans hk h.lt), Rd.mono h.gram.2.1 (fun _ hk => Nat.lt_trans hk h.lt), h.gram.2.2.mono (fun _ hk => Nat.lt_trans hk h.lt)⟩
end

set_option maxRecDepth 20000 in
set_option maxHeartbeats 2000000 in
theorem gram_bad (p : Nat) (a b c : Value) (g : Gram) (d : Defect) (k at_ more : Int) (w : World) (H : Chk p a b c g d w) :
    Calls Try.prog 105 #[.pointer (some ⟨p, 0, none⟩), .int .i64 k, .int .i64 at_, .int .i64 more] w fun e w' => e = .returned (.bool true) ∧ Chk p a b c g ⟨k, at_, more⟩ w' ∧ But p w w' := by
  obtain ⟨x0, x1, x2, x3, x4, x5⟩ := H.found
  have HP := hidden (H.put ⟨k, at_, more⟩)
  have HB := hidden ((((But.refl p w).set 8 (.int .i64 k)).set 9 (.int .i64 at_)).set 10 (.int .i64 more))
  have hl := H.lt
  clear H
  go_enter Try.func105, Try.ntmps105
  go_wp2
  go_ret
  exact ⟨rfl, HP.out, HB.out⟩

set_option maxRecDepth 20000 in
set_option maxHeartbeats 2000000 in
theorem gram_named (p : Nat) (a b c : Value) (g : Gram) (d : Defect) (s : ByteArray) (v : Value) (l : List ByteArray) (at_ : Int) (w : World) (H : Chk p a b c g d w) (T : Nat → Prop) (hR : Strs w T v l) (hT : ∀ k, T k → k < w.heap.size) (hs : s.size ≤ maxLen) :
    Calls Try.prog 106 #[.pointer (some ⟨p, 0, none⟩), .string s, v, .int .i64 at_] w fun e w' => e = .returned (.bool (decide (nameErr s l ≠ 0))) ∧ Chk p a b c g (if nameErr s l ≠ 0 then ⟨nameErr s l, at_, 0⟩ else d) w' ∧ But p w w' := by
  have HN := hidden (word_name s w hs)
  have HB := hidden (fun k (w' : World) (hb : Below w.heap.size w w') => gram_bad p a b c g d k at_ 0 w' (H.next hb))
  have HF := hidden (fun (w' : World) (hb : Below w.heap.size w w') => word_find v l s T w' (Rd.below hR hb hT))
  have HH := hidden H
  have HM := hidden (find_mem l s)
  obtain ⟨A, k, rfl, hc1, hc2⟩ := hR.val
  unfold nameErr
  generalize nameB s = nb at *
  generalize findOf l s = f at *
  clear H hR
  cases nb
  · simp only [if_true, ne_eq, Int.reduceEq, not_false_eq_true, decide_true]
    go_enter Try.func106, Try.ntmps106
    go_wp2_with fail
    refine HN.out.mono ?_
    rintro r w1 ⟨rfl, hb1⟩
    go_wp2_with fail
    refine (HB.out 7 _ hb1).mono ?_
    rintro r w2 ⟨rfl, HC, hb2⟩
    have HC2 := hidden HC
    clear HC
    have HB2 := hidden ((But.of_below hb1).trans hb2)
    clear hb1 hb2
    go_wp2
    go_ret
    exact ⟨rfl, HC2.out, HB2.out⟩
  · simp only [Bool.true_eq_false, if_false]
    by_cases hm : s ∈ l
    · have q := HM.out.2 hm
      rw [holdsB_true hm]
      simp only [if_true, ne_eq, Int.reduceEq, not_false_eq_true, decide_true]
      clear hm
      go_enter Try.func106, Try.ntmps106
      go_wp2_with fail
      refine HN.out.mono ?_
      rintro r w1 ⟨rfl, hb1⟩
      go_wp2_with fail
      refine (HF.out _ hb1).mono ?_
      rintro r w' ⟨rfl, rfl⟩
      go_wp2_with fail
      refine (HB.out 8 _ hb1).mono ?_
      rintro r w2 ⟨rfl, HC, hb2⟩
      have HC2 := hidden HC
      clear HC
      have HB2 := hidden ((But.of_below hb1).trans hb2)
      clear hb1 hb2
      go_wp2
      go_ret
      exact ⟨rfl, HC2.out, HB2.out⟩
    · have q : ¬ 0 ≤ f := fun h => hm (HM.out.1 h)
      rw [holdsB_false hm]
      simp only [Bool.false_eq_true, if_false, ne_eq, not_true, decide_false]
      clear hm
      go_enter Try.func106, Try.ntmps106
      go_wp2_with fail
      refine HN.out.mono ?_
      rintro r w1 ⟨rfl, hb1⟩
      go_wp2_with fail
      refine (HF.out _ hb1).mono ?_
      rintro r w' ⟨rfl, rfl⟩
      have HC2 := hidden (HH.out.next hb1)
      go_wp2
      go_ret
      exact ⟨rfl, HC2.out, But.of_below hb1⟩

set_option maxRecDepth 20000 in
set_option maxHeartbeats 4000000 in
theorem gram_names (a : Value) (g : Gram) (w : World) (HG : Recs tokR w (Old w) a g.toks) (h1 : g.toks.length ≤ 100000) :
    Calls Try.prog 77 #[a] w fun r w' => (∃ u, r = .returned u ∧ Hid (StrsM w' w.heap.size u (tokNames g))) ∧ Below w.heap.size w w' := by
  have HGo := hidden (fun (w' : World) (hb : Below w.heap.size w w') => HG.old hb)
  obtain ⟨A1, k1, rfl, v1, m1⟩ := HG.value
  have HL1 := hidden (tokNames_len g)
  have hb := Below.refl w.heap.size w
  clear HG
  unfold maxLen at m1
  go_enter Try.func77, Try.ntmps77
  go_wp2
  go_loopw [3, 8] (fun vv ii wr => ∃ k : Nat, k ≤ g.toks.length ∧ ii = .int .i64 k ∧ Hid (StrsM wr w.heap.size vv ((tokNames g).take k)) ∧ Below w.heap.size w wr) (fun _ ii _ => g.toks.length - (intOf ii).toNat)
  case atStart => exact ⟨0, by omega, rfl, hidden (Mine.nil _ _ _ _), hb⟩
  case round =>
    clear hb
    obtain ⟨k, hk, rfl, HM, hb⟩ := hrel
    have hbz := hb.size
    by_cases hlt : k < g.toks.length
    · have hx := List.getElem?_eq_getElem hlt
      generalize g.toks[k] = t at *
      obtain ⟨b1, o1, l1, rfl, hT, hat, hin⟩ := (HGo.out _ hb).at_ hx
      obtain ⟨A4, k4, rfl, _, _⟩ := hin.val
      have hT : b1 < wr.heap.size := hT
      have y0 := hat 0 _ rfl
      have y1 := hat 1 _ rfl
      have y2 := hat 2 _ rfl
      rw [Nat.add_zero] at y0
      rw [show tokR.k = 3 from rfl] at y0 y1 y2
      have HX := hidden (take_snoc_at (tokNames_at hx))
      have HM2 := hidden (HM.out.alloc (.cells #[.string t.name, .slice A4 (tokR.m t) k4, .int .i64 t.cls] 47))
      have hb2 := hb.alloc (Nat.le_trans (Nat.le_refl _) hbz) (.cells #[.string t.name, .slice A4 (tokR.m t) k4, .int .i64 t.cls] 47)
      clear hat hx hin HM hb
      go_wp2_with (at_builtin; refine wpList_append_str rfl _ _ rfl w.heap.size _ _ HM2 t.name rfl rfl rfl (by simp) (by rw [List.length_take]; omega) (by simp; omega) ?_; intro v' w' hA hb3 hK)
      go_roundw
      case rel => exact ⟨k + 1, by omega, by go_num, by rw [HX.out] at hA; exact hA, hb2.trans hb3⟩
      case measure => simp [intOf]; omega
    · obtain rfl : k = g.toks.length := by omega
      have HM1 : Hid (StrsM wr w.heap.size u3 (tokNames g)) := hidden (by
        have := HM.out
        rwa [List.take_of_length_le (by rw [HL1.out]; omega)] at this)
      clear HM
      go_wp2
      go_ret
      exact ⟨⟨_, rfl, HM1⟩, hb⟩
end Go.Proofs.Ytaagkbgbghleiaa
