/-
  The rule that a node is of: derive.Rule, facsimileref30.Rule.
-/
import Derived.Test.YtmmhkjdnejeooaaDeriveA
import Derived.Deep.Quiet
namespace Go.Proofs.Ytmmhkjdnejeooaa.T
open Go.RowKit Go.Shelf

theorem eightR {w : World} {p : Nat} {t : TypeId} {a b c d e f k h : Value} (H : Holds w p t #[a, b, c, d, e, f, k, h]) : w.cell? ⟨p, 0, none⟩ = some a ∧ w.cell? ⟨p, 1, none⟩ = some b ∧ w.cell? ⟨p, 2, none⟩ = some c ∧ w.cell? ⟨p, 3, none⟩ = some d ∧ w.cell? ⟨p, 4, none⟩ = some e ∧ w.cell? ⟨p, 5, none⟩ = some f ∧ w.cell? ⟨p, 6, none⟩ = some k ∧ w.cell? ⟨p, 7, none⟩ = some h := ⟨H.cell 0, H.cell 1, H.cell 2, H.cell 3, H.cell 4, H.cell 5, H.cell 6, H.cell 7⟩

set_option maxRecDepth 20000 in
set_option maxHeartbeats 8000000 in
theorem derive_Rule (a b c l : Value) (g : Gram) (x : Node) (w : World) (HG : GramIs w (Old w) a b c g) (hsm : Small g) :
    Calls Try.prog 14 #[.agg (gramCells a b c g), .agg (ndV x l)] w fun r w' => r = .returned (.int .i64 (ruleOf g x)) ∧ Below w.heap.size w w' := by
  have HRt := hidden (fun (w' : World) (hb : Below w.heap.size w w') => gram_Right a b c g w' (HG.old hb) hsm.toks hsm.rules hsm.prods hsm.names)
  have HG2 := hidden HG
  obtain ⟨⟨A1, k1, rfl, v1, m1⟩, ⟨A2, k2, rfl, v2, m2⟩, ⟨A3, k3, rfl, v3, m3⟩⟩ := HG.vals
  have hE : Hid (ruleOf g x = if rightB g = true then ruleD g x else -1) := hidden rfl
  have hM := hidden (fun (n : Nat) (p : Prod) => @ruleD_made g x n p)
  have hO := hidden (@ruleD_out g x)
  have hN := hidden (@ruleD_norule g x)
  generalize ruleOf g x = res at *
  generalize ruleD g x = rd at *
  obtain ⟨kd, n, sz_, ld, tx⟩ := x
  unfold ndV gramCells at *
  unfold maxLen at m1 m2 m3
  dsimp only at *
  have hb1 : Below w.heap.size w ((w.alloc (.cells #[.slice A1 g.toks.length k1, .slice A2 g.rules.length k2, .slice A3 g.prods.length k3, .int .i64 g.start, .int .i64 g.states, .int .i64 g.text, .int .i64 g.nodes, .int .i64 g.pairs] 26)).alloc (.cells #[.int .i64 kd, .int .i64 n, .int .i64 sz_, l, .string tx] 37)) := ((Below.refl _ _).alloc (Nat.le_refl _) _).alloc (by simp) _
  have HB1 : Hid (Holds ((w.alloc (.cells #[.slice A1 g.toks.length k1, .slice A2 g.rules.length k2, .slice A3 g.prods.length k3, .int .i64 g.start, .int .i64 g.states, .int .i64 g.text, .int .i64 g.nodes, .int .i64 g.pairs] 26)).alloc (.cells #[.int .i64 kd, .int .i64 n, .int .i64 sz_, l, .string tx] 37)) w.heap.size 26 #[.slice A1 g.toks.length k1, .slice A2 g.rules.length k2, .slice A3 g.prods.length k3, .int .i64 g.start, .int .i64 g.states, .int .i64 g.text, .int .i64 g.nodes, .int .i64 g.pairs]) := hidden (by repeat (first | (with_reducible assumption) | ((with_reducible refine holds_new ?_); (focus (first | rfl | (simp; done)))) | (with_reducible refine Holds.alloc ?_ _) | (with_reducible refine Holds.drew ?_)))
  have HB2 : Hid (Holds ((w.alloc (.cells #[.slice A1 g.toks.length k1, .slice A2 g.rules.length k2, .slice A3 g.prods.length k3, .int .i64 g.start, .int .i64 g.states, .int .i64 g.text, .int .i64 g.nodes, .int .i64 g.pairs] 26)).alloc (.cells #[.int .i64 kd, .int .i64 n, .int .i64 sz_, l, .string tx] 37)) (w.heap.size + 1) 37 #[.int .i64 kd, .int .i64 n, .int .i64 sz_, l, .string tx]) := hidden (Holds.new_at (by simp))
  clear HG hsm
  go_enter Try.func14, Try.ntmps14
  go_upto_region 1 with fail
  generalize ((w.alloc (.cells #[.slice A1 g.toks.length k1, .slice A2 g.rules.length k2, .slice A3 g.prods.length k3, .int .i64 g.start, .int .i64 g.states, .int .i64 g.text, .int .i64 g.nodes, .int .i64 g.pairs] 26)).alloc (.cells #[.int .i64 kd, .int .i64 n, .int .i64 sz_, l, .string tx] 37)) = w1 at *
  obtain ⟨x0, x1, x2, x3, x4, x5, x6, x7⟩ := eightR HB1.out
  have y0 := HB2.out.cell 0; have y1 := HB2.out.cell 1
  have HX := hidden (HRt.out _ hb1)
  go_wp2_with fail
  refine HX.out.mono ?_
  rintro r w2 ⟨rfl, hb2⟩
  replace HB1 := hidden (HB1.out.below hb2 HB1.out.lt)
  replace HB2 := hidden (HB2.out.below hb2 HB2.out.lt)
  replace hb1 := hb1.trans (hb2.mono hb1.size)
  clear x0 x1 x2 x3 x4 x5 x6 x7 y0 y1 hb2 HRt HX
  obtain ⟨x0, x1, x2, x3, x4, x5, x6, x7⟩ := eightR HB1.out
  have y0 := HB2.out.cell 0; have y1 := HB2.out.cell 1
  cases hr : rightB g
  · have he : Hid (res = -1) := hidden (by rw [hE.out, hr, if_neg Bool.false_ne_true])
    clear hE hM hO hN
    go_wp2
    go_ret
    exact ⟨by rw [he.out]; rfl, hb1⟩
  · by_cases h0 : n < 0
    · have he : Hid (res = -1) := hidden (by rw [hE.out, if_pos hr, hO.out (fun _ => .inl h0) (fun _ => .inl h0)])
      have q0 : decide (n < 0) = true := decide_eq_true h0
      have q1 : decide (0 ≤ n) = false := decide_eq_false (by omega)
      by_cases h2 : kd = 2
      · subst h2
        clear hE hM hO hN
        go_wp2
        go_ret
        exact ⟨by rw [he.out]; rfl, hb1⟩
      · have q2 : (kd == 2) = false := beq_eq_false_iff_ne.2 h2
        by_cases h6 : kd = 6
        · subst h6
          clear hE hM hO hN
          go_wp2
          go_ret
          exact ⟨by rw [he.out]; rfl, hb1⟩
        · have q6 : (kd == 6) = false := beq_eq_false_iff_ne.2 h6
          clear hE hM hO hN
          clear h2 h6
          go_wp2
          go_ret
          exact ⟨by rw [he.out]; rfl, hb1⟩
    · have q0 : decide (n < 0) = false := decide_eq_false h0
      have q1 : decide (0 ≤ n) = true := decide_eq_true (by omega)
      obtain ⟨m, rfl⟩ : ∃ m : Nat, n = (m : Int) := ⟨n.toNat, by omega⟩
      by_cases h2 : kd = 2
      · subst h2
        by_cases hm : m < g.prods.length
        · have q2 : decide ((m : Int) < (g.prods.length : Int)) = true := decide_eq_true (by omega)
          have hpx := List.getElem?_eq_getElem hm
          generalize g.prods[m] = p at *
          have hrd := hM.out m p rfl rfl hpx
          obtain ⟨b1, o1, u1, e7, _, hat, _⟩ := Recs.at_ HG2.out.2.2 hpx
          subst e7
          have z0 := cellF (hat 0 _ rfl) hb1
          rw [Nat.add_zero, show prodR.k = 2 from rfl] at z0
          have he : Hid (res = p.left) := hidden (by rw [hE.out, if_pos hr]; exact hrd)
          clear hat hpx hrd HG2
          clear hE hM hO hN
          go_wp2
          go_ret
          exact ⟨by rw [he.out]; rfl, hb1⟩
        · have he : Hid (res = -1) := hidden (by rw [hE.out, if_pos hr, hO.out (fun e => by exact .inr (by show (g.prods.length : Int) ≤ (m : Int); omega)) (fun e => by simp at e)])
          have q2 : decide ((m : Int) < (g.prods.length : Int)) = false := decide_eq_false (by omega)
          clear hE hM hO hN
          go_wp2
          go_ret
          exact ⟨by rw [he.out]; rfl, hb1⟩
      · by_cases h6 : kd = 6
        · subst h6
          by_cases hm : m < g.rules.length
          · have he : Hid (res = (m : Int)) := hidden (by rw [hE.out, if_pos hr]; exact hN.out rfl (by show (0 : Int) ≤ (m : Int); omega) (by show (m : Int) < _; omega))
            have q2 : decide ((m : Int) < (g.rules.length : Int)) = true := decide_eq_true (by omega)
            clear hE hM hO hN
            go_wp2
            go_ret
            exact ⟨by rw [he.out]; rfl, hb1⟩
          · have he : Hid (res = -1) := hidden (by rw [hE.out, if_pos hr, hO.out (fun e => by simp at e) (fun e => by exact .inr (by show (g.rules.length : Int) ≤ (m : Int); omega))])
            have q2 : decide ((m : Int) < (g.rules.length : Int)) = false := decide_eq_false (by omega)
            clear hE hM hO hN
            go_wp2
            go_ret
            exact ⟨by rw [he.out]; rfl, hb1⟩
        · have he : Hid (res = -1) := hidden (by rw [hE.out, if_pos hr, hO.out (fun e => by exact absurd e h2) (fun e => by exact absurd e h6)])
          have q2 : (kd == 2) = false := beq_eq_false_iff_ne.2 h2
          have q6 : (kd == 6) = false := beq_eq_false_iff_ne.2 h6
          clear hE hM hO hN
          clear h2 h6
          go_wp2
          go_ret
          exact ⟨by rw [he.out]; rfl, hb1⟩

set_option maxRecDepth 20000 in
set_option maxHeartbeats 8000000 in
theorem ref_Rule30 (a b c l : Value) (g : Gram) (x : Node) (w : World) (HG : GramIs w (Old w) a b c g) (hsm : Small g) :
    Calls Try.prog 15 #[.agg (gramCells a b c g), .agg (ndV x l)] w fun r w' => r = .returned (.int .i64 (ruleOf g x)) ∧ Below w.heap.size w w' := by
  have HRt := hidden (fun (w' : World) (hb : Below w.heap.size w w') => ref_Right21 a b c g w' (HG.old hb) hsm.toks hsm.rules hsm.prods hsm.names)
  have HG2 := hidden HG
  obtain ⟨⟨A1, k1, rfl, v1, m1⟩, ⟨A2, k2, rfl, v2, m2⟩, ⟨A3, k3, rfl, v3, m3⟩⟩ := HG.vals
  have hE : Hid (ruleOf g x = if rightB g = true then ruleD g x else -1) := hidden rfl
  have hM := hidden (fun (n : Nat) (p : Prod) => @ruleD_made g x n p)
  have hO := hidden (@ruleD_out g x)
  have hN := hidden (@ruleD_norule g x)
  generalize ruleOf g x = res at *
  generalize ruleD g x = rd at *
  obtain ⟨kd, n, sz_, ld, tx⟩ := x
  unfold ndV gramCells at *
  unfold maxLen at m1 m2 m3
  dsimp only at *
  have hb1 : Below w.heap.size w ((w.alloc (.cells #[.slice A1 g.toks.length k1, .slice A2 g.rules.length k2, .slice A3 g.prods.length k3, .int .i64 g.start, .int .i64 g.states, .int .i64 g.text, .int .i64 g.nodes, .int .i64 g.pairs] 26)).alloc (.cells #[.int .i64 kd, .int .i64 n, .int .i64 sz_, l, .string tx] 37)) := ((Below.refl _ _).alloc (Nat.le_refl _) _).alloc (by simp) _
  have HB1 : Hid (Holds ((w.alloc (.cells #[.slice A1 g.toks.length k1, .slice A2 g.rules.length k2, .slice A3 g.prods.length k3, .int .i64 g.start, .int .i64 g.states, .int .i64 g.text, .int .i64 g.nodes, .int .i64 g.pairs] 26)).alloc (.cells #[.int .i64 kd, .int .i64 n, .int .i64 sz_, l, .string tx] 37)) w.heap.size 26 #[.slice A1 g.toks.length k1, .slice A2 g.rules.length k2, .slice A3 g.prods.length k3, .int .i64 g.start, .int .i64 g.states, .int .i64 g.text, .int .i64 g.nodes, .int .i64 g.pairs]) := hidden (by repeat (first | (with_reducible assumption) | ((with_reducible refine holds_new ?_); (focus (first | rfl | (simp; done)))) | (with_reducible refine Holds.alloc ?_ _) | (with_reducible refine Holds.drew ?_)))
  have HB2 : Hid (Holds ((w.alloc (.cells #[.slice A1 g.toks.length k1, .slice A2 g.rules.length k2, .slice A3 g.prods.length k3, .int .i64 g.start, .int .i64 g.states, .int .i64 g.text, .int .i64 g.nodes, .int .i64 g.pairs] 26)).alloc (.cells #[.int .i64 kd, .int .i64 n, .int .i64 sz_, l, .string tx] 37)) (w.heap.size + 1) 37 #[.int .i64 kd, .int .i64 n, .int .i64 sz_, l, .string tx]) := hidden (Holds.new_at (by simp))
  clear HG hsm
  go_enter Try.func15, Try.ntmps15
  go_upto_region 1 with fail
  generalize ((w.alloc (.cells #[.slice A1 g.toks.length k1, .slice A2 g.rules.length k2, .slice A3 g.prods.length k3, .int .i64 g.start, .int .i64 g.states, .int .i64 g.text, .int .i64 g.nodes, .int .i64 g.pairs] 26)).alloc (.cells #[.int .i64 kd, .int .i64 n, .int .i64 sz_, l, .string tx] 37)) = w1 at *
  obtain ⟨x0, x1, x2, x3, x4, x5, x6, x7⟩ := eightR HB1.out
  have y0 := HB2.out.cell 0; have y1 := HB2.out.cell 1
  have HX := hidden (HRt.out _ hb1)
  go_wp2_with fail
  refine HX.out.mono ?_
  rintro r w2 ⟨rfl, hb2⟩
  replace HB1 := hidden (HB1.out.below hb2 HB1.out.lt)
  replace HB2 := hidden (HB2.out.below hb2 HB2.out.lt)
  replace hb1 := hb1.trans (hb2.mono hb1.size)
  clear x0 x1 x2 x3 x4 x5 x6 x7 y0 y1 hb2 HRt HX
  obtain ⟨x0, x1, x2, x3, x4, x5, x6, x7⟩ := eightR HB1.out
  have y0 := HB2.out.cell 0; have y1 := HB2.out.cell 1
  cases hr : rightB g
  · have he : Hid (res = -1) := hidden (by rw [hE.out, hr, if_neg Bool.false_ne_true])
    clear hE hM hO hN
    go_wp2
    go_ret
    exact ⟨by rw [he.out]; rfl, hb1⟩
  · by_cases h0 : n < 0
    · have he : Hid (res = -1) := hidden (by rw [hE.out, if_pos hr, hO.out (fun _ => .inl h0) (fun _ => .inl h0)])
      have q0 : decide (n < 0) = true := decide_eq_true h0
      have q1 : decide (0 ≤ n) = false := decide_eq_false (by omega)
      by_cases h2 : kd = 2
      · subst h2
        clear hE hM hO hN
        go_wp2
        go_ret
        exact ⟨by rw [he.out]; rfl, hb1⟩
      · have q2 : (kd == 2) = false := beq_eq_false_iff_ne.2 h2
        by_cases h6 : kd = 6
        · subst h6
          clear hE hM hO hN
          go_wp2
          go_ret
          exact ⟨by rw [he.out]; rfl, hb1⟩
        · have q6 : (kd == 6) = false := beq_eq_false_iff_ne.2 h6
          clear hE hM hO hN
          clear h2 h6
          go_wp2
          go_ret
          exact ⟨by rw [he.out]; rfl, hb1⟩
    · have q0 : decide (n < 0) = false := decide_eq_false h0
      have q1 : decide (0 ≤ n) = true := decide_eq_true (by omega)
      obtain ⟨m, rfl⟩ : ∃ m : Nat, n = (m : Int) := ⟨n.toNat, by omega⟩
      by_cases h2 : kd = 2
      · subst h2
        by_cases hm : m < g.prods.length
        · have q2 : decide ((m : Int) < (g.prods.length : Int)) = true := decide_eq_true (by omega)
          have hpx := List.getElem?_eq_getElem hm
          generalize g.prods[m] = p at *
          have hrd := hM.out m p rfl rfl hpx
          obtain ⟨b1, o1, u1, e7, _, hat, _⟩ := Recs.at_ HG2.out.2.2 hpx
          subst e7
          have z0 := cellF (hat 0 _ rfl) hb1
          rw [Nat.add_zero, show prodR.k = 2 from rfl] at z0
          have he : Hid (res = p.left) := hidden (by rw [hE.out, if_pos hr]; exact hrd)
          clear hat hpx hrd HG2
          clear hE hM hO hN
          go_wp2
          go_ret
          exact ⟨by rw [he.out]; rfl, hb1⟩
        · have he : Hid (res = -1) := hidden (by rw [hE.out, if_pos hr, hO.out (fun e => by exact .inr (by show (g.prods.length : Int) ≤ (m : Int); omega)) (fun e => by simp at e)])
          have q2 : decide ((m : Int) < (g.prods.length : Int)) = false := decide_eq_false (by omega)
          clear hE hM hO hN
          go_wp2
          go_ret
          exact ⟨by rw [he.out]; rfl, hb1⟩
      · by_cases h6 : kd = 6
        · subst h6
          by_cases hm : m < g.rules.length
          · have he : Hid (res = (m : Int)) := hidden (by rw [hE.out, if_pos hr]; exact hN.out rfl (by show (0 : Int) ≤ (m : Int); omega) (by show (m : Int) < _; omega))
            have q2 : decide ((m : Int) < (g.rules.length : Int)) = true := decide_eq_true (by omega)
            clear hE hM hO hN
            go_wp2
            go_ret
            exact ⟨by rw [he.out]; rfl, hb1⟩
          · have he : Hid (res = -1) := hidden (by rw [hE.out, if_pos hr, hO.out (fun e => by simp at e) (fun e => by exact .inr (by show (g.rules.length : Int) ≤ (m : Int); omega))])
            have q2 : decide ((m : Int) < (g.rules.length : Int)) = false := decide_eq_false (by omega)
            clear hE hM hO hN
            go_wp2
            go_ret
            exact ⟨by rw [he.out]; rfl, hb1⟩
        · have he : Hid (res = -1) := hidden (by rw [hE.out, if_pos hr, hO.out (fun e => by exact absurd e h2) (fun e => by exact absurd e h6)])
          have q2 : (kd == 2) = false := beq_eq_false_iff_ne.2 h2
          have q6 : (kd == 6) = false := beq_eq_false_iff_ne.2 h6
          clear hE hM hO hN
          clear h2 h6
          go_wp2
          go_ret
          exact ⟨by rw [he.out]; rfl, hb1⟩
end Go.Proofs.Ytmmhkjdnejeooaa.T
