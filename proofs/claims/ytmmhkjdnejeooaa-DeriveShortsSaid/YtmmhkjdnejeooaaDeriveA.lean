/-
  May a node be the first one of an item's part? derive.look.of.
-/
import Derived.Test.YtmmhkjdnejeooaaDeriveP
import Derived.Deep.Quiet
namespace Go.Proofs.Ytmmhkjdnejeooaa.T
open Go.RowKit Go.Shelf

def ndV (x : Node) (l : Value) : Array Value := #[.int .i64 x.kind, .int .i64 x.n, .int .i64 x.size, l, .string x.text]
def itV (y : Item) : Array Value := #[.bool y.rule, .int .i64 y.n, .int .i64 y.gap, .int .i64 y.in_]
def lkCells (a b c v : Value) (g : Gram) : Array Value := #[a, b, c, .int .i64 g.start, .int .i64 g.states, .int .i64 g.text, .int .i64 g.nodes, .int .i64 g.pairs, v]
theorem nineR {w : World} {p : Nat} {t : TypeId} {a b c d e f k h v : Value} (H : Holds w p t #[a, b, c, d, e, f, k, h, v]) : w.cell? ⟨p, 0, none⟩ = some a ∧ w.cell? ⟨p, 1, none⟩ = some b ∧ w.cell? ⟨p, 2, none⟩ = some c ∧ w.cell? ⟨p, 3, none⟩ = some d ∧ w.cell? ⟨p, 4, none⟩ = some e ∧ w.cell? ⟨p, 5, none⟩ = some f ∧ w.cell? ⟨p, 6, none⟩ = some k ∧ w.cell? ⟨p, 7, none⟩ = some h ∧ w.cell? ⟨p, 8, none⟩ = some v := ⟨H.cell 0, H.cell 1, H.cell 2, H.cell 3, H.cell 4, H.cell 5, H.cell 6, H.cell 7, H.cell 8⟩
theorem cellF {w w1 : World} {b o : Nat} {v : Value} (h : w.cell? ⟨b, o, none⟩ = some v) (h1 : Below w.heap.size w w1) : w1.cell? ⟨b, o, none⟩ = some v := Ext.cell h ⟨w1, h1⟩
theorem ruleD_made {g : Gram} {x : Node} {n : Nat} {p : Prod} (hk : x.kind = 2) (hn : x.n = (n : Int)) (hp : g.prods[n]? = some p) : ruleD g x = p.left := by
  have := (List.getElem?_eq_some_iff.1 hp).1
  unfold ruleD
  rw [if_pos ⟨hk, by omega, by omega⟩, hn, Int.toNat_natCast, hp]
theorem ruleD_out {g : Gram} {x : Node} (h : x.kind = 2 → x.n < 0 ∨ (g.prods.length : Int) ≤ x.n) (h2 : x.kind = 6 → x.n < 0 ∨ (g.rules.length : Int) ≤ x.n) : ruleD g x = -1 := by
  unfold ruleD
  rw [if_neg (fun e => by have := h e.1; omega), if_neg (fun e => by have := h2 e.1; omega)]
theorem ruleD_norule {g : Gram} {x : Node} (hk : x.kind = 6) (h0 : 0 ≤ x.n) (h1 : x.n < g.rules.length) : ruleD g x = x.n := by
  unfold ruleD
  rw [if_neg (fun e => by omega), if_pos ⟨hk, h0, h1⟩]

set_option maxRecDepth 20000 in
set_option maxHeartbeats 16000000 in
theorem look_of (a b c v l : Value) (g : Gram) (x : Node) (y : Item) (q : Nat) (w : World) (HG : GramIs w (Old w) a b c g) (HL : Holds w q 49 (lkCells a b c v g)) :
    Calls Try.prog 26 #[.pointer (some ⟨q, 0, none⟩), .agg (ndV x l), .agg (itV y)] w fun r w' => r = .returned (.bool (ofD g x y)) ∧ Below w.heap.size w w' := by
  have HG2 := hidden HG
  obtain ⟨⟨A1, k1, rfl, v1, m1⟩, ⟨A2, k2, rfl, v2, m2⟩, ⟨A3, k3, rfl, v3, m3⟩⟩ := HG.vals
  have hE : Hid (ofD g x y = if y.rule = true then decide (0 ≤ y.n) && decide (ruleD g x = y.n) else decide (0 ≤ y.n) && (decide (y.n < g.toks.length) && (decide (x.n = y.n) && (decide (x.kind = 3) || decide (x.kind = 5))))) := hidden rfl
  have hM := hidden (fun (n : Nat) (p : Prod) => @ruleD_made g x n p)
  have hO := hidden (@ruleD_out g x)
  have hN := hidden (@ruleD_norule g x)
  generalize ruleD g x = rd at *
  generalize ofD g x y = res at *
  obtain ⟨kd, n, sz_, ld, tx⟩ := x
  obtain ⟨rl, yn, gp, ii⟩ := y
  unfold ndV itV lkCells at *
  unfold maxLen at m1 m2 m3
  dsimp only at *
  have hb1 : Below w.heap.size w ((w.alloc (.cells #[.int .i64 kd, .int .i64 n, .int .i64 sz_, l, .string tx] 37)).alloc (.cells #[.bool rl, .int .i64 yn, .int .i64 gp, .int .i64 ii] 30)) := ((Below.refl _ _).alloc (Nat.le_refl _) _).alloc (by simp) _
  have HB1 : Hid (Holds ((w.alloc (.cells #[.int .i64 kd, .int .i64 n, .int .i64 sz_, l, .string tx] 37)).alloc (.cells #[.bool rl, .int .i64 yn, .int .i64 gp, .int .i64 ii] 30)) w.heap.size 37 #[.int .i64 kd, .int .i64 n, .int .i64 sz_, l, .string tx]) := hidden (by repeat (first | (with_reducible assumption) | ((with_reducible refine holds_new ?_); (focus (first | rfl | (simp; done)))) | (with_reducible refine Holds.alloc ?_ _) | (with_reducible refine Holds.drew ?_)))
  have HB2 : Hid (Holds ((w.alloc (.cells #[.int .i64 kd, .int .i64 n, .int .i64 sz_, l, .string tx] 37)).alloc (.cells #[.bool rl, .int .i64 yn, .int .i64 gp, .int .i64 ii] 30)) (w.heap.size + 1) 30 #[.bool rl, .int .i64 yn, .int .i64 gp, .int .i64 ii]) := hidden (Holds.new_at (by simp))
  have HL1 : Hid (Holds ((w.alloc (.cells #[.int .i64 kd, .int .i64 n, .int .i64 sz_, l, .string tx] 37)).alloc (.cells #[.bool rl, .int .i64 yn, .int .i64 gp, .int .i64 ii] 30)) q 49 #[.slice A1 g.toks.length k1, .slice A2 g.rules.length k2, .slice A3 g.prods.length k3, .int .i64 g.start, .int .i64 g.states, .int .i64 g.text, .int .i64 g.nodes, .int .i64 g.pairs, v]) := hidden ((HL.alloc _).alloc _)
  clear HG HL
  go_enter Try.func26, Try.ntmps26
  go_upto_region 1 with fail
  have HW := hidden hb1
  have HG3 := hidden (fun (b o : Nat) (u : Value) (h : w.cell? ⟨b, o, none⟩ = some u) => cellF h hb1)
  generalize ((w.alloc (.cells #[.int .i64 kd, .int .i64 n, .int .i64 sz_, l, .string tx] 37)).alloc (.cells #[.bool rl, .int .i64 yn, .int .i64 gp, .int .i64 ii] 30)) = w1 at *
  obtain ⟨l0, l1, l2, l3, l4, l5, l6, l7, l8⟩ := nineR HL1.out
  have x0 := HB1.out.cell 0; have x1 := HB1.out.cell 1
  have y0 := HB2.out.cell 0; have y1 := HB2.out.cell 1
  have e0 := Ext.cell l0; have e1 := Ext.cell l1; have e2 := Ext.cell l2; have e3 := Ext.cell x0; have e4 := Ext.cell x1; have e5 := Ext.cell y0; have e6 := Ext.cell y1
  by_cases h0 : yn < 0
  · have he : Hid (res = false) := hidden (by rw [hE.out, decide_eq_false (show ¬ 0 ≤ yn by omega)]; simp)
    have q0 : decide (yn < 0) = true := decide_eq_true h0
    clear hE hM hO hN
    go_wp2
    go_ret
    exact ⟨by rw [he.out]; rfl, hb1⟩
  · have q0 : decide (yn < 0) = false := decide_eq_false h0
    have hp0 : decide (0 ≤ yn) = true := decide_eq_true (by omega)
    rw [hp0, Bool.true_and, Bool.true_and] at hE
    by_cases h2 : kd = 2
    · subst h2
      cases rl
      · have he : Hid (res = false) := hidden (by rw [hE.out, if_neg Bool.false_ne_true]; simp)
        clear hE
        clear hM hO hN
        go_wp2_with fail
        refine wp_region_ext (by kernel_rfl) (by kernel_rfl) ?_
        repeat (go_big_quiet_step (fail))
        refine wpQuiet_nil ?_
        intro w2 hb2
        clear e0 e1 e2 e3 e4 e5 e6
        go_wp2
        go_ret
        exact ⟨by rw [he.out]; rfl, hb1.trans (hb2.mono hb1.size)⟩
      · rw [if_pos rfl] at hE
        by_cases hn0 : n < 0
        · have he : Hid (res = false) := hidden (by rw [hE.out, hO.out (fun _ => .inl hn0) (fun e => by simp at e)]; exact decide_eq_false (by omega))
          have q1 : decide (0 ≤ n) = false := decide_eq_false (by omega)
          clear hE
          clear hM hO hN
          go_wp2_with fail
          refine wp_region_ext (by kernel_rfl) (by kernel_rfl) ?_
          repeat (go_big_quiet_step (fail))
          refine wpQuiet_nil ?_
          intro w2 hb2
          clear e0 e1 e2 e3 e4 e5 e6
          go_wp2
          go_ret
          exact ⟨by rw [he.out]; rfl, hb1.trans (hb2.mono hb1.size)⟩
        · have q1 : decide (0 ≤ n) = true := decide_eq_true (by omega)
          obtain ⟨m, rfl⟩ : ∃ m : Nat, n = (m : Int) := ⟨n.toNat, by omega⟩
          by_cases hm : m < g.prods.length
          · have q2 : decide ((m : Int) < (g.prods.length : Int)) = true := decide_eq_true (by omega)
            have hpx := List.getElem?_eq_getElem hm
            generalize g.prods[m] = p at *
            have hrd := hM.out m p rfl rfl hpx
            rw [hrd] at hE
            obtain ⟨b1, o1, u1, e7, _, hat, _⟩ := Recs.at_ HG2.out.2.2 hpx
            subst e7
            have z0 := HG3.out _ _ _ (hat 0 _ rfl)
            rw [Nat.add_zero, show prodR.k = 2 from rfl] at z0
            have e8 := Ext.cell z0
            clear hat hpx hrd
            by_cases hy : p.left = yn
            · have he : Hid (res = true) := hidden (by rw [hE.out]; exact decide_eq_true hy)
              have q3 : (p.left == yn) = true := by rw [hy]; exact beq_self_eq_true _
              clear hE hy
              clear hM hO hN
              go_wp2_with fail
              refine wp_region_ext (by kernel_rfl) (by kernel_rfl) ?_
              repeat (go_big_quiet_step (fail))
              refine wpQuiet_nil ?_
              intro w2 hb2
              clear e0 e1 e2 e3 e4 e5 e6 e8
              go_wp2
              go_ret
              exact ⟨by rw [he.out]; rfl, hb1.trans (hb2.mono hb1.size)⟩
            · have he : Hid (res = false) := hidden (by rw [hE.out]; exact decide_eq_false hy)
              have q3 : (p.left == yn) = false := beq_eq_false_iff_ne.2 hy
              clear hE hy
              clear hM hO hN
              go_wp2_with fail
              refine wp_region_ext (by kernel_rfl) (by kernel_rfl) ?_
              repeat (go_big_quiet_step (fail))
              refine wpQuiet_nil ?_
              intro w2 hb2
              clear e0 e1 e2 e3 e4 e5 e6 e8
              go_wp2
              go_ret
              exact ⟨by rw [he.out]; rfl, hb1.trans (hb2.mono hb1.size)⟩
          · have he : Hid (res = false) := hidden (by rw [hE.out, hO.out (fun _ => .inr (by show (g.prods.length : Int) ≤ (m : Int); omega)) (fun e => by simp at e)]; exact decide_eq_false (by omega))
            have q2 : decide ((m : Int) < (g.prods.length : Int)) = false := decide_eq_false (by omega)
            clear hE
            clear hM hO hN
            go_wp2_with fail
            refine wp_region_ext (by kernel_rfl) (by kernel_rfl) ?_
            repeat (go_big_quiet_step (fail))
            refine wpQuiet_nil ?_
            intro w2 hb2
            clear e0 e1 e2 e3 e4 e5 e6
            go_wp2
            go_ret
            exact ⟨by rw [he.out]; rfl, hb1.trans (hb2.mono hb1.size)⟩
    · by_cases h6 : kd = 6
      · subst h6
        cases rl
        · have he : Hid (res = false) := hidden (by rw [hE.out, if_neg Bool.false_ne_true]; simp)
          clear hE
          clear hM hO hN
          go_wp2_with fail
          refine wp_region_ext (by kernel_rfl) (by kernel_rfl) ?_
          repeat (go_big_quiet_step (fail))
          refine wpQuiet_nil ?_
          intro w2 hb2
          clear e0 e1 e2 e3 e4 e5 e6
          go_wp2
          go_ret
          exact ⟨by rw [he.out]; rfl, hb1.trans (hb2.mono hb1.size)⟩
        · rw [if_pos rfl] at hE
          by_cases hny : n = yn
          · subst hny
            by_cases hm : n < g.rules.length
            · have he : Hid (res = true) := hidden (by rw [hE.out, hN.out rfl (by show 0 ≤ n; omega) hm]; exact decide_eq_true rfl)
              have q1 : decide (n < (g.rules.length : Int)) = true := decide_eq_true hm
              clear hE
              clear hM hO hN
              go_wp2_with fail
              refine wp_region_ext (by kernel_rfl) (by kernel_rfl) ?_
              repeat (go_big_quiet_step (fail))
              refine wpQuiet_nil ?_
              intro w2 hb2
              clear e0 e1 e2 e3 e4 e5 e6
              go_wp2
              go_ret
              exact ⟨by rw [he.out]; rfl, hb1.trans (hb2.mono hb1.size)⟩
            · have he : Hid (res = false) := hidden (by rw [hE.out, hO.out (fun e => by simp at e) (fun _ => .inr (by show (g.rules.length : Int) ≤ n; omega))]; exact decide_eq_false (by omega))
              have q1 : decide (n < (g.rules.length : Int)) = false := decide_eq_false hm
              clear hE
              clear hM hO hN
              go_wp2_with fail
              refine wp_region_ext (by kernel_rfl) (by kernel_rfl) ?_
              repeat (go_big_quiet_step (fail))
              refine wpQuiet_nil ?_
              intro w2 hb2
              clear e0 e1 e2 e3 e4 e5 e6
              go_wp2
              go_ret
              exact ⟨by rw [he.out]; rfl, hb1.trans (hb2.mono hb1.size)⟩
          · have q1 : (n == yn) = false := beq_eq_false_iff_ne.2 hny
            have he : Hid (res = false) := hidden (by
              rw [hE.out]
              by_cases hin : 0 ≤ n ∧ n < g.rules.length
              · rw [hN.out rfl hin.1 hin.2]; exact decide_eq_false hny
              · rw [hO.out (fun e => by simp at e) (fun _ => by show n < 0 ∨ (g.rules.length : Int) ≤ n; omega)]; exact decide_eq_false (by omega))
            clear hE
            clear hM hO hN
            go_wp2_with fail
            refine wp_region_ext (by kernel_rfl) (by kernel_rfl) ?_
            repeat (go_big_quiet_step (fail))
            refine wpQuiet_nil ?_
            intro w2 hb2
            clear e0 e1 e2 e3 e4 e5 e6
            go_wp2
            go_ret
            exact ⟨by rw [he.out]; rfl, hb1.trans (hb2.mono hb1.size)⟩
      · by_cases h3 : kd = 3
        · subst h3
          cases rl
          · rw [if_neg Bool.false_ne_true] at hE
            by_cases hny : n = yn
            · subst hny
              by_cases hm : n < g.toks.length
              · have he : Hid (res = true) := hidden (by rw [hE.out, decide_eq_true hm]; simp)
                have q1 : decide (n < (g.toks.length : Int)) = true := decide_eq_true hm
                clear hE
                clear hM hO hN
                go_wp2_with fail
                refine wp_region_ext (by kernel_rfl) (by kernel_rfl) ?_
                repeat (go_big_quiet_step (fail))
                refine wpQuiet_nil ?_
                intro w2 hb2
                clear e0 e1 e2 e3 e4 e5 e6
                go_wp2
                go_ret
                exact ⟨by rw [he.out]; rfl, hb1.trans (hb2.mono hb1.size)⟩
              · have he : Hid (res = false) := hidden (by rw [hE.out, decide_eq_false hm]; simp)
                have q1 : decide (n < (g.toks.length : Int)) = false := decide_eq_false hm
                clear hE
                clear hM hO hN
                go_wp2_with fail
                refine wp_region_ext (by kernel_rfl) (by kernel_rfl) ?_
                repeat (go_big_quiet_step (fail))
                refine wpQuiet_nil ?_
                intro w2 hb2
                clear e0 e1 e2 e3 e4 e5 e6
                go_wp2
                go_ret
                exact ⟨by rw [he.out]; rfl, hb1.trans (hb2.mono hb1.size)⟩
            · have he : Hid (res = false) := hidden (by rw [hE.out, decide_eq_false hny]; simp)
              have q1 : (n == yn) = false := beq_eq_false_iff_ne.2 hny
              clear hE
              clear hM hO hN
              go_wp2_with fail
              refine wp_region_ext (by kernel_rfl) (by kernel_rfl) ?_
              repeat (go_big_quiet_step (fail))
              refine wpQuiet_nil ?_
              intro w2 hb2
              clear e0 e1 e2 e3 e4 e5 e6
              go_wp2
              go_ret
              exact ⟨by rw [he.out]; rfl, hb1.trans (hb2.mono hb1.size)⟩
          · have he : Hid (res = false) := hidden (by rw [hE.out, if_pos rfl, hO.out (fun e => by simp at e) (fun e => by simp at e)]; exact decide_eq_false (by omega))
            clear hE
            clear hM hO hN
            go_wp2_with fail
            refine wp_region_ext (by kernel_rfl) (by kernel_rfl) ?_
            repeat (go_big_quiet_step (fail))
            refine wpQuiet_nil ?_
            intro w2 hb2
            clear e0 e1 e2 e3 e4 e5 e6
            go_wp2
            go_ret
            exact ⟨by rw [he.out]; rfl, hb1.trans (hb2.mono hb1.size)⟩
        · by_cases h5 : kd = 5
          · subst h5
            cases rl
            · rw [if_neg Bool.false_ne_true] at hE
              by_cases hny : n = yn
              · subst hny
                by_cases hm : n < g.toks.length
                · have he : Hid (res = true) := hidden (by rw [hE.out, decide_eq_true hm]; simp)
                  have q1 : decide (n < (g.toks.length : Int)) = true := decide_eq_true hm
                  clear hE
                  clear hM hO hN
                  go_wp2_with fail
                  refine wp_region_ext (by kernel_rfl) (by kernel_rfl) ?_
                  repeat (go_big_quiet_step (fail))
                  refine wpQuiet_nil ?_
                  intro w2 hb2
                  clear e0 e1 e2 e3 e4 e5 e6
                  go_wp2
                  go_ret
                  exact ⟨by rw [he.out]; rfl, hb1.trans (hb2.mono hb1.size)⟩
                · have he : Hid (res = false) := hidden (by rw [hE.out, decide_eq_false hm]; simp)
                  have q1 : decide (n < (g.toks.length : Int)) = false := decide_eq_false hm
                  clear hE
                  clear hM hO hN
                  go_wp2_with fail
                  refine wp_region_ext (by kernel_rfl) (by kernel_rfl) ?_
                  repeat (go_big_quiet_step (fail))
                  refine wpQuiet_nil ?_
                  intro w2 hb2
                  clear e0 e1 e2 e3 e4 e5 e6
                  go_wp2
                  go_ret
                  exact ⟨by rw [he.out]; rfl, hb1.trans (hb2.mono hb1.size)⟩
              · have he : Hid (res = false) := hidden (by rw [hE.out, decide_eq_false hny]; simp)
                have q1 : (n == yn) = false := beq_eq_false_iff_ne.2 hny
                clear hE
                clear hM hO hN
                go_wp2_with fail
                refine wp_region_ext (by kernel_rfl) (by kernel_rfl) ?_
                repeat (go_big_quiet_step (fail))
                refine wpQuiet_nil ?_
                intro w2 hb2
                clear e0 e1 e2 e3 e4 e5 e6
                go_wp2
                go_ret
                exact ⟨by rw [he.out]; rfl, hb1.trans (hb2.mono hb1.size)⟩
            · have he : Hid (res = false) := hidden (by rw [hE.out, if_pos rfl, hO.out (fun e => by simp at e) (fun e => by simp at e)]; exact decide_eq_false (by omega))
              clear hE
              clear hM hO hN
              go_wp2_with fail
              refine wp_region_ext (by kernel_rfl) (by kernel_rfl) ?_
              repeat (go_big_quiet_step (fail))
              refine wpQuiet_nil ?_
              intro w2 hb2
              clear e0 e1 e2 e3 e4 e5 e6
              go_wp2
              go_ret
              exact ⟨by rw [he.out]; rfl, hb1.trans (hb2.mono hb1.size)⟩
          · have he : Hid (res = false) := hidden (by
              rw [hE.out, hO.out (fun e => absurd e h2) (fun e => absurd e h6), decide_eq_false h3, decide_eq_false h5]
              split
              · exact decide_eq_false (by omega)
              · simp)
            have q1 : (kd == 2) = false := beq_eq_false_iff_ne.2 h2
            have q2 : (kd == 6) = false := beq_eq_false_iff_ne.2 h6
            have q3 : (kd == 3) = false := beq_eq_false_iff_ne.2 h3
            have q4 : (kd == 5) = false := beq_eq_false_iff_ne.2 h5
            clear hE hM hO hN h2 h6 h3 h5
            go_wp2
            go_ret
            exact ⟨by rw [he.out]; rfl, hb1⟩
end Go.Proofs.Ytmmhkjdnejeooaa.T
