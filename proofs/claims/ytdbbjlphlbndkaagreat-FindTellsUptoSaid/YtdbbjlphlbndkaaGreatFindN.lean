/-
  Whether a node is so named: find.named, find.Named.
-/
import Derived.Test.YtdbbjlphlbndkaaGreatNullG
import Derived.Test.YtdbbjlphlbndkaaGreatT3
import Derived.Deep.Quiet
namespace Go.Proofs.YtdbbjlphlbndkaaGreat.T
open Go.RowKit Go.Shelf

/-- A node's own name, in a grammar that is right. -/
def ownOf (g : Gram) (x : Node) : Option ByteArray :=
  if x.n < 0 then none
  else if x.kind = 2 then (match g.prods[x.n.toNat]? with | some p => g.rules[p.left.toNat]? | none => none)
  else if x.kind = 3 then (match g.toks[x.n.toNat]? with | some t => some t.name | none => none)
  else none
def namedD (g : Gram) (x : Node) (s : ByteArray) : Bool := match ownOf g x with | none => false | some o => (s.toList == [42]) || (s.toList == o.toList)
noncomputable def namedB (g : Gram) (x : Node) (s : ByteArray) : Bool := rightB g && namedD g x s
def ndV (x : Node) (l : Value) : Array Value := #[.int .i64 x.kind, .int .i64 x.n, .int .i64 x.size, l, .string x.text]

theorem own_cases {g : Gram} (hs : Sound g) (x : Node) : (x.n < 0 ∧ ownOf g x = none) ∨ (∃ (n : Nat) (p : Prod) (m : Nat) (o : ByteArray), x.n = (n : Int) ∧ x.kind = 2 ∧ g.prods[n]? = some p ∧ p.left = (m : Int) ∧ g.rules[m]? = some o ∧ ownOf g x = some o) ∨
    (∃ n : Nat, x.n = (n : Int) ∧ x.kind = 2 ∧ g.prods.length ≤ n ∧ ownOf g x = none) ∨ (∃ (n : Nat) (t : Token), x.n = (n : Int) ∧ x.kind = 3 ∧ g.toks[n]? = some t ∧ ownOf g x = some t.name) ∨
    (∃ n : Nat, x.n = (n : Int) ∧ x.kind = 3 ∧ g.toks.length ≤ n ∧ ownOf g x = none) ∨ (∃ n : Nat, x.n = (n : Int) ∧ x.kind ≠ 2 ∧ x.kind ≠ 3 ∧ ownOf g x = none) := by
  by_cases h0 : x.n < 0
  · exact .inl ⟨h0, by unfold ownOf; rw [if_pos h0]⟩
  · obtain ⟨n, hn⟩ : ∃ n : Nat, x.n = (n : Int) := ⟨x.n.toNat, by omega⟩
    have hnn : x.n.toNat = n := by omega
    by_cases h2 : x.kind = 2
    · by_cases hp : n < g.prods.length
      · have hx := List.getElem?_eq_getElem hp
        have hl := hs.left _ (List.getElem_mem hp)
        obtain ⟨m, hm⟩ : ∃ m : Nat, (g.prods[n]).left = (m : Int) := ⟨(g.prods[n]).left.toNat, by omega⟩
        have hml : m < g.rules.length := by omega
        have hr := List.getElem?_eq_getElem hml
        refine .inr (.inl ⟨n, _, m, _, hn, h2, hx, hm, hr, ?_⟩)
        unfold ownOf
        rw [if_neg h0, if_pos h2, hnn, hx]
        show g.rules[(g.prods[n]).left.toNat]? = _
        rw [hm, Int.toNat_natCast, hr]
      · refine .inr (.inr (.inl ⟨n, hn, h2, by omega, ?_⟩))
        unfold ownOf
        rw [if_neg h0, if_pos h2, hnn, List.getElem?_eq_none (by omega)]
    · by_cases h3 : x.kind = 3
      · by_cases hp : n < g.toks.length
        · have hx := List.getElem?_eq_getElem hp
          refine .inr (.inr (.inr (.inl ⟨n, _, hn, h3, hx, ?_⟩)))
          unfold ownOf
          rw [if_neg h0, if_neg h2, if_pos h3, hnn, hx]
        · refine .inr (.inr (.inr (.inr (.inl ⟨n, hn, h3, by omega, ?_⟩))))
          unfold ownOf
          rw [if_neg h0, if_neg h2, if_pos h3, hnn, List.getElem?_eq_none (by omega)]
      · refine .inr (.inr (.inr (.inr (.inr ⟨n, hn, h2, h3, ?_⟩))))
        unfold ownOf
        rw [if_neg h0, if_neg h2, if_neg h3]

theorem drewN_below {B : Nat} {a w : World} (h : Below B a w) (n : Nat) : Below B a (w.drewN n) := ⟨h.os, h.tape, h.output, h.size, h.block⟩
theorem cells8 {w : World} {p : Nat} {t : TypeId} {a b c d e f k h : Value} (H : Holds w p t #[a, b, c, d, e, f, k, h]) : w.cell? ⟨p, 0, none⟩ = some a ∧ w.cell? ⟨p, 1, none⟩ = some b ∧ w.cell? ⟨p, 2, none⟩ = some c := ⟨H.cell 0, H.cell 1, H.cell 2⟩
theorem cells5 {w : World} {p : Nat} {t : TypeId} {a b c d e : Value} (H : Holds w p t #[a, b, c, d, e]) : w.cell? ⟨p, 0, none⟩ = some a ∧ w.cell? ⟨p, 1, none⟩ = some b := ⟨H.cell 0, H.cell 1⟩

set_option maxRecDepth 20000 in
set_option maxHeartbeats 8000000 in
theorem find_named (a b c l : Value) (g : Gram) (x : Node) (s : ByteArray) (w : World) (HG : GramIs w (Old w) a b c g) (hs : Sound g) :
    Calls Tryz.prog 22 #[.agg (gramCells a b c g), .agg (ndV x l), .string s] w fun r w' => r = .returned (.bool (namedD g x s)) ∧ Below w.heap.size w w' := by
  have HC := hidden (own_cases hs x)
  have HGo := hidden (fun (w' : World) (hb : Below w.heap.size w w') => HG.old hb)
  obtain ⟨⟨A1, k1, rfl, v1, m1⟩, ⟨A2, k2, rfl, v2, m2⟩, ⟨A3, k3, rfl, v3, m3⟩⟩ := HG.vals
  unfold maxLen at m1 m2 m3
  have hE : Hid (namedD g x s = match ownOf g x with | none => false | some o => (s.toList == [42]) || (s.toList == o.toList)) := hidden rfl
  generalize namedD g x s = res at *
  obtain ⟨kd, n, sz_, ld, tx⟩ := x
  unfold ndV gramCells at *
  dsimp only at *
  have hb1 : Below w.heap.size w ((w.alloc (.cells #[.slice A1 g.toks.length k1, .slice A2 g.rules.length k2, .slice A3 g.prods.length k3, .int .i64 g.start, .int .i64 g.states, .int .i64 g.text, .int .i64 g.nodes, .int .i64 g.pairs] 26)).alloc (.cells #[.int .i64 kd, .int .i64 n, .int .i64 sz_, l, .string tx] 31)) := ((Below.refl _ _).alloc (Nat.le_refl _) _).alloc (by simp) _
  have HB1 : Hid (Holds ((w.alloc (.cells #[.slice A1 g.toks.length k1, .slice A2 g.rules.length k2, .slice A3 g.prods.length k3, .int .i64 g.start, .int .i64 g.states, .int .i64 g.text, .int .i64 g.nodes, .int .i64 g.pairs] 26)).alloc (.cells #[.int .i64 kd, .int .i64 n, .int .i64 sz_, l, .string tx] 31)) w.heap.size 26 #[.slice A1 g.toks.length k1, .slice A2 g.rules.length k2, .slice A3 g.prods.length k3, .int .i64 g.start, .int .i64 g.states, .int .i64 g.text, .int .i64 g.nodes, .int .i64 g.pairs]) := hidden (by repeat (first | (with_reducible assumption) | ((with_reducible refine holds_new ?_); (focus (first | rfl | (simp; done)))) | (with_reducible refine Holds.alloc ?_ _) | (with_reducible refine Holds.drew ?_)))
  have HB2 : Hid (Holds ((w.alloc (.cells #[.slice A1 g.toks.length k1, .slice A2 g.rules.length k2, .slice A3 g.prods.length k3, .int .i64 g.start, .int .i64 g.states, .int .i64 g.text, .int .i64 g.nodes, .int .i64 g.pairs] 26)).alloc (.cells #[.int .i64 kd, .int .i64 n, .int .i64 sz_, l, .string tx] 31)) (w.heap.size + 1) 31 #[.int .i64 kd, .int .i64 n, .int .i64 sz_, l, .string tx]) := hidden (Holds.new_at (by simp))
  have HG1 := hidden (HGo.out _ hb1)
  clear HG HGo
  go_enter Tryz.func22, Tryz.ntmps22
  go_upto_region 1 with fail
  generalize ((w.alloc (.cells #[.slice A1 g.toks.length k1, .slice A2 g.rules.length k2, .slice A3 g.prods.length k3, .int .i64 g.start, .int .i64 g.states, .int .i64 g.text, .int .i64 g.nodes, .int .i64 g.pairs] 26)).alloc (.cells #[.int .i64 kd, .int .i64 n, .int .i64 sz_, l, .string tx] 31)) = w1 at *
  have hb := hb1
  obtain ⟨x0, x1, x2⟩ := cells8 HB1.out
  obtain ⟨y0, y1⟩ := cells5 HB2.out
  clear hb1 HB1 HB2
  rcases HC.out with ⟨h1, h2⟩ | ⟨n', p, m, o, h1, h2, h3, h4, h5, h6⟩ | ⟨n', h1, h2, h3, h6⟩ | ⟨n', t, h1, h2, h3, h6⟩ | ⟨n', h1, h2, h3, h6⟩ | ⟨n', h1, h2, h3, h6⟩
  · have he : Hid (res = false) := hidden (by rw [hE.out, h2])
    have q0 : decide (n < 0) = true := decide_eq_true h1
    clear h1 h2 HC hE
    go_wp2
    go_ret
    exact ⟨by rw [he.out]; rfl, hb⟩
  · have he : Hid (res = ((s.toList == [42]) || (s.toList == o.toList))) := hidden (by rw [hE.out, h6])
    subst h1 h2
    have hl := (List.getElem?_eq_some_iff.1 h3).1
    have hml := (List.getElem?_eq_some_iff.1 h5).1
    obtain ⟨b1, o1, u1, e1, _, hat, _⟩ := Recs.at_ HG1.out.2.2 h3
    obtain ⟨b2, o2, e2, _, z1⟩ := strs_at HG1.out.2.1 h5
    subst e1 e2
    have z0 := hat 0 _ rfl
    rw [Nat.add_zero, show prodR.k = 2 from rfl, h4] at z0
    have q1 : decide ((n' : Int) < (g.prods.length : Int)) = true := decide_eq_true (by omega)
    clear HC hE h3 h4 h5 h6 hat HG1
    cases hst : (s.toList == [42])
    all_goals
      rw [hst] at he
      go_wp2_with fail
      go_quiet (fail)
      go_wp2
      go_ret
      exact ⟨by rw [he.out]; rfl, drewN_below hb _⟩
  · have he : Hid (res = false) := hidden (by rw [hE.out, h6])
    subst h1 h2
    have q1 : decide ((n' : Int) < (g.prods.length : Int)) = false := decide_eq_false (by omega)
    clear HC hE h6 HG1
    go_wp2
    go_ret
    exact ⟨by rw [he.out]; rfl, hb⟩
  · have he : Hid (res = ((s.toList == [42]) || (s.toList == t.name.toList))) := hidden (by rw [hE.out, h6])
    subst h1 h2
    have hl := (List.getElem?_eq_some_iff.1 h3).1
    obtain ⟨b1, o1, u1, e1, _, hat, _⟩ := Recs.at_ HG1.out.1 h3
    subst e1
    have z0 := hat 0 _ rfl
    rw [Nat.add_zero, show tokR.k = 3 from rfl] at z0
    have q1 : decide ((n' : Int) < (g.toks.length : Int)) = true := decide_eq_true (by omega)
    clear HC hE h3 h6 hat HG1
    cases hst : (s.toList == [42])
    all_goals
      rw [hst] at he
      go_wp2
      go_ret
      exact ⟨by rw [he.out]; rfl, hb⟩
  · have he : Hid (res = false) := hidden (by rw [hE.out, h6])
    subst h1 h2
    have q1 : decide ((n' : Int) < (g.toks.length : Int)) = false := decide_eq_false (by omega)
    clear HC hE h6 HG1
    go_wp2
    go_ret
    exact ⟨by rw [he.out]; rfl, hb⟩
  · have he : Hid (res = false) := hidden (by rw [hE.out, h6])
    subst h1
    have q1 : (kd == 2) = false := beq_eq_false_iff_ne.2 h2
    have q2 : (kd == 3) = false := beq_eq_false_iff_ne.2 h3
    clear HC hE h6 HG1 h2 h3
    go_wp2
    go_ret
    exact ⟨by rw [he.out]; rfl, hb⟩

set_option maxRecDepth 20000 in
set_option maxHeartbeats 8000000 in
theorem find_Named (a b c l : Value) (g : Gram) (x : Node) (s : ByteArray) (w : World) (HG : GramIs w (Old w) a b c g) (hsm : Small g) :
    Calls Tryz.prog 15 #[.agg (gramCells a b c g), .agg (ndV x l), .string s] w fun r w' => r = .returned (.bool (namedB g x s)) ∧ Below w.heap.size w w' := by
  have HRt := hidden (fun (w' : World) (hb : Below w.heap.size w w') => gram_Right a b c g w' (HG.old hb) hsm.toks hsm.rules hsm.prods hsm.names)
  have HNm := hidden (fun (hr : rightB g = true) (w' : World) (hb : Below w.heap.size w w') => find_named a b c l g x s w' (HG.old hb) (rightB_sound hr))
  obtain ⟨⟨A1, k1, rfl, v1, m1⟩, ⟨A2, k2, rfl, v2, m2⟩, ⟨A3, k3, rfl, v3, m3⟩⟩ := HG.vals
  have hE : Hid (namedB g x s = (rightB g && namedD g x s)) := hidden rfl
  generalize namedB g x s = res at *
  obtain ⟨kd, n, sz_, ld, tx⟩ := x
  unfold ndV gramCells at *
  dsimp only at *
  have hb1 : Below w.heap.size w ((w.alloc (.cells #[.slice A1 g.toks.length k1, .slice A2 g.rules.length k2, .slice A3 g.prods.length k3, .int .i64 g.start, .int .i64 g.states, .int .i64 g.text, .int .i64 g.nodes, .int .i64 g.pairs] 26)).alloc (.cells #[.int .i64 kd, .int .i64 n, .int .i64 sz_, l, .string tx] 31)) := ((Below.refl _ _).alloc (Nat.le_refl _) _).alloc (by simp) _
  have HB1 : Hid (Holds ((w.alloc (.cells #[.slice A1 g.toks.length k1, .slice A2 g.rules.length k2, .slice A3 g.prods.length k3, .int .i64 g.start, .int .i64 g.states, .int .i64 g.text, .int .i64 g.nodes, .int .i64 g.pairs] 26)).alloc (.cells #[.int .i64 kd, .int .i64 n, .int .i64 sz_, l, .string tx] 31)) w.heap.size 26 #[.slice A1 g.toks.length k1, .slice A2 g.rules.length k2, .slice A3 g.prods.length k3, .int .i64 g.start, .int .i64 g.states, .int .i64 g.text, .int .i64 g.nodes, .int .i64 g.pairs]) := hidden (by repeat (first | (with_reducible assumption) | ((with_reducible refine holds_new ?_); (focus (first | rfl | (simp; done)))) | (with_reducible refine Holds.alloc ?_ _) | (with_reducible refine Holds.drew ?_)))
  have HB2 : Hid (Holds ((w.alloc (.cells #[.slice A1 g.toks.length k1, .slice A2 g.rules.length k2, .slice A3 g.prods.length k3, .int .i64 g.start, .int .i64 g.states, .int .i64 g.text, .int .i64 g.nodes, .int .i64 g.pairs] 26)).alloc (.cells #[.int .i64 kd, .int .i64 n, .int .i64 sz_, l, .string tx] 31)) (w.heap.size + 1) 31 #[.int .i64 kd, .int .i64 n, .int .i64 sz_, l, .string tx]) := hidden (Holds.new_at (by simp))
  clear HG hsm
  go_enter Tryz.func15, Tryz.ntmps15
  go_upto_region 1 with fail
  generalize ((w.alloc (.cells #[.slice A1 g.toks.length k1, .slice A2 g.rules.length k2, .slice A3 g.prods.length k3, .int .i64 g.start, .int .i64 g.states, .int .i64 g.text, .int .i64 g.nodes, .int .i64 g.pairs] 26)).alloc (.cells #[.int .i64 kd, .int .i64 n, .int .i64 sz_, l, .string tx] 31)) = w1 at *
  have x0 := HB1.out.cell 0; have x1 := HB1.out.cell 1; have x2 := HB1.out.cell 2; have x3 := HB1.out.cell 3
  have x4 := HB1.out.cell 4; have x5 := HB1.out.cell 5; have x6 := HB1.out.cell 6; have x7 := HB1.out.cell 7
  go_wp2_with fail
  refine (HRt.out _ hb1).mono ?_
  rintro r w2 ⟨rfl, hb2⟩
  replace HB1 := hidden (HB1.out.below hb2 HB1.out.lt)
  replace HB2 := hidden (HB2.out.below hb2 HB2.out.lt)
  replace hb1 := hb1.trans (hb2.mono hb1.size)
  clear x0 x1 x2 x3 x4 x5 x6 x7 hb2 HRt
  have x0 := HB1.out.cell 0; have x1 := HB1.out.cell 1; have x2 := HB1.out.cell 2; have x3 := HB1.out.cell 3
  have x4 := HB1.out.cell 4; have x5 := HB1.out.cell 5; have x6 := HB1.out.cell 6; have x7 := HB1.out.cell 7
  have y0 := HB2.out.cell 0; have y1 := HB2.out.cell 1; have y2 := HB2.out.cell 2; have y3 := HB2.out.cell 3; have y4 := HB2.out.cell 4
  cases hr : rightB g
  · have he : Hid (res = false) := hidden (by rw [hE.out, hr]; rfl)
    go_wp2
    go_ret
    exact ⟨by rw [he.out]; rfl, hb1⟩
  · have he : Hid (res = namedD g ⟨kd, n, sz_, ld, tx⟩ s) := hidden (by rw [hE.out, hr]; rfl)
    have HN2 := hidden (HNm.out hr _ hb1)
    clear HNm
    go_wp2_with fail
    refine HN2.out.mono ?_
    rintro r w3 ⟨rfl, hb3⟩
    go_wp2
    go_ret
    exact ⟨by rw [he.out]; rfl, hb1.trans (hb3.mono hb1.size)⟩
end Go.Proofs.YtdbbjlphlbndkaaGreat.T
