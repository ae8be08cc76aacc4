/-
  The document's selectors: facsimileref41.Named.
-/
import Derived.Test.YtdbbjlphlbndkaaGreatFindN
import Derived.Deep.Quiet
namespace Go.Proofs.YtdbbjlphlbndkaaGreat.T
open Go.RowKit Go.Shelf

set_option maxRecDepth 20000 in
set_option maxHeartbeats 8000000 in
theorem ref_Named41 (a b c l : Value) (g : Gram) (x : Node) (s : ByteArray) (w : World) (HG : GramIs w (Old w) a b c g) (hsm : Small g) :
    Calls Tryz.prog 16 #[.agg (gramCells a b c g), .agg (ndV x l), .string s] w fun r w' => r = .returned (.bool (namedB g x s)) ∧ Below w.heap.size w w' := by
  have HRt := hidden (fun (w' : World) (hb : Below w.heap.size w w') => ref_Right21 a b c g w' (HG.old hb) hsm.toks hsm.rules hsm.prods hsm.names)
  have HGo := hidden (fun (w' : World) (hb : Below w.heap.size w w') => HG.old hb)
  have HC := hidden (fun (h : rightB g = true) => own_cases (rightB_sound h) x)
  obtain ⟨⟨A1, k1, rfl, v1, m1⟩, ⟨A2, k2, rfl, v2, m2⟩, ⟨A3, k3, rfl, v3, m3⟩⟩ := HG.vals
  have hE : Hid (namedB g x s = (rightB g && namedD g x s)) := hidden rfl
  have hE2 : Hid (namedD g x s = match ownOf g x with | none => false | some o => (s.toList == [42]) || (s.toList == o.toList)) := hidden rfl
  generalize namedB g x s = res at *
  generalize namedD g x s = res2 at *
  obtain ⟨kd, n, sz_, ld, tx⟩ := x
  unfold ndV gramCells at *
  dsimp only at *
  have hb1 : Below w.heap.size w ((w.alloc (.cells #[.slice A1 g.toks.length k1, .slice A2 g.rules.length k2, .slice A3 g.prods.length k3, .int .i64 g.start, .int .i64 g.states, .int .i64 g.text, .int .i64 g.nodes, .int .i64 g.pairs] 26)).alloc (.cells #[.int .i64 kd, .int .i64 n, .int .i64 sz_, l, .string tx] 31)) := ((Below.refl _ _).alloc (Nat.le_refl _) _).alloc (by simp) _
  have HB1 : Hid (Holds ((w.alloc (.cells #[.slice A1 g.toks.length k1, .slice A2 g.rules.length k2, .slice A3 g.prods.length k3, .int .i64 g.start, .int .i64 g.states, .int .i64 g.text, .int .i64 g.nodes, .int .i64 g.pairs] 26)).alloc (.cells #[.int .i64 kd, .int .i64 n, .int .i64 sz_, l, .string tx] 31)) w.heap.size 26 #[.slice A1 g.toks.length k1, .slice A2 g.rules.length k2, .slice A3 g.prods.length k3, .int .i64 g.start, .int .i64 g.states, .int .i64 g.text, .int .i64 g.nodes, .int .i64 g.pairs]) := hidden (by repeat (first | (with_reducible assumption) | ((with_reducible refine holds_new ?_); (focus (first | rfl | (simp; done)))) | (with_reducible refine Holds.alloc ?_ _) | (with_reducible refine Holds.drew ?_)))
  have HB2 : Hid (Holds ((w.alloc (.cells #[.slice A1 g.toks.length k1, .slice A2 g.rules.length k2, .slice A3 g.prods.length k3, .int .i64 g.start, .int .i64 g.states, .int .i64 g.text, .int .i64 g.nodes, .int .i64 g.pairs] 26)).alloc (.cells #[.int .i64 kd, .int .i64 n, .int .i64 sz_, l, .string tx] 31)) (w.heap.size + 1) 31 #[.int .i64 kd, .int .i64 n, .int .i64 sz_, l, .string tx]) := hidden (Holds.new_at (by simp))
  clear HG hsm
  go_enter Tryz.func16, Tryz.ntmps16
  go_upto_region 1 with fail
  generalize ((w.alloc (.cells #[.slice A1 g.toks.length k1, .slice A2 g.rules.length k2, .slice A3 g.prods.length k3, .int .i64 g.start, .int .i64 g.states, .int .i64 g.text, .int .i64 g.nodes, .int .i64 g.pairs] 26)).alloc (.cells #[.int .i64 kd, .int .i64 n, .int .i64 sz_, l, .string tx] 31)) = w1 at *
  have x0 := HB1.out.cell 0; have x1 := HB1.out.cell 1; have x2 := HB1.out.cell 2; have x3 := HB1.out.cell 3
  have x4 := HB1.out.cell 4; have x5 := HB1.out.cell 5; have x6 := HB1.out.cell 6; have x7 := HB1.out.cell 7
  go_wp2_with fail
  refine (HRt.out _ hb1).mono ?_
  rintro r w2 ⟨rfl, hb2⟩
  replace HB1 := hidden (HB1.out.below hb2 HB1.out.lt)
  replace HB2 := hidden (HB2.out.below hb2 HB2.out.lt)
  replace hb1 := hb1.trans (hb2.mono hb1.size)
  clear x0 x1 x2 x3 x4 x5 x6 x7 hb2 HRt
  have x0 := HB1.out.cell 0; have x1 := HB1.out.cell 1; have x2 := HB1.out.cell 2; have x3 := HB1.out.cell 3
  have x4 := HB1.out.cell 4; have x5 := HB1.out.cell 5; have x6 := HB1.out.cell 6; have x7 := HB1.out.cell 7
  have y0 := HB2.out.cell 0; have y1 := HB2.out.cell 1; have y2 := HB2.out.cell 2; have y3 := HB2.out.cell 3; have y4 := HB2.out.cell 4
  cases hr : rightB g
  · have he : Hid (res = false) := hidden (by rw [hE.out, hr]; rfl)
    go_wp2
    go_ret
    exact ⟨by rw [he.out]; rfl, hb1⟩
  · have hE1 : Hid (res = res2) := hidden (by rw [hE.out, hr]; rfl)
    have HG1 := hidden (HGo.out _ hb1)
    have HC1 := hidden (HC.out hr)
    clear HC HGo hE
    have HG2 := hidden HG1.out
    have HC2 := hidden HC1.out
    have hE3 := hidden hE2.out
    clear HG1 HC1 hE2
    rcases HC2.out with ⟨h1, h2⟩ | ⟨n', p, m, o, h1, h2, h3, h4, h5, h6⟩ | ⟨n', h1, h2, h3, h6⟩ | ⟨n', t, h1, h2, h3, h6⟩ | ⟨n', h1, h2, h3, h6⟩ | ⟨n', h1, h2, h3, h6⟩
    · have he : Hid (res = false) := hidden (by rw [hE1.out, hE3.out, h2])
      have q0 : decide (n < 0) = true := decide_eq_true h1
      clear h1 h2 HC2 hE1 hE3
      go_wp2
      go_ret
      exact ⟨by rw [he.out]; rfl, hb1⟩
    · have he : Hid (res = ((s.toList == [42]) || (s.toList == o.toList))) := hidden (by rw [hE1.out, hE3.out, h6])
      subst h1 h2
      have hl := (List.getElem?_eq_some_iff.1 h3).1
      have hml := (List.getElem?_eq_some_iff.1 h5).1
      obtain ⟨b1, o1, u1, e1, _, hat, _⟩ := Recs.at_ HG2.out.2.2 h3
      obtain ⟨b2, o2, e2, _, z1⟩ := strs_at HG2.out.2.1 h5
      subst e1 e2
      have z0 := hat 0 _ rfl
      rw [Nat.add_zero, show prodR.k = 2 from rfl, h4] at z0
      have q0 : decide ((n' : Int) < 0) = false := decide_eq_false (by omega)
      have q1 : decide ((n' : Int) < (g.prods.length : Int)) = true := decide_eq_true (by omega)
      clear HC2 hE1 hE3 h3 h4 h5 h6 hat HG2
      cases hst : (s.toList == [42])
      all_goals
        rw [hst] at he
        go_wp2_with fail
        go_quiet (fail)
        go_wp2
        go_ret
        exact ⟨by rw [he.out]; rfl, drewN_below hb1 _⟩
    · have he : Hid (res = false) := hidden (by rw [hE1.out, hE3.out, h6])
      subst h1 h2
      have q0 : decide ((n' : Int) < 0) = false := decide_eq_false (by omega)
      have q1 : decide ((n' : Int) < (g.prods.length : Int)) = false := decide_eq_false (by omega)
      clear HC2 hE1 hE3 h6 HG2
      go_wp2
      go_ret
      exact ⟨by rw [he.out]; rfl, hb1⟩
    · have he : Hid (res = ((s.toList == [42]) || (s.toList == t.name.toList))) := hidden (by rw [hE1.out, hE3.out, h6])
      subst h1 h2
      have hl := (List.getElem?_eq_some_iff.1 h3).1
      obtain ⟨b1, o1, u1, e1, _, hat, _⟩ := Recs.at_ HG2.out.1 h3
      subst e1
      have z0 := hat 0 _ rfl
      rw [Nat.add_zero, show tokR.k = 3 from rfl] at z0
      have q0 : decide ((n' : Int) < 0) = false := decide_eq_false (by omega)
      have q1 : decide ((n' : Int) < (g.toks.length : Int)) = true := decide_eq_true (by omega)
      clear HC2 hE1 hE3 h3 h6 hat HG2
      cases hst : (s.toList == [42])
      all_goals
        rw [hst] at he
        go_wp2
        go_ret
        exact ⟨by rw [he.out]; rfl, hb1⟩
    · have he : Hid (res = false) := hidden (by rw [hE1.out, hE3.out, h6])
      subst h1 h2
      have q0 : decide ((n' : Int) < 0) = false := decide_eq_false (by omega)
      have q1 : decide ((n' : Int) < (g.toks.length : Int)) = false := decide_eq_false (by omega)
      clear HC2 hE1 hE3 h6 HG2
      go_wp2
      go_ret
      exact ⟨by rw [he.out]; rfl, hb1⟩
    · have he : Hid (res = false) := hidden (by rw [hE1.out, hE3.out, h6])
      subst h1
      have q0 : decide ((n' : Int) < 0) = false := decide_eq_false (by omega)
      have q1 : (kd == 2) = false := beq_eq_false_iff_ne.2 h2
      have q2 : (kd == 3) = false := beq_eq_false_iff_ne.2 h3
      clear HC2 hE1 hE3 h6 HG2 h2 h3
      go_wp2
      go_ret
      exact ⟨by rw [he.out]; rfl, hb1⟩
end Go.Proofs.YtdbbjlphlbndkaaGreat.T
