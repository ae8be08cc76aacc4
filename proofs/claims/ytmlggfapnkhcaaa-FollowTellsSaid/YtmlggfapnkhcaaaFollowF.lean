/-
  Follows, of the program and of the document; the document's End. Layer 23.
-/
import Derived.Test.YtmlggfapnkhcaaaFollowC
import Derived.Test.YtmlggfapnkhcaaaFollowE
namespace Go.Proofs.Ytmlggfapnkhcaaa
open Go.RowKit Go.Shelf

/-- Does a token stand behind a rule? -/
noncomputable def folHas (g : Gram) (r t : Int) : Bool := if 0 ≤ r ∧ r < (fol23 g).length then holdsB (t ∈ (fol23 g).getD r.toNat []) else false

set_option maxRecDepth 20000 in
set_option maxHeartbeats 8000000 in
theorem follow_Follows (a b c : Value) (g : Gram) (r t : Int) (w : World) (HG : GramIs w (Old w) a b c g) (hsm : Small g) :
    Calls Try.prog 33 #[.agg (gramCells a b c g), .int .i64 r, .int .i64 t] w fun e w' => e = .returned (.bool (folHas g r t)) ∧ Below w.heap.size w w' := by
  have HAl := hidden (fun (w' : World) (hb : Below w.heap.size w w') => follow_All a b c g w' (HG.old hb) hsm)
  have hN := hsm.toks
  have HBd := hidden (fun (n : Nat) => getD_bd (bd_fol23 g) n)
  have HFo : Hid (folHas g r t = if 0 ≤ r ∧ r < (fol23 g).length then holdsB (t ∈ (fol23 g).getD r.toNat []) else false) := hidden rfl
  obtain ⟨⟨A1, k1, rfl, v1, m1⟩, ⟨A2, k2, rfl, v2, m2⟩, ⟨A3, k3, rfl, v3, m3⟩⟩ := HG.vals
  clear HG hsm
  generalize folHas g r t = fo at *
  generalize fol23 g = F at *
  unfold gramCells at *
  have hbA := below_new w (.cells #[.slice A1 g.toks.length k1, .slice A2 g.rules.length k2, .slice A3 g.prods.length k3, .int .i64 g.start, .int .i64 g.states, .int .i64 g.text, .int .i64 g.nodes, .int .i64 g.pairs] 26)
  go_enter Try.func33, Try.ntmps33
  go_wp2_with fail
  refine (HAl.out _ hbA).mono ?_
  rintro e w2 ⟨⟨u, rfl, hu⟩, hb2⟩
  have hb := hbA.trans (hb2.mono hbA.size)
  obtain ⟨Au, cu, rfl, _, hcu⟩ := hu.out.value
  unfold maxLen at hcu
  clear hb2 HAl hbA
  rcases Int.lt_or_le r 0 with h0 | h0
  · have HE : Hid (fo = false) := hidden (by rw [HFo.out, if_neg (by omega)])
    have d0 : decide ((0 : Int) ≤ r) = false := decide_eq_false (by omega)
    clear hu h0
    go_wp2
    go_ret
    exact ⟨by rw [HE.out]; rfl, hb⟩
  · rcases Int.lt_or_le r F.length with h1 | h1
    · obtain ⟨m, rfl⟩ : ∃ m : Nat, r = (m : Int) := ⟨r.toNat, by omega⟩
      have hm : m < F.length := by omega
      have HE : Hid (fo = holdsB (t ∈ F.getD m [])) := hidden (by rw [HFo.out, if_pos ⟨h0, h1⟩, Int.toNat_natCast])
      have hF : F[m]? = some (F.getD m []) := by rw [List.getD_eq_getElem?_getD, List.getElem?_eq_getElem hm]; rfl
      obtain ⟨b4, o4, u4, rfl, hT4, hc4, hr4⟩ := Rows2.row hu.out hF
      have hT4 : b4 < w2.heap.size := hT4
      have HC := hidden (many_Has u4 (F.getD m []) t w2 hr4 (HBd.out m).1 (by have := (HBd.out m).len; omega))
      rw [contains_holds] at HC
      obtain ⟨A5, c5, rfl, _, _⟩ := hr4.val
      have d0 : decide ((0 : Int) ≤ (m : Int)) = true := decide_eq_true (by omega)
      have d1 : decide ((m : Int) < (F.length : Int)) = true := decide_eq_true (by omega)
      clear hu hF hr4 h0 h1
      generalize F.getD m [] = fr at *
      go_wp2_with fail
      refine HC.out.mono ?_
      rintro e w3 ⟨rfl, hb3⟩
      replace hb := hb.trans (hb3.mono hb.size)
      clear hb3
      go_wp2
      go_ret
      exact ⟨by rw [HE.out]; rfl, hb⟩
    · have HE : Hid (fo = false) := hidden (by rw [HFo.out, if_neg (by omega)])
      have d0 : decide ((0 : Int) ≤ r) = true := decide_eq_true h0
      have d1 : decide (r < (F.length : Int)) = false := decide_eq_false (by omega)
      clear hu h0 h1
      go_wp2
      go_ret
      exact ⟨by rw [HE.out]; rfl, hb⟩

set_option maxRecDepth 20000 in
set_option maxHeartbeats 8000000 in
theorem ref_Follows23 (a b c : Value) (g : Gram) (r t : Int) (w : World) (HG : GramIs w (Old w) a b c g) (hsm : Small g) (hT9 : g.toks.length ≤ 90000) :
    Calls Try.prog 34 #[.agg (gramCells a b c g), .int .i64 r, .int .i64 t] w fun e w' => e = .returned (.bool (folHas g r t)) ∧ Below w.heap.size w w' := by
  have HAl := hidden (fun (w' : World) (hb : Below w.heap.size w w') => ref_All23 a b c g w' (HG.old hb) hsm hT9)
  have hN := hsm.toks
  have HBd := hidden (fun (n : Nat) => getD_bd (bd_fol23 g) n)
  have HFo : Hid (folHas g r t = if 0 ≤ r ∧ r < (fol23 g).length then holdsB (t ∈ (fol23 g).getD r.toNat []) else false) := hidden rfl
  obtain ⟨⟨A1, k1, rfl, v1, m1⟩, ⟨A2, k2, rfl, v2, m2⟩, ⟨A3, k3, rfl, v3, m3⟩⟩ := HG.vals
  clear HG hsm
  generalize folHas g r t = fo at *
  generalize fol23 g = F at *
  unfold gramCells at *
  have hbA := below_new w (.cells #[.slice A1 g.toks.length k1, .slice A2 g.rules.length k2, .slice A3 g.prods.length k3, .int .i64 g.start, .int .i64 g.states, .int .i64 g.text, .int .i64 g.nodes, .int .i64 g.pairs] 26)
  go_enter Try.func34, Try.ntmps34
  go_wp2_with fail
  refine (HAl.out _ hbA).mono ?_
  rintro e w2 ⟨⟨u, rfl, hu⟩, hb2⟩
  have hb := hbA.trans (hb2.mono hbA.size)
  obtain ⟨Au, cu, rfl, _, hcu⟩ := hu.out.value
  unfold maxLen at hcu
  clear hb2 HAl hbA
  rcases Int.lt_or_le r 0 with h0 | h0
  · have HE : Hid (fo = false) := hidden (by rw [HFo.out, if_neg (by omega)])
    have d0 : decide ((0 : Int) ≤ r) = false := decide_eq_false (by omega)
    clear hu h0
    go_wp2
    go_ret
    exact ⟨by rw [HE.out]; rfl, hb⟩
  · rcases Int.lt_or_le r F.length with h1 | h1
    · obtain ⟨m, rfl⟩ : ∃ m : Nat, r = (m : Int) := ⟨r.toNat, by omega⟩
      have hm : m < F.length := by omega
      have HE : Hid (fo = holdsB (t ∈ F.getD m [])) := hidden (by rw [HFo.out, if_pos ⟨h0, h1⟩, Int.toNat_natCast])
      have hF : F[m]? = some (F.getD m []) := by rw [List.getD_eq_getElem?_getD, List.getElem?_eq_getElem hm]; rfl
      obtain ⟨b4, o4, u4, rfl, hT4, hc4, hr4⟩ := Rows2.row hu.out hF
      have hT4 : b4 < w2.heap.size := hT4
      have HC := hidden (ref11_has u4 (F.getD m []) t (Old w2) w2 hr4)
      skip
      obtain ⟨A5, c5, rfl, _, _⟩ := hr4.val
      have d0 : decide ((0 : Int) ≤ (m : Int)) = true := decide_eq_true (by omega)
      have d1 : decide ((m : Int) < (F.length : Int)) = true := decide_eq_true (by omega)
      clear hu hF hr4 h0 h1
      generalize F.getD m [] = fr at *
      go_wp2_with fail
      refine HC.out.mono ?_
      rintro e w3 ⟨rfl, rfl⟩
      go_wp2
      go_ret
      exact ⟨by rw [HE.out]; rfl, hb⟩
    · have HE : Hid (fo = false) := hidden (by rw [HFo.out, if_neg (by omega)])
      have d0 : decide ((0 : Int) ≤ r) = true := decide_eq_true h0
      have d1 : decide (r < (F.length : Int)) = false := decide_eq_false (by omega)
      clear hu h0 h1
      go_wp2
      go_ret
      exact ⟨by rw [HE.out]; rfl, hb⟩

set_option maxRecDepth 20000 in
set_option maxHeartbeats 8000000 in
theorem ref_End23 (a b c : Value) (g : Gram) (w : World) (HG : GramIs w (Old w) a b c g) (hsm : Small g) :
    Calls Try.prog 32 #[.agg (gramCells a b c g)] w fun r w' => r = .returned (.int .i64 (if rightB g = true then (g.toks.length : Int) else -1)) ∧ Below w.heap.size w w' := by
  have HR := hidden (fun (w' : World) (hb : Below w.heap.size w w') => ref_Right21 a b c g w' (HG.old hb) hsm.toks hsm.rules hsm.prods hsm.names)
  obtain ⟨⟨A1, k1, rfl, v1, m1⟩, ⟨A2, k2, rfl, v2, m2⟩, ⟨A3, k3, rfl, v3, m3⟩⟩ := HG.vals
  have hb0 : Below w.heap.size w (w.alloc (.cells #[.slice A1 g.toks.length k1, .slice A2 g.rules.length k2, .slice A3 g.prods.length k3, .int .i64 g.start, .int .i64 g.states, .int .i64 g.text, .int .i64 g.nodes, .int .i64 g.pairs] 26)) := (by repeat (first | (with_reducible exact Below.refl _ _) | (with_reducible assumption) | (with_reducible refine Below.drew ?_) | (with_reducible refine below_drewN ?_ _) | ((with_reducible refine below_alloc ?_ ?_); (focus (first | omega | (simp; done) | (simp; omega)))) | ((with_reducible refine below_set ?_ ?_); (focus (first | omega | (simp; done) | (simp; omega))))))
  have HB0 := hidden (Holds.new w 26 #[.slice A1 g.toks.length k1, .slice A2 g.rules.length k2, .slice A3 g.prods.length k3, .int .i64 g.start, .int .i64 g.states, .int .i64 g.text, .int .i64 g.nodes, .int .i64 g.pairs])
  clear HG hsm
  unfold gramCells at *
  generalize rightB g = rg at *
  cases rg
  all_goals
    go_enter Try.func32, Try.ntmps32
    obtain ⟨s0, s1, s2, s3, s4, s5, s6, s7⟩ := eight22 HB0.out
    go_wp2_with fail
    refine (HR.out _ hb0).mono ?_
    rintro r w2 ⟨rfl, hb2⟩
    replace HB0 := hidden (HB0.out.below hb2 HB0.out.lt)
    replace hb0 := hb0.trans (hb2.mono hb0.size)
    clear s0 s1 s2 s3 s4 s5 s6 s7 hb2
    obtain ⟨s0, s1, s2, s3, s4, s5, s6, s7⟩ := eight22 HB0.out
    go_wp2
    go_ret
    exact ⟨rfl, hb0⟩

end Go.Proofs.Ytmlggfapnkhcaaa
