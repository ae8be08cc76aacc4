/-
  law38: LayTells.
-/
import Derived.Test.YtbjheaiiajpifaaLayN
import Derived.Test.YtbjheaiiajpifaaLayH
namespace Go.Proofs.Ytbjheaiiajpifaa.T
open Go.RowKit Go.Shelf

theorem eight38 {w : World} {g : Nat} {t : TypeId} {a b c d e f k h : Value} (H : Holds w g t #[a, b, c, d, e, f, k, h]) : w.cell? ⟨g, 0, none⟩ = some a ∧ w.cell? ⟨g, 1, none⟩ = some b ∧ w.cell? ⟨g, 2, none⟩ = some c ∧ w.cell? ⟨g, 3, none⟩ = some d ∧ w.cell? ⟨g, 4, none⟩ = some e ∧ w.cell? ⟨g, 5, none⟩ = some f ∧ w.cell? ⟨g, 6, none⟩ = some k ∧ w.cell? ⟨g, 7, none⟩ = some h :=
  ⟨H.cell 0, H.cell 1, H.cell 2, H.cell 3, H.cell 4, H.cell 5, H.cell 6, H.cell 7⟩

set_option maxRecDepth 20000 in
set_option maxHeartbeats 8000000 in
theorem law_layTells (a' b' c' v : Value) (g : Gram) (t : List Node) (w : World) (HG : GramIs w (Old w) a' b' c' g) (hz : Named g) (hN : Nds w (Old w) v t) :
    Calls Try.prog 7 #[.agg (gramCells a' b' c' g), v] w fun r w' => r = .returned (.bool true) ∧ Below w.heap.size w w' := by
  have HFw := hidden (fun (w' : World) (hb : Below w.heap.size w w') => law_Few a' b' c' g w' (HG.later hb) hz)
  have HFn := hidden (fun (w' : World) (hb : Below w.heap.size w w') => few_any v t w' (hN.old hb))
  have HLo := hidden (fun (w' : World) (hb : Below w.heap.size w w') s1 s2 s3 s4 => lay_Of v a' b' c' g t w' s1 s2 s3 s4 hz (HG.later hb) (hN.old hb))
  have HRo := hidden (fun (w' : World) (hb : Below w.heap.size w w') s1 s2 s3 s4 => ref_Of38 v a' b' c' g t w' s1 s2 s3 s4 hz (HG.later hb) (hN.old hb))
  have HSm := hidden (fun (h : Go.Proofs.Ytbjheaiiajpifaa.fewB g = true) => few_small h)
  have HSt : Hid (fewB t = true → t.length ≤ 120) := hidden (fun h => by unfold fewB at h; simp at h; omega)
  have HKn := hidden knows38
  obtain ⟨A1, k1, rfl, v1, m1⟩ := HG.1.value
  obtain ⟨A2, k2, rfl, v2, m2⟩ := HG.2.1.val
  obtain ⟨A3, k3, rfl, v3, m3⟩ := HG.2.2.value
  obtain ⟨A4, k4, rfl, v4, m4⟩ := hN.value
  unfold maxLen at m4
  have hb0 : Below w.heap.size w (w.alloc (.cells #[.slice A1 g.toks.length k1, .slice A2 g.rules.length k2, .slice A3 g.prods.length k3, .int .i64 g.start, .int .i64 g.states, .int .i64 g.text, .int .i64 g.nodes, .int .i64 g.pairs] 26)) := (by repeat (first | (with_reducible exact Below.refl _ _) | (with_reducible assumption) | (with_reducible refine Below.drew ?_) | (with_reducible refine below_drewN ?_ _) | ((with_reducible refine below_alloc ?_ ?_); (focus (first | omega | (simp; done) | (simp; omega)))) | ((with_reducible refine below_set ?_ ?_); (focus (first | omega | (simp; done) | (simp; omega))))))
  have HB0 := hidden (Holds.new w 26 #[.slice A1 g.toks.length k1, .slice A2 g.rules.length k2, .slice A3 g.prods.length k3, .int .i64 g.start, .int .i64 g.states, .int .i64 g.text, .int .i64 g.nodes, .int .i64 g.pairs])
  clear HG hN hz
  unfold gramCells at *
  cases fg : Go.Proofs.Ytbjheaiiajpifaa.fewB g with
  | false =>
    rw [fg] at HFw
    go_enter Try.func7, Try.ntmps7
    go_wp2_with fail
    refine (HFw.out _ hb0).mono ?_
    rintro r w2 ⟨rfl, hb2⟩
    replace hb0 := below_more hb0 hb2
    go_wp2_with fail
    refine (HKn.out _).mono ?_
    rintro r w9 ⟨rfl, hb9⟩
    replace hb0 := below_more hb0 hb9
    clear hb9
    go_wp2
    go_ret
    exact ⟨rfl, hb0⟩
  | true =>
    rw [fg] at HFw
    obtain ⟨g1, g2, g3⟩ := HSm.out fg
    cases ft : fewB t with
    | false =>
      rw [ft] at HFn
      go_enter Try.func7, Try.ntmps7
      go_wp2_with fail
      refine (HFw.out _ hb0).mono ?_
      rintro r w2 ⟨rfl, hb2⟩
      replace hb0 := below_more hb0 hb2
      go_wp2_with fail
      refine (HFn.out _ hb0).mono ?_
      rintro r w3 ⟨rfl, hb3⟩
      replace hb0 := below_more hb0 hb3
      go_wp2_with fail
      refine (HKn.out _).mono ?_
      rintro r w9 ⟨rfl, hb9⟩
      replace hb0 := below_more hb0 hb9
      clear hb9
      go_wp2
      go_ret
      exact ⟨rfl, hb0⟩
    | true =>
      rw [ft] at HFn
      have ht := HSt.out ft
      go_enter Try.func7, Try.ntmps7
      obtain ⟨s0, s1, s2, s3, s4, s5, s6, s7⟩ := eight38 HB0.out
      go_wp2_with fail
      refine (HFw.out _ hb0).mono ?_
      rintro r w2 ⟨rfl, hb2⟩
      replace HB0 := hidden (HB0.out.below hb2 HB0.out.lt)
      replace hb0 := below_more hb0 hb2
      clear s0 s1 s2 s3 s4 s5 s6 s7 hb2
      go_wp2_with fail
      refine (HFn.out _ hb0).mono ?_
      rintro r w3 ⟨rfl, hb3⟩
      replace HB0 := hidden (HB0.out.below hb3 HB0.out.lt)
      replace hb0 := below_more hb0 hb3
      clear hb3
      obtain ⟨s0, s1, s2, s3, s4, s5, s6, s7⟩ := eight38 HB0.out
      go_wp2_with fail
      refine (HLo.out _ hb0 (by omega) (by omega) (by omega) (by omega)).mono ?_
      rintro r w4 ⟨⟨u4, rfl, HF4⟩, hb4⟩
      have HR4 := hidden (FlatM.rd HF4.out)
      replace HB0 := hidden (HB0.out.below hb4 HB0.out.lt)
      replace hb0 := below_more hb0 hb4
      clear hb4 HF4 s0 s1 s2 s3 s4 s5 s6 s7
      obtain ⟨s0, s1, s2, s3, s4, s5, s6, s7⟩ := eight38 HB0.out
      go_wp2_with fail
      refine (HRo.out _ hb0 (by omega) (by omega) (by omega) (by omega)).mono ?_
      rintro r w5 ⟨⟨u5, rfl, HF5⟩, hb5⟩
      have HR5 := hidden (FlatM.rd HF5.out)
      replace HR4 := hidden (Rd.old HR4.out hb5)
      replace hb0 := below_more hb0 hb5
      clear hb5 HF5 HB0 s0 s1 s2 s3 s4 s5 s6 s7 HLo HRo HFw HFn
      generalize placesOf g t = P at *
      have HS := hidden (same_places_self _ _ P w5 HR4.out HR5.out)
      obtain ⟨A6, c6, rfl, _, _⟩ := HR4.out.val
      obtain ⟨A7, c7, rfl, _, _⟩ := HR5.out.val
      go_wp2_with fail
      refine HS.out.mono ?_
      rintro r w6 ⟨rfl, hb6⟩
      replace HR4 := hidden (Rd.old HR4.out hb6)
      replace HR5 := hidden (Rd.old HR5.out hb6)
      replace hb0 := below_more hb0 hb6
      clear hb6 HS
      have HD := hidden (lay_Deep _ P w6 HR4.out)
      go_wp2_with fail
      refine HD.out.mono ?_
      rintro r w7 ⟨rfl, hb7⟩
      replace HR5 := hidden (Rd.old HR5.out hb7)
      replace hb0 := below_more hb0 hb7
      clear hb7 HD
      have HD := hidden (ref_Deep38 _ P w7 HR5.out)
      have q : (deepPl P == deepPl P) = true := by simp
      go_wp2_with fail
      refine HD.out.mono ?_
      rintro r w8 ⟨rfl, hb8⟩
      replace hb0 := below_more hb0 hb8
      clear hb8 HD HR4 HR5
      go_wp2_with fail
      refine (HKn.out _).mono ?_
      rintro r w9 ⟨rfl, hb9⟩
      replace hb0 := below_more hb0 hb9
      clear hb9
      go_wp2
      go_ret
      exact ⟨rfl, hb0⟩
end Go.Proofs.Ytbjheaiiajpifaa.T
