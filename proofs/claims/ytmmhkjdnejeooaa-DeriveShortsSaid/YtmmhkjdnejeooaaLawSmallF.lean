/-
  law23.Small (over the texts of Gram alone: for seats without Null and First).
-/
import Derived.Test.YtmmhkjdnejeooaaG4
import Derived.Test.YtmmhkjdnejeooaaNullG
namespace Go.Proofs.Ytmmhkjdnejeooaa
open Go.RowKit Go.Shelf

theorem few_is {g : Gram} (h : fewB g = true) (hz : Named g) : Small g := ⟨by have := (few_small h).1; omega, by have := (few_small h).2.1; omega, by have := (few_small h).2.2; omega, hz⟩
theorem eight22 {w : World} {p : Nat} {t : TypeId} {a b c d e f k h : Value} (H : Holds w p t #[a, b, c, d, e, f, k, h]) : w.cell? ⟨p, 0, none⟩ = some a ∧ w.cell? ⟨p, 1, none⟩ = some b ∧ w.cell? ⟨p, 2, none⟩ = some c ∧ w.cell? ⟨p, 3, none⟩ = some d ∧ w.cell? ⟨p, 4, none⟩ = some e ∧ w.cell? ⟨p, 5, none⟩ = some f ∧ w.cell? ⟨p, 6, none⟩ = some k ∧ w.cell? ⟨p, 7, none⟩ = some h := ⟨H.cell 0, H.cell 1, H.cell 2, H.cell 3, H.cell 4, H.cell 5, H.cell 6, H.cell 7⟩
/-- Is there so little in a grammar that all its tokens may be asked of all rules? -/
noncomputable def smallB (g : Gram) : Bool := fewB g && (decide (g.rules.length ≤ 12) && (decide (g.toks.length ≤ 12) && decide (g.prods.length ≤ 30)))
theorem smallB_iff {g : Gram} : smallB g = true ↔ fewB g = true ∧ g.rules.length ≤ 12 ∧ g.toks.length ≤ 12 ∧ g.prods.length ≤ 30 := by
  unfold smallB
  simp [Bool.and_eq_true]
theorem small_is {g : Gram} (h : smallB g = true) (hz : Named g) : Small g ∧ g.toks.length ≤ 90000 := ⟨few_is (smallB_iff.1 h).1 hz, by have := (smallB_iff.1 h).2.2.1; omega⟩
set_option maxRecDepth 20000 in
set_option maxHeartbeats 8000000 in
theorem law_Small (a b c : Value) (g : Gram) (w : World) (HG : GramIs w (Old w) a b c g) (hz : Named g) :
    Calls Try.prog 5 #[.agg (gramCells a b c g)] w fun r w' => r = .returned (.bool (smallB g)) ∧ Below w.heap.size w w' := by
  have F1 := hidden (fun (w' : World) (hb : Below w.heap.size w w') => law_Few a b c g w' (HG.old hb) hz)
  have HS := hidden (@smallB_iff g)
  obtain ⟨⟨A1, k1, rfl, v1, m1⟩, ⟨A2, k2, rfl, v2, m2⟩, ⟨A3, k3, rfl, v3, m3⟩⟩ := HG.vals
  have hb0 : Below w.heap.size w (w.alloc (.cells #[.slice A1 g.toks.length k1, .slice A2 g.rules.length k2, .slice A3 g.prods.length k3, .int .i64 g.start, .int .i64 g.states, .int .i64 g.text, .int .i64 g.nodes, .int .i64 g.pairs] 26)) := (by repeat (first | (with_reducible exact Below.refl _ _) | (with_reducible assumption) | (with_reducible refine Below.drew ?_) | (with_reducible refine below_drewN ?_ _) | ((with_reducible refine below_alloc ?_ ?_); (focus (first | omega | (simp; done) | (simp; omega)))) | ((with_reducible refine below_set ?_ ?_); (focus (first | omega | (simp; done) | (simp; omega))))))
  have HB0 := hidden (Holds.new w 26 #[.slice A1 g.toks.length k1, .slice A2 g.rules.length k2, .slice A3 g.prods.length k3, .int .i64 g.start, .int .i64 g.states, .int .i64 g.text, .int .i64 g.nodes, .int .i64 g.pairs])
  clear HG hz
  unfold gramCells at *
  generalize smallB g = sm at *
  generalize fewB g = fw at *
  have hcs : (fw = false ∧ sm = false) ∨ (fw = true ∧ ¬ g.rules.length ≤ 12 ∧ sm = false) ∨ (fw = true ∧ g.rules.length ≤ 12 ∧ ¬ g.toks.length ≤ 12 ∧ sm = false) ∨ (fw = true ∧ g.rules.length ≤ 12 ∧ g.toks.length ≤ 12 ∧ ¬ g.prods.length ≤ 30 ∧ sm = false) ∨ (fw = true ∧ g.rules.length ≤ 12 ∧ g.toks.length ≤ 12 ∧ g.prods.length ≤ 30 ∧ sm = true) := by
    have h := HS.out
    cases fw
    · left; refine ⟨rfl, ?_⟩
      cases sm
      · rfl
      · have := (h.1 rfl).1; cases this
    · right
      by_cases h1 : g.rules.length ≤ 12
      · right
        by_cases h2 : g.toks.length ≤ 12
        · right
          by_cases h3 : g.prods.length ≤ 30
          · right; exact ⟨rfl, h1, h2, h3, h.2 ⟨rfl, h1, h2, h3⟩⟩
          · left; refine ⟨rfl, h1, h2, h3, ?_⟩
            cases sm
            · rfl
            · exact absurd (h.1 rfl).2.2.2 h3
        · left; refine ⟨rfl, h1, h2, ?_⟩
          cases sm
          · rfl
          · exact absurd (h.1 rfl).2.2.1 h2
      · left; refine ⟨rfl, h1, ?_⟩
        cases sm
        · rfl
        · exact absurd (h.1 rfl).2.1 h1
  clear HS
  rcases hcs with ⟨rfl, rfl⟩ | ⟨rfl, h1, rfl⟩ | ⟨rfl, h1, h2, rfl⟩ | ⟨rfl, h1, h2, h3, rfl⟩ | ⟨rfl, h1, h2, h3, rfl⟩
  all_goals
    go_enter Try.func5, Try.ntmps5
    obtain ⟨s0, s1, s2, s3, s4, s5, s6, s7⟩ := eight22 HB0.out
    go_wp2_with fail
    refine (F1.out _ hb0).mono ?_
    rintro r w2 ⟨rfl, hb2⟩
    replace HB0 := hidden (HB0.out.below hb2 HB0.out.lt)
    replace hb0 := hb0.trans (hb2.mono hb0.size)
    clear s0 s1 s2 s3 s4 s5 s6 s7 hb2 F1
    obtain ⟨s0, s1, s2, s3, s4, s5, s6, s7⟩ := eight22 HB0.out
    (try have d1 : decide ((g.rules.length : Int) ≤ 12) = true := decide_eq_true (by omega))
    (try have d1 : decide ((g.rules.length : Int) ≤ 12) = false := decide_eq_false (by omega))
    (try have d2 : decide ((g.toks.length : Int) ≤ 12) = true := decide_eq_true (by omega))
    (try have d2 : decide ((g.toks.length : Int) ≤ 12) = false := decide_eq_false (by omega))
    (try have d3 : decide ((g.prods.length : Int) ≤ 30) = true := decide_eq_true (by omega))
    (try have d3 : decide ((g.prods.length : Int) ≤ 30) = false := decide_eq_false (by omega))
    go_wp2
    go_ret
    exact ⟨rfl, hb0⟩
end Go.Proofs.Ytmmhkjdnejeooaa
