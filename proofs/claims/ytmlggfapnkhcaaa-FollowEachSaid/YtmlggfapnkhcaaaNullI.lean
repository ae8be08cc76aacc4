/-
  facsimileref21: Empty, Makes, Items, Void.
-/
import Derived.Test.YtmlggfapnkhcaaaNullH
import Derived.Deep.RegionHeld3
namespace Go.Proofs.Ytmlggfapnkhcaaa
open Go.RowKit Go.Shelf

/-- What the document answers of the rules. -/
noncomputable def growsOr (g : Gram) (tk : Bool) : List Bool := if rightB g = true then growsB g tk else []
noncomputable def reachOr (g : Gram) : List Bool := if rightB g = true then reachB g else []
theorem ref_Empty21 (a b c : Value) (g : Gram) (w : World) (HG : GramIs w (Old w) a b c g) (hsm : Small g) :
    Calls Try.prog 24 #[.agg (gramCells a b c g)] w fun r w' => (∃ u, r = .returned u ∧ Hid (Bools w' (Old w') u (growsOr g false))) ∧ Below w.heap.size w w' := by
  have H := hidden (fun (w' : World) (hb : Below w.heap.size w w') => ref_grown a b c g false w' (HG.old hb) hsm)
  obtain ⟨⟨A1, k1, rfl, v1, m1⟩, ⟨A2, k2, rfl, v2, m2⟩, ⟨A3, k3, rfl, v3, m3⟩⟩ := HG.vals
  have hb := Below.refl w.heap.size w
  unfold growsOr
  generalize (if rightB g = true then growsB g false else []) = s at *
  unfold gramCells at *
  clear HG
  go_enter Try.func24, Try.ntmps24
  go_wp2_with fail
  refine (H.out _ ?_).mono ?_
  · exact (by repeat (first | (with_reducible exact Below.refl _ _) | (with_reducible assumption) | (with_reducible refine Below.drew ?_) | (with_reducible refine below_drewN ?_ _) | ((with_reducible refine below_alloc ?_ ?_); (focus (first | omega | (simp; done) | (simp; omega)))) | ((with_reducible refine below_set ?_ ?_); (focus (first | omega | (simp; done) | (simp; omega))))))
  rintro r w2 ⟨⟨u, rfl, HU⟩, hb2⟩
  have hbw : Below w.heap.size w w2 := Below.trans (by repeat (first | (with_reducible exact Below.refl _ _) | (with_reducible assumption) | (with_reducible refine Below.drew ?_) | (with_reducible refine below_drewN ?_ _) | ((with_reducible refine below_alloc ?_ ?_); (focus (first | omega | (simp; done) | (simp; omega)))) | ((with_reducible refine below_set ?_ ?_); (focus (first | omega | (simp; done) | (simp; omega)))))) (hb2.mono (by simp))
  obtain ⟨Au, cu, rfl, _, _⟩ := HU.out.val
  clear hb2 hb
  go_wp2
  go_ret
  exact ⟨⟨_, rfl, HU⟩, hbw⟩
/-- An item of a grammar. -/
def itemIn (g : Gram) (x : Item) : Bool := decide (0 ≤ x.n) && (if x.rule = true then decide (x.n < g.rules.length) else decide (x.n < g.toks.length))
def itemsIn (g : Gram) (l : List Item) : Bool := l.all (itemIn g)
theorem itemIn_cases (g : Gram) (x : Item) : (itemIn g x = false ∧ (x.n < 0 ∨ (¬ x.n < 0 ∧ x.rule = true ∧ (g.rules.length : Int) ≤ x.n) ∨ (¬ x.n < 0 ∧ x.rule = false ∧ (g.toks.length : Int) ≤ x.n))) ∨
    (itemIn g x = true ∧ ((¬ x.n < 0 ∧ x.rule = true ∧ ¬ (g.rules.length : Int) ≤ x.n) ∨ (¬ x.n < 0 ∧ x.rule = false ∧ ¬ (g.toks.length : Int) ≤ x.n))) := by
  unfold itemIn
  by_cases h0 : x.n < 0
  · exact .inl ⟨by rw [decide_eq_false (by omega)]; rfl, .inl h0⟩
  · rw [decide_eq_true (show 0 ≤ x.n by omega), Bool.true_and]
    cases hr : x.rule
    · rw [if_neg (by decide)]
      by_cases h1 : (g.toks.length : Int) ≤ x.n
      · exact .inl ⟨decide_eq_false (by omega), .inr (.inr ⟨h0, rfl, h1⟩)⟩
      · exact .inr ⟨decide_eq_true (by omega), .inr ⟨h0, rfl, h1⟩⟩
    · rw [if_pos rfl]
      by_cases h1 : (g.rules.length : Int) ≤ x.n
      · exact .inl ⟨decide_eq_false (by omega), .inr (.inl ⟨h0, rfl, h1⟩)⟩
      · exact .inr ⟨decide_eq_true (by omega), .inl ⟨h0, rfl, h1⟩⟩

set_option maxRecDepth 20000 in
set_option maxHeartbeats 8000000 in
theorem ref_Items21 (a b c v : Value) (g : Gram) (l : List Item) (w : World) (HG : GramIs w (Old w) a b c g) (hR : Rd w (Old w) 4 v l.length (l.flatMap itCells)) :
    Calls Try.prog 66 #[.agg (gramCells a b c g), v] w fun r w' => r = .returned (.bool (itemsIn g l)) ∧ Below w.heap.size w w' := by
  obtain ⟨⟨A1, k1, rfl, v1, m1⟩, ⟨A2, k2, rfl, v2, m2⟩, ⟨A3, k3, rfl, v3, m3⟩⟩ := HG.vals
  obtain ⟨A, c, rfl, hc1, hc2⟩ := hR.val
  unfold maxLen at hc2 m1 m2
  have HRo := hidden (fun (w' : World) (hb : Below w.heap.size w w') => Rd.old hR hb)
  have HF : Hid (∀ (k : Nat) x, l[k]? = some x → itemIn g x = false → itemsIn g l = false) := hidden (fun k x h1 h2 => by
    rw [Bool.eq_false_iff]; intro h; unfold itemsIn at h; rw [List.all_eq_true] at h
    have := h x (List.mem_of_getElem? h1); rw [h2] at this; cases this)
  have HT : Hid ((∀ (k : Nat) x, k < l.length → l[k]? = some x → itemIn g x = true) → itemsIn g l = true) := hidden (fun h => by
    unfold itemsIn
    rw [List.all_eq_true]; intro x hx
    obtain ⟨k, hk, e⟩ := List.mem_iff_getElem.1 hx
    exact h k x hk (by rw [List.getElem?_eq_getElem hk, e]))
  have HIc := hidden (itemIn_cases g)
  generalize itemsIn g l = r at *
  unfold gramCells
  clear HG hR
  go_enter Try.func66, Try.ntmps66
  go_wp2
  go_loopw [5] (fun ii wr => ∃ k : Nat, k ≤ l.length ∧ ii = .int .i64 k ∧ Hid (∀ (j : Nat) x, j < k → l[j]? = some x → itemIn g x = true) ∧ Below w.heap.size w wr ∧ w.heap.size + 1 ≤ wr.heap.size
    ∧ Hid (Holds wr w.heap.size 26 #[.slice A1 g.toks.length k1, .slice A2 g.rules.length k2, .slice A3 g.prods.length k3, .int .i64 g.start, .int .i64 g.states, .int .i64 g.text, .int .i64 g.nodes, .int .i64 g.pairs])) (fun ii _ => l.length - (intOf ii).toNat)
  case atStart => exact ⟨0, by omega, rfl, hidden (fun m x h => by omega), (by repeat (first | (with_reducible exact Below.refl _ _) | (with_reducible assumption) | (with_reducible refine Below.drew ?_) | (with_reducible refine below_drewN ?_ _) | ((with_reducible refine below_alloc ?_ ?_); (focus (first | omega | (simp; done) | (simp; omega)))) | ((with_reducible refine below_set ?_ ?_); (focus (first | omega | (simp; done) | (simp; omega)))))), by simp, hidden (by repeat (first | (with_reducible assumption) | ((with_reducible refine holds_new ?_); (focus (first | rfl | (simp; done)))) | (with_reducible refine Holds.alloc ?_ _) | (with_reducible refine Holds.drew ?_)))⟩
  case round =>
    obtain ⟨k, hk, rfl, HN, hb, hz, P3⟩ := hrel
    by_cases hlt : k < l.length
    · have hx := List.getElem?_eq_getElem hlt
      generalize l[k] = x at *
      obtain ⟨b, off, rfl, _, hat⟩ := (HRo.out _ hb).flat_at (fun _ => rfl) (by decide) hx
      have y0 : wr.cell? ⟨b, off + k * 4, none⟩ = some (.bool x.rule) := hat 0 _ rfl
      have y1 : wr.cell? ⟨b, off + k * 4 + 1, none⟩ = some (.int .i64 x.n) := hat 1 _ rfl
      have HNx : Hid (itemIn g x = true → ∀ (j : Nat) y, j < k + 1 → l[j]? = some y → itemIn g y = true) := hidden (fun h j y hj hy => by
        by_cases e : j = k
        · subst e; rw [hx] at hy; cases hy; exact h
        · exact HN.out j y (by omega) hy)
      have HFx := hidden (HF.out k x hx)
      obtain ⟨s0, s1, s2, s3, s4, s5, s6, s7⟩ := eight P3.out
      have hcs := HIc.out x
      clear hat hx s2 s3 s4 s5 s6 s7
      generalize itemIn g x = ok at *
      rcases hcs with ⟨rfl, h1 | ⟨h0, h2, h1⟩ | ⟨h0, h2, h1⟩⟩ | ⟨rfl, ⟨h0, h2, h1⟩ | ⟨h0, h2, h1⟩⟩
      · have HE := hidden (HFx.out rfl)
        clear HNx HFx HN HT HF HIc
        go_wp2_with fail
        go_quiet (fail)
        go_wp2
        go_ret
        exact ⟨by rw [HE.out]; rfl, below_drewN hb _⟩
      · have HE := hidden (HFx.out rfl)
        clear HNx HFx HN HT HF HIc
        rw [h2] at y0
        clear h2
        have d0 : decide (x.n < 0) = false := decide_eq_false (by omega)
        have d1 : decide ((g.rules.length : Int) ≤ x.n) = true := decide_eq_true (by omega)
        clear h0 h1
        go_wp2_with fail
        go_quiet (fail)
        go_wp2
        go_ret
        exact ⟨by rw [HE.out]; rfl, below_drewN hb _⟩
      · have HE := hidden (HFx.out rfl)
        clear HNx HFx HN HT HF HIc
        rw [h2] at y0
        clear h2
        have d0 : decide (x.n < 0) = false := decide_eq_false (by omega)
        have d1 : decide ((g.toks.length : Int) ≤ x.n) = true := decide_eq_true (by omega)
        clear h0 h1
        go_wp2_with fail
        go_quiet (fail)
        go_wp2
        go_ret
        exact ⟨by rw [HE.out]; rfl, below_drewN hb _⟩
      · have HN2 := hidden (HNx.out rfl)
        clear HNx HFx HN
        rw [h2] at y0
        clear h2
        have d0 : decide (x.n < 0) = false := decide_eq_false (by omega)
        have d1 : decide ((g.rules.length : Int) ≤ x.n) = false := decide_eq_false (by omega)
        clear h0 h1
        go_wp2_with fail
        go_quiet (fail)
        go_wp2
        go_roundw
        case rel => exact ⟨k + 1, by omega, by go_num, HN2, below_drewN hb _, hz, P3⟩
        case measure => simp [intOf]; omega
      · have HN2 := hidden (HNx.out rfl)
        clear HNx HFx HN
        rw [h2] at y0
        clear h2
        have d0 : decide (x.n < 0) = false := decide_eq_false (by omega)
        have d1 : decide ((g.toks.length : Int) ≤ x.n) = false := decide_eq_false (by omega)
        clear h0 h1
        go_wp2_with fail
        go_quiet (fail)
        go_wp2
        go_roundw
        case rel => exact ⟨k + 1, by omega, by go_num, HN2, below_drewN hb _, hz, P3⟩
        case measure => simp [intOf]; omega
    · obtain rfl : k = l.length := by omega
      have HE := hidden (HT.out (fun j x h1 h2 => HN.out j x h1 h2))
      go_wp2
      go_ret
      exact ⟨by rw [HE.out]; rfl, hb⟩
end Go.Proofs.Ytmlggfapnkhcaaa
