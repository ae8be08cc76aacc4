/-
  lead.class, and the document's Is: of which class the token of a number is.
-/
import Derived.Test.YtbjheaiiajpifaaG1
import Derived.Test.YtbjheaiiajpifaaT1
namespace Go.Proofs.Ytbjheaiiajpifaa.T
open Go.RowKit Go.Shelf

/-- The class of the token of a number; 0 where there is none. -/
def clsAt (ts : List Token) (t : Int) : Int := if t < 0 then 0 else match ts[t.toNat]? with | some x => x.cls | none => 0
def classI (c : Int) : Int := if c = 2 ∨ c = 3 then 2 else if c = 1 then 1 else 0
def noteB (ts : List Token) (t : Int) : Bool := decide (clsAt ts t = 2) || decide (clsAt ts t = 3)
def notesOf (ts : List Token) (ps : List Piece) : List Piece := ps.filter fun p => noteB ts p.tok
theorem class_note (ts : List Token) (t : Int) : decide (1 < classI (clsAt ts t)) = noteB ts t := by
  unfold noteB classI
  generalize clsAt ts t = c
  by_cases h2 : c = 2
  · subst h2; rfl
  · by_cases h3 : c = 3
    · subst h3; rfl
    · rw [if_neg (by omega)]
      simp only [h2, h3, decide_false, Bool.or_false]
      split <;> rfl
theorem clsAt_lt {ts : List Token} {t : Int} (h : t < 0) : clsAt ts t = 0 := if_pos h
theorem clsAt_ge {ts : List Token} {k : Nat} (h : ¬ k < ts.length) : clsAt ts (k : Int) = 0 := by
  unfold clsAt
  rw [if_neg (by omega), Int.toNat_natCast, List.getElem?_eq_none (by omega)]
theorem clsAt_at {ts : List Token} {k : Nat} {x : Token} (h : ts[k]? = some x) : clsAt ts (k : Int) = x.cls := by
  unfold clsAt
  rw [if_neg (by omega), Int.toNat_natCast, h]

set_option maxRecDepth 20000 in
set_option maxHeartbeats 2000000 in
theorem lead_class (v : Value) (ts : List Token) (t : Int) (T : Nat → Prop) (w : World) (hR : Recs tokR w T v ts) :
    Calls Try.prog 119 #[v, .int .i64 t] w fun r w' => r = .returned (.int .i64 (classI (clsAt ts t))) ∧ w = w' := by
  obtain ⟨A, c, rfl, hc1, hc2⟩ := hR.value
  unfold maxLen at hc2
  by_cases h0 : t < 0
  · rw [clsAt_lt h0, show classI 0 = 0 from rfl]
    clear hR
    go_enter Try.func119, Try.ntmps119
    go_wp2
    go_ret
    exact ⟨rfl, rfl⟩
  · obtain ⟨k, rfl⟩ : ∃ k : Nat, t = (k : Int) := ⟨t.toNat, by omega⟩
    by_cases hk : k < ts.length
    · have hx := List.getElem?_eq_getElem hk
      obtain ⟨b, off, l, rfl, _, hat, _⟩ := hR.at_ hx
      have x2 := hat 2 _ rfl
      rw [clsAt_at hx]
      generalize ts[k].cls = cl at *
      clear hat hR hx
      change w.cell? ⟨b, off + k * 3 + 2, none⟩ = _ at x2
      unfold classI
      by_cases h2 : cl = 2
      · subst h2
        go_enter Try.func119, Try.ntmps119
        go_wp2
        go_ret
        exact ⟨rfl, rfl⟩
      · by_cases h3 : cl = 3
        · subst h3
          go_enter Try.func119, Try.ntmps119
          go_wp2
          go_ret
          exact ⟨rfl, rfl⟩
        · rw [if_neg (by omega)]
          have q2 : (cl == 2) = false := by simpa using h2
          have q3 : (cl == 3) = false := by simpa using h3
          by_cases h1 : cl = 1
          · subst h1
            go_enter Try.func119, Try.ntmps119
            go_wp2
            go_ret
            exact ⟨rfl, rfl⟩
          · rw [if_neg h1]
            have q1 : (cl == 1) = false := by simpa using h1
            go_enter Try.func119, Try.ntmps119
            go_wp2
            go_ret
            exact ⟨rfl, rfl⟩
    · rw [clsAt_ge hk, show classI 0 = 0 from rfl]
      clear hR
      go_enter Try.func119, Try.ntmps119
      go_wp2
      go_ret
      exact ⟨rfl, rfl⟩

set_option maxRecDepth 20000 in
set_option maxHeartbeats 2000000 in
theorem ref_Is17 (v : Value) (ts : List Token) (t c0 : Int) (T : Nat → Prop) (w : World) (hR : Recs tokR w T v ts) (hc : c0 ≠ 0) :
    Calls Try.prog 96 #[v, .int .i64 t, .int .i64 c0] w fun r w' => r = .returned (.bool (decide (clsAt ts t = c0))) ∧ w = w' := by
  obtain ⟨A, c, rfl, hc1, hc2⟩ := hR.value
  unfold maxLen at hc2
  by_cases h0 : t < 0
  · rw [clsAt_lt h0, decide_eq_false (fun e => hc e.symm)]
    have h0' : ¬ (0 ≤ t) := by omega
    clear hR
    go_enter Try.func96, Try.ntmps96
    go_wp2
    go_ret
    exact ⟨rfl, rfl⟩
  · obtain ⟨k, rfl⟩ : ∃ k : Nat, t = (k : Int) := ⟨t.toNat, by omega⟩
    by_cases hk : k < ts.length
    · have hx := List.getElem?_eq_getElem hk
      obtain ⟨b, off, l, rfl, _, hat, _⟩ := hR.at_ hx
      have x2 := hat 2 _ rfl
      rw [clsAt_at hx]
      generalize ts[k].cls = cl at *
      clear hat hR hx
      change w.cell? ⟨b, off + k * 3 + 2, none⟩ = _ at x2
      go_enter Try.func96, Try.ntmps96
      go_wp2
      go_ret
      exact ⟨by rw [← Bool.beq_eq_decide_eq]; rfl, rfl⟩
    · rw [clsAt_ge hk, decide_eq_false (fun e => hc e.symm)]
      clear hR
      go_enter Try.func96, Try.ntmps96
      go_wp2
      go_ret
      exact ⟨rfl, rfl⟩
end Go.Proofs.Ytbjheaiiajpifaa.T
