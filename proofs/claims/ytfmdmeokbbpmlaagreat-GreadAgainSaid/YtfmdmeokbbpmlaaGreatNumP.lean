/-
  Numbers in digits, plainly: what is told of a number, and what is read of a text.
-/
import Derived.Test.YtfmdmeokbbpmlaaGreatB1
namespace Go.Proofs.YtfmdmeokbbpmlaaGreat
open Go.RowKit Go.Shelf

def digC (d : Nat) : UInt8 := UInt8.ofNat (48 + d)
def digs (n : Nat) : List UInt8 := if n < 10 then [digC n] else digs (n / 10) ++ [digC (n % 10)]
termination_by n
decreasing_by omega
theorem digs_lt {n : Nat} (h : n < 10) : digs n = [digC n] := by rw [digs, if_pos h]
theorem digs_ge {n : Nat} (h : 10 ≤ n) : digs n = digs (n / 10) ++ [digC (n % 10)] := by rw [digs, if_neg (by omega)]
theorem digs_len_pos (n : Nat) : 1 ≤ (digs n).length := by
  by_cases h : n < 10
  · rw [digs_lt h]; exact Nat.le_refl _
  · rw [digs_ge (by omega)]; simp
theorem digs_len (k : Nat) : ∀ n, n < 10 ^ (k + 1) → (digs n).length ≤ k + 1 := by
  induction k with
  | zero => intro n h; rw [digs_lt (by omega)]; exact Nat.le_refl _
  | succ k ih =>
    intro n h
    by_cases h1 : n < 10
    · rw [digs_lt h1]; simp
    · rw [digs_ge (by omega), List.length_append]
      have := ih (n / 10) (by rw [Nat.div_lt_iff_lt_mul (by omega)]; rw [Nat.pow_succ] at h; omega)
      simp
      omega
theorem digC_nat {d : Nat} (h : d < 10) : (digC d).toNat = 48 + d := by
  unfold digC
  rw [UInt8.toNat_ofNat']
  omega
theorem digC_rec (n : Nat) : ∃ d, d < 10 ∧ digC (n % 10) = digC d := ⟨n % 10, Nat.mod_lt _ (by omega), rfl⟩
theorem digs_all (n : Nat) : ∀ c ∈ digs n, 48 ≤ c.toNat ∧ c.toNat ≤ 57 := by
  induction n using Nat.strongRecOn with
  | _ n ih =>
    intro c hc
    by_cases h : n < 10
    · rw [digs_lt h] at hc
      simp at hc; subst hc
      rw [digC_nat h]; omega
    · rw [digs_ge (by omega)] at hc
      rcases List.mem_append.1 hc with hc | hc
      · exact ih (n / 10) (by omega) c hc
      · simp at hc; subst hc
        rw [digC_nat (Nat.mod_lt _ (by omega))]
        have := Nat.mod_lt n (show 10 > 0 by omega)
        omega
/-- The first digit is no 0, but of 0. -/
theorem digs_head (n : Nat) : ∃ c r, digs n = c :: r ∧ (c.toNat = 48 → r = [] ∧ n = 0) := by
  induction n using Nat.strongRecOn with
  | _ n ih =>
    by_cases h : n < 10
    · rw [digs_lt h]
      refine ⟨_, _, rfl, fun h0 => ⟨rfl, ?_⟩⟩
      rw [digC_nat h] at h0; omega
    · rw [digs_ge (by omega)]
      obtain ⟨c, r, e, h0⟩ := ih (n / 10) (by omega)
      rw [e]
      refine ⟨c, _, rfl, fun h1 => ?_⟩
      have := (h0 h1).2
      omega

/-- What num.Show tells. -/
def showI (n : Int) : List UInt8 := if n < 0 then [] else digs n.toNat
theorem showI_nat (n : Nat) : showI (n : Int) = digs n := by unfold showI; rw [if_neg (by omega), Int.toNat_natCast]

/-- A step of the number that is read: none, as soon as it is above the most. -/
def stepN (most : Int) (o : Option Int) (c : UInt8) : Option Int := match o with
  | none => none
  | some n => if most < (c.toNat : Int) - 48 ∨ (most - ((c.toNat : Int) - 48)) / 10 < n then none else some (n * 10 + ((c.toNat : Int) - 48))
def digitB (c : UInt8) : Bool := decide (48 ≤ c.toNat) && decide (c.toNat ≤ 57)
/-- Is it none: empty, a 0 ahead, or a sign that is no digit? -/
def badN : List UInt8 → Bool
  | [] => true
  | c :: r => (decide (c.toNat = 48) && !r.isEmpty) || !((c :: r).all digitB)
/-- What num.Read gives: the number, and the error. -/
def readN (l : List UInt8) (most : Int) : Int × Int :=
  if badN l = true then (0, 3)
  else match l.foldl (stepN most) (some 0) with
    | none => (0, 2)
    | some n => (n, 0)
theorem fold_digs (most : Int) : ∀ n : Nat, (n : Int) ≤ most → (digs n).foldl (stepN most) (some 0) = some (n : Int) := by
  intro n
  induction n using Nat.strongRecOn with
  | _ n ih =>
    intro hm
    by_cases h : n < 10
    · rw [digs_lt h]
      simp only [List.foldl_cons, List.foldl_nil, stepN]
      rw [digC_nat h, if_neg (by push_cast; omega)]
      push_cast
      congr 1
      omega
    · rw [digs_ge (by omega), List.foldl_append, ih (n / 10) (by omega) (by omega)]
      have hd := Nat.mod_lt n (show 10 > 0 by omega)
      simp only [List.foldl_cons, List.foldl_nil, stepN]
      rw [digC_nat hd, if_neg (by push_cast; omega)]
      push_cast
      congr 1
      omega
theorem digs_good (n : Nat) : badN (digs n) = false := by
  obtain ⟨c, r, e, h0⟩ := digs_head n
  have hall : (digs n).all digitB = true := List.all_eq_true.2 fun x hx => by
    have := digs_all n x hx
    simp [digitB, this]
  rw [e] at hall ⊢
  show (decide (c.toNat = 48) && !r.isEmpty || !(c :: r).all digitB) = false
  rw [hall]
  by_cases h : c.toNat = 48
  · rw [(h0 h).1]; simp
  · simp [h]
/-- What is told of a number that is not above the most is read as it. -/
theorem read_digs (most : Int) (n : Nat) (h : (n : Int) ≤ most) : readN (digs n) most = ((n : Int), 0) := by
  unfold readN
  rw [digs_good, if_neg (by decide), fold_digs most n h]
end Go.Proofs.YtfmdmeokbbpmlaaGreat
