/-
  Sets of bytes as four words, and how many bits a word has, plainly. Expressions as trees, plainly: their steps, and which steps are some tree's. Expressions as texts, plainly. Sets of bytes: bset.One, Span, Not, and the document's with, One, Span, Has. Sets of bytes: the document's Has, with, One, Span, Two, Not. Sets of bytes: the document's One, Span, Two, Not. Sets of bytes: the document's Two, Not. Sets of bytes: the document's Not. math/bits.OnesCount64; bset.Count. Sets of bytes, plainly: the lowest bit of a word, taken out; the bytes of a set as they are found. math/bits.TrailingZeros64
-/
import Derived.Laws.BitsAllLaws
import Derived.Test.YtfmdmeokbbpmlaaGreatG1
import Derived.Test.YtfmdmeokbbpmlaaGreatB1
import Derived.Laws.ShiftsVarLaws
import Derived.Laws.DeepNot64
import Derived.Deep.RegionHeld3
import Derived.Laws.Bits128
import Derived.Lib.TrailingZeros
import Derived.Shelf.Spec.TrailingZeros
import Derived.Laws.MakeOwn
import Derived.Laws.OwnMore
namespace Go.Proofs.YtfmdmeokbbpmlaaGreat

/-! Sets of bytes as four words. -/
def packN (f : Nat → Bool) (k : Nat) : Nat → Nat
  | 0 => 0
  | n + 1 => packN f k n ||| (if f (64 * k + n) = true then 2 ^ n else 0)
theorem packN_bit (f : Nat → Bool) (k : Nat) : ∀ n j, (packN f k n).testBit j = (decide (j < n) && f (64 * k + j)) := by
  intro n
  induction n with
  | zero => intro j; simp [packN]
  | succ n ih =>
    intro j
    rw [packN, Nat.testBit_or, ih]
    by_cases hj : j = n
    · subst hj
      cases hf : f (64 * k + j)
      · simp
      · simp [Nat.testBit_two_pow_self]
    · have h1 : decide (j < n + 1) = decide (j < n) := by
        rw [Bool.eq_iff_iff, decide_eq_true_eq, decide_eq_true_eq]; omega
      rw [h1]
      split
      · rw [Nat.testBit_two_pow]
        have : decide (n = j) = false := decide_eq_false (fun e => hj e.symm)
        rw [this, Bool.or_false]
      · simp
theorem packN_lt (f : Nat → Bool) (k n : Nat) : packN f k n < 2 ^ n := by
  apply Nat.lt_pow_two_of_testBit
  intro i hi
  rw [packN_bit]
  have : decide (i < n) = false := decide_eq_false (by omega)
  rw [this, Bool.false_and]
/-- A set's word. -/
def wd (f : Nat → Bool) (k : Nat) : Nat := packN f k 64
theorem wd_lt (f : Nat → Bool) (k : Nat) : wd f k < 18446744073709551616 := packN_lt f k 64
theorem wd_bit (f : Nat → Bool) (k j : Nat) (h : j < 64) : (wd f k).testBit j = f (64 * k + j) := by
  unfold wd; rw [packN_bit, decide_eq_true h, Bool.true_and]
theorem wd_eq {f : Nat → Bool} {k n : Nat} (hn : n < 18446744073709551616) (h : ∀ j, j < 64 → n.testBit j = f (64 * k + j)) : n = wd f k := by
  apply Nat.eq_of_testBit_eq
  intro j
  by_cases hj : j < 64
  · rw [h j hj, wd_bit f k j hj]
  · have e : ∀ m : Nat, m < 18446744073709551616 → m.testBit j = false := fun m hm => Nat.testBit_lt_two_pow (Nat.lt_of_lt_of_le hm (by
      have : (2 : Nat) ^ 64 ≤ 2 ^ j := Nat.pow_le_pow_right (by decide) (by omega)
      exact this))
    rw [e n hn, e _ (wd_lt f k)]
theorem wd_ext {f g : Nat → Bool} {k : Nat} (h : ∀ j, j < 64 → f (64 * k + j) = g (64 * k + j)) : wd f k = wd g k :=
  wd_eq (wd_lt f k) (fun j hj => by rw [wd_bit f k j hj, h j hj])
/-- Two sets have the same words just if they have the same bytes. -/
theorem wd_same {f g : Nat → Bool} : (wd f 0 = wd g 0 ∧ wd f 1 = wd g 1 ∧ wd f 2 = wd g 2 ∧ wd f 3 = wd g 3) ↔ ∀ b, b < 256 → f b = g b := by
  constructor
  · rintro ⟨h0, h1, h2, h3⟩ b hb
    have hk : b / 64 = 0 ∨ b / 64 = 1 ∨ b / 64 = 2 ∨ b / 64 = 3 := by omega
    have e : b = 64 * (b / 64) + b % 64 := by omega
    have hj : b % 64 < 64 := by omega
    have hw : wd f (b / 64) = wd g (b / 64) := by rcases hk with h | h | h | h <;> rw [h] <;> assumption
    rw [e, ← wd_bit f (b / 64) (b % 64) hj, ← wd_bit g (b / 64) (b % 64) hj, hw]
  · intro h
    exact ⟨wd_ext (fun j hj => h _ (by omega)), wd_ext (fun j hj => h _ (by omega)), wd_ext (fun j hj => h _ (by omega)), wd_ext (fun j hj => h _ (by omega))⟩
/-- The bytes of four words. -/
def memW (a b c d : Nat) (i : Nat) : Bool := (if i / 64 = 0 then a else if i / 64 = 1 then b else if i / 64 = 2 then c else d).testBit (i % 64)
theorem memW_wd (a b c d : Nat) (ha : a < 18446744073709551616) (hb : b < 18446744073709551616) (hc : c < 18446744073709551616) (hd : d < 18446744073709551616) :
    a = wd (memW a b c d) 0 ∧ b = wd (memW a b c d) 1 ∧ c = wd (memW a b c d) 2 ∧ d = wd (memW a b c d) 3 := by
  refine ⟨wd_eq ha ?_, wd_eq hb ?_, wd_eq hc ?_, wd_eq hd ?_⟩
  all_goals
    intro j hj
    unfold memW
  · rw [if_pos (by omega), show (64 * 0 + j) % 64 = j by omega]
  · rw [if_neg (by omega), if_pos (by omega), show (64 * 1 + j) % 64 = j by omega]
  · rw [if_neg (by omega), if_neg (by omega), if_pos (by omega), show (64 * 2 + j) % 64 = j by omega]
  · rw [if_neg (by omega), if_neg (by omega), if_neg (by omega), show (64 * 3 + j) % 64 = j by omega]
/-- A byte more. -/
theorem wd_or (f : Nat → Bool) (k j : Nat) (hj : j < 64) : wd f k ||| 2 ^ j = wd (fun b => f b || decide (b = 64 * k + j)) k := by
  refine wd_eq ?_ (fun i hi => ?_)
  · have h1 : (2 : Nat) ^ j < 2 ^ 64 := Nat.pow_lt_pow_right (by decide) hj
    exact Nat.or_lt_two_pow (n := 64) (wd_lt f k) h1
  · rw [Nat.testBit_or, wd_bit f k i hi, Nat.testBit_two_pow]
    congr 1
    rw [Bool.eq_iff_iff, decide_eq_true_eq, decide_eq_true_eq]; omega
theorem wd_other (f : Nat → Bool) (k m j : Nat) (hj : j < 64) (h : m ≠ k) : wd (fun b => f b || decide (b = 64 * k + j)) m = wd f m :=
  wd_ext (fun i hi => by
    have : decide (64 * m + i = 64 * k + j) = false := decide_eq_false (by omega)
    rw [this, Bool.or_false])
theorem wd_none (k : Nat) : wd (fun _ => false) k = 0 := (wd_eq (by decide) (fun j _ => by simp)).symm
theorem wd_not (f : Nat → Bool) (k : Nat) : 18446744073709551615 - wd f k = wd (fun b => !f b) k := by
  refine wd_eq (by omega) (fun j hj => ?_)
  have h := Nat.testBit_two_pow_sub_succ (wd_lt f k) (x := wd f k) (n := 64) j
  rw [show (18446744073709551615 : Nat) - wd f k = 2 ^ 64 - (wd f k + 1) by omega, h, decide_eq_true hj, wd_bit f k j hj, Bool.true_and]
theorem wd_union (f g : Nat → Bool) (k : Nat) : wd f k ||| wd g k = wd (fun b => f b || g b) k :=
  wd_eq (Nat.or_lt_two_pow (n := 64) (wd_lt f k) (wd_lt g k)) (fun j hj => by rw [Nat.testBit_or, wd_bit f k j hj, wd_bit g k j hj])
theorem wd_has (f : Nat → Bool) (k j : Nat) (hj : j < 64) : wd f k / 2 ^ j % 2 = if f (64 * k + j) = true then 1 else 0 := by
  have h := wd_bit f k j hj
  rw [Nat.testBit_eq_decide_div_mod_eq] at h
  have h2 : wd f k / 2 ^ j % 2 < 2 := Nat.mod_lt _ (by decide)
  cases hf : f (64 * k + j)
  · rw [hf] at h
    have := of_decide_eq_false h
    simp; omega
  · rw [hf] at h
    simp [of_decide_eq_true h]

/-! Counting -/
def cntN (f : Nat → Bool) (n : Nat) : Nat := ((List.range n).filter f).length
theorem cntN_succ (f : Nat → Bool) (n : Nat) : cntN f (n + 1) = cntN f n + if f n = true then 1 else 0 := by
  unfold cntN
  rw [List.range_succ, List.filter_append, List.length_append]
  congr 1
  cases h : f n <;> simp [h]
theorem cntN_le (f : Nat → Bool) (n : Nat) : cntN f n ≤ n := by
  unfold cntN; exact Nat.le_trans (List.length_filter_le _ _) (by simp)

/-! How many bits a word has, as math/bits tells it. -/
def popN (x : Nat) : Nat → Nat
  | 0 => 0
  | n + 1 => popN x n + x / 2 ^ n % 2
theorem and_bytes (x m : Nat) : x &&& m = (x % 256 &&& m % 256) + 256 * (x / 256 &&& m / 256) := by
  have h1 : (x &&& m) % 2 ^ 8 = x % 2 ^ 8 &&& m % 2 ^ 8 := Nat.and_mod_two_pow
  have h2 : (x &&& m) / 2 ^ 8 = x / 2 ^ 8 &&& m / 2 ^ 8 := Nat.and_div_two_pow ..
  have h3 := Nat.div_add_mod (x &&& m) (2 ^ 8)
  rw [h1, h2] at h3
  rw [show (2 : Nat) ^ 8 = 256 from rfl] at h3
  omega
/-- A number of its bytes. -/
def ofB : List Nat → Nat
  | [] => 0
  | a :: l => a + 256 * ofB l
theorem and_ofB : ∀ (l m : List Nat), l.length = m.length → (∀ a ∈ l, a < 256) → (∀ a ∈ m, a < 256) → ofB l &&& ofB m = ofB (List.zipWith (· &&& ·) l m) := by
  intro l
  induction l with
  | nil => intro m h _ _; cases m with
    | nil => rfl
    | cons _ _ => cases h
  | cons a l ih =>
    intro m h h1 h2
    cases m with
    | nil => cases h
    | cons b m =>
      have ha := h1 a List.mem_cons_self
      have hb := h2 b List.mem_cons_self
      rw [List.zipWith_cons_cons, ofB, ofB, ofB, and_bytes, ← ih m (by simpa using h) (fun x hx => h1 x (List.mem_cons_of_mem _ hx)) (fun x hx => h2 x (List.mem_cons_of_mem _ hx))]
      rw [show (a + 256 * ofB l) % 256 = a by omega, show (b + 256 * ofB m) % 256 = b by omega, show (a + 256 * ofB l) / 256 = ofB l by omega, show (b + 256 * ofB m) / 256 = ofB m by omega]
theorem popN_bit (a y j : Nat) (hj : j < 8) : (a + 256 * y) / 2 ^ j % 2 = a / 2 ^ j % 2 := by
  have : j = 0 ∨ j = 1 ∨ j = 2 ∨ j = 3 ∨ j = 4 ∨ j = 5 ∨ j = 6 ∨ j = 7 := by omega
  rcases this with rfl | rfl | rfl | rfl | rfl | rfl | rfl | rfl <;> omega
theorem popN_low (a y : Nat) : ∀ n, n ≤ 8 → popN (a + 256 * y) n = popN a n := by
  intro n
  induction n with
  | zero => intro _; rfl
  | succ n ih => intro h; rw [popN, popN, ih (by omega), popN_bit a y n (by omega)]
theorem popN_cons (a y : Nat) (ha : a < 256) : ∀ n, popN (a + 256 * y) (8 + n) = popN a 8 + popN y n := by
  intro n
  induction n with
  | zero => rw [Nat.add_zero, popN_low a y 8 (Nat.le_refl _)]; rfl
  | succ n ih =>
    have h9 : (a + 256 * y) / 2 ^ (8 + n) = y / 2 ^ n := by
      rw [Nat.pow_add, ← Nat.div_div_eq_div_mul, show (a + 256 * y) / 2 ^ 8 = y by omega]
    rw [show 8 + (n + 1) = (8 + n) + 1 by omega, popN, ih, h9, show popN y (n + 1) = popN y n + y / 2 ^ n % 2 from rfl, Nat.add_assoc]
theorem popN_ofB : ∀ l : List Nat, (∀ a ∈ l, a < 256) → popN (ofB l) (8 * l.length) = (l.map (fun a => popN a 8)).sum := by
  intro l
  induction l with
  | nil => intro _; rfl
  | cons a l ih =>
    intro h
    rw [ofB, List.length_cons, show 8 * (l.length + 1) = 8 + 8 * l.length by omega, popN_cons a _ (h a List.mem_cons_self), ih (fun x hx => h x (List.mem_cons_of_mem _ hx))]
    rfl
def onesF1 (a : Nat) : Nat := (a / 2 &&& 85) + (a &&& 85)
def onesF2 (a : Nat) : Nat := (a / 4 &&& 51) + (a &&& 51)
theorem byte1 : ∀ a, a < 256 → onesF1 a < 256 ∧ onesF2 (onesF1 a) < 256 ∧ onesF2 (onesF1 a) % 16 ≤ 4 ∧ onesF2 (onesF1 a) / 16 ≤ 4 ∧ onesF2 (onesF1 a) % 16 + onesF2 (onesF1 a) / 16 = popN a 8 := by decide +kernel
theorem mask1 : ∀ b, b < 128 → ∀ c, c < 2 → (b + 128 * c) &&& 85 = b &&& 85 := by decide +kernel
theorem mask2 : ∀ b, b < 64 → ∀ c, c < 4 → (b + 64 * c) &&& 51 = b &&& 51 := by decide +kernel
theorem mask3 (a : Nat) : a &&& 15 = a % 16 := Nat.and_two_pow_sub_one_eq_mod a 4
theorem lt8 {a0 a1 a2 a3 a4 a5 a6 a7 : Nat} {n : Nat} (h : a0 < n ∧ a1 < n ∧ a2 < n ∧ a3 < n ∧ a4 < n ∧ a5 < n ∧ a6 < n ∧ a7 < n) : ∀ a ∈ [a0, a1, a2, a3, a4, a5, a6, a7], a < n := by
  intro a ha
  simp only [List.mem_cons, List.not_mem_nil, or_false] at ha
  omega
theorem and8 (a0 a1 a2 a3 a4 a5 a6 a7 m : Nat) (h : a0 < 256 ∧ a1 < 256 ∧ a2 < 256 ∧ a3 < 256 ∧ a4 < 256 ∧ a5 < 256 ∧ a6 < 256 ∧ a7 < 256) (hm : m < 256) :
    ofB [a0, a1, a2, a3, a4, a5, a6, a7] &&& ofB [m, m, m, m, m, m, m, m] = ofB [a0 &&& m, a1 &&& m, a2 &&& m, a3 &&& m, a4 &&& m, a5 &&& m, a6 &&& m, a7 &&& m] :=
  and_ofB _ _ rfl (lt8 h) (lt8 ⟨hm, hm, hm, hm, hm, hm, hm, hm⟩)
theorem add8 (a0 a1 a2 a3 a4 a5 a6 a7 b0 b1 b2 b3 b4 b5 b6 b7 : Nat) : ofB [a0, a1, a2, a3, a4, a5, a6, a7] + ofB [b0, b1, b2, b3, b4, b5, b6, b7] = ofB [a0 + b0, a1 + b1, a2 + b2, a3 + b3, a4 + b4, a5 + b5, a6 + b6, a7 + b7] := by
  simp only [ofB]; omega
theorem div8_2 (a0 a1 a2 a3 a4 a5 a6 a7 : Nat) : ofB [a0, a1, a2, a3, a4, a5, a6, a7] / 2 = ofB [a0 / 2 + 128 * (a1 % 2), a1 / 2 + 128 * (a2 % 2), a2 / 2 + 128 * (a3 % 2), a3 / 2 + 128 * (a4 % 2), a4 / 2 + 128 * (a5 % 2), a5 / 2 + 128 * (a6 % 2), a6 / 2 + 128 * (a7 % 2), a7 / 2] := by
  simp only [ofB]; omega
theorem div8_4 (a0 a1 a2 a3 a4 a5 a6 a7 : Nat) : ofB [a0, a1, a2, a3, a4, a5, a6, a7] / 4 = ofB [a0 / 4 + 64 * (a1 % 4), a1 / 4 + 64 * (a2 % 4), a2 / 4 + 64 * (a3 % 4), a3 / 4 + 64 * (a4 % 4), a4 / 4 + 64 * (a5 % 4), a5 / 4 + 64 * (a6 % 4), a6 / 4 + 64 * (a7 % 4), a7 / 4] := by
  simp only [ofB]; omega
theorem div8_16 (a0 a1 a2 a3 a4 a5 a6 a7 : Nat) : ofB [a0, a1, a2, a3, a4, a5, a6, a7] / 16 = ofB [a0 / 16 + 16 * (a1 % 16), a1 / 16 + 16 * (a2 % 16), a2 / 16 + 16 * (a3 % 16), a3 / 16 + 16 * (a4 % 16), a4 / 16 + 16 * (a5 % 16), a5 / 16 + 16 * (a6 % 16), a6 / 16 + 16 * (a7 % 16), a7 / 16] := by
  simp only [ofB]; omega
def onesS1 (x : Nat) : Nat := (x / 2 &&& 6148914691236517205) + (x &&& 6148914691236517205)
def onesS2 (x : Nat) : Nat := (x / 4 &&& 3689348814741910323) + (x &&& 3689348814741910323)
def onesS3 (x : Nat) : Nat := (x / 16 + x) &&& 1085102592571150095
theorem ones1 (a0 a1 a2 a3 a4 a5 a6 a7 : Nat) (h : a0 < 256 ∧ a1 < 256 ∧ a2 < 256 ∧ a3 < 256 ∧ a4 < 256 ∧ a5 < 256 ∧ a6 < 256 ∧ a7 < 256) :
    onesS1 (ofB [a0, a1, a2, a3, a4, a5, a6, a7]) = ofB [onesF1 a0, onesF1 a1, onesF1 a2, onesF1 a3, onesF1 a4, onesF1 a5, onesF1 a6, onesF1 a7] := by
  unfold onesS1
  rw [show (6148914691236517205 : Nat) = ofB [85, 85, 85, 85, 85, 85, 85, 85] from rfl, div8_2, and8 _ _ _ _ _ _ _ _ _ (by omega) (by decide), and8 _ _ _ _ _ _ _ _ _ h (by decide), add8]
  have e : ∀ b c, b < 256 → (b / 2 + 128 * (c % 2)) &&& 85 = b / 2 &&& 85 := fun b c hb => mask1 (b / 2) (by omega) (c % 2) (by omega)
  rw [e a0 a1 (by omega), e a1 a2 (by omega), e a2 a3 (by omega), e a3 a4 (by omega), e a4 a5 (by omega), e a5 a6 (by omega), e a6 a7 (by omega)]
  rfl
theorem ones2 (a0 a1 a2 a3 a4 a5 a6 a7 : Nat) (h : a0 < 256 ∧ a1 < 256 ∧ a2 < 256 ∧ a3 < 256 ∧ a4 < 256 ∧ a5 < 256 ∧ a6 < 256 ∧ a7 < 256) :
    onesS2 (ofB [a0, a1, a2, a3, a4, a5, a6, a7]) = ofB [onesF2 a0, onesF2 a1, onesF2 a2, onesF2 a3, onesF2 a4, onesF2 a5, onesF2 a6, onesF2 a7] := by
  unfold onesS2
  rw [show (3689348814741910323 : Nat) = ofB [51, 51, 51, 51, 51, 51, 51, 51] from rfl, div8_4, and8 _ _ _ _ _ _ _ _ _ (by omega) (by decide), and8 _ _ _ _ _ _ _ _ _ h (by decide), add8]
  have e : ∀ b c, b < 256 → (b / 4 + 64 * (c % 4)) &&& 51 = b / 4 &&& 51 := fun b c hb => mask2 (b / 4) (by omega) (c % 4) (by omega)
  rw [e a0 a1 (by omega), e a1 a2 (by omega), e a2 a3 (by omega), e a3 a4 (by omega), e a4 a5 (by omega), e a5 a6 (by omega), e a6 a7 (by omega)]
  rfl
theorem ones3 (a0 a1 a2 a3 a4 a5 a6 a7 : Nat) (h : a0 < 256 ∧ a1 < 256 ∧ a2 < 256 ∧ a3 < 256 ∧ a4 < 256 ∧ a5 < 256 ∧ a6 < 256 ∧ a7 < 256)
    (m : a0 % 16 ≤ 4 ∧ a1 % 16 ≤ 4 ∧ a2 % 16 ≤ 4 ∧ a3 % 16 ≤ 4 ∧ a4 % 16 ≤ 4 ∧ a5 % 16 ≤ 4 ∧ a6 % 16 ≤ 4 ∧ a7 % 16 ≤ 4)
    (k : a0 / 16 ≤ 4 ∧ a1 / 16 ≤ 4 ∧ a2 / 16 ≤ 4 ∧ a3 / 16 ≤ 4 ∧ a4 / 16 ≤ 4 ∧ a5 / 16 ≤ 4 ∧ a6 / 16 ≤ 4 ∧ a7 / 16 ≤ 4) :
    onesS3 (ofB [a0, a1, a2, a3, a4, a5, a6, a7]) = ofB [a0 % 16 + a0 / 16, a1 % 16 + a1 / 16, a2 % 16 + a2 / 16, a3 % 16 + a3 / 16, a4 % 16 + a4 / 16, a5 % 16 + a5 / 16, a6 % 16 + a6 / 16, a7 % 16 + a7 / 16] := by
  unfold onesS3
  rw [show (1085102592571150095 : Nat) = ofB [15, 15, 15, 15, 15, 15, 15, 15] from rfl, div8_16, add8, and8 _ _ _ _ _ _ _ _ _ (by omega) (by decide)]
  simp only [mask3]
  have e : ∀ a c, a % 16 ≤ 4 → a / 16 ≤ 4 → (a / 16 + 16 * (c % 16) + a) % 16 = a % 16 + a / 16 := by intro a c h1 h2; omega
  have e7 : (a7 / 16 + a7) % 16 = a7 % 16 + a7 / 16 := by omega
  rw [e a0 a1 (by omega) (by omega), e a1 a2 (by omega) (by omega), e a2 a3 (by omega) (by omega), e a3 a4 (by omega) (by omega), e a4 a5 (by omega) (by omega), e a5 a6 (by omega) (by omega), e a6 a7 (by omega) (by omega), e7]
theorem ofB_bytes (x : Nat) (h : x < 18446744073709551616) : x = ofB [x % 256, x / 256 % 256, x / 65536 % 256, x / 16777216 % 256, x / 4294967296 % 256, x / 1099511627776 % 256, x / 281474976710656 % 256, x / 72057594037927936 % 256] := by
  simp only [ofB]; omega
set_option maxHeartbeats 4000000 in
/-- As math/bits counts. -/
theorem ones_pop (x : Nat) (h : x < 18446744073709551616) : onesS1 x < 18446744073709551616 ∧ onesS2 (onesS1 x) / 16 + onesS2 (onesS1 x) < 18446744073709551616 ∧ onesS2 (onesS1 x) < 18446744073709551616 ∧
    (∃ p0 p1 p2 p3 p4 p5 p6 p7 : Nat, p0 ≤ 8 ∧ p1 ≤ 8 ∧ p2 ≤ 8 ∧ p3 ≤ 8 ∧ p4 ≤ 8 ∧ p5 ≤ 8 ∧ p6 ≤ 8 ∧ p7 ≤ 8 ∧ onesS3 (onesS2 (onesS1 x)) = ofB [p0, p1, p2, p3, p4, p5, p6, p7] ∧ popN x 64 = p0 + p1 + p2 + p3 + p4 + p5 + p6 + p7) := by
  have e := ofB_bytes x h
  generalize h0 : x % 256 = a0 at e; generalize h1 : x / 256 % 256 = a1 at e; generalize h2 : x / 65536 % 256 = a2 at e; generalize h3 : x / 16777216 % 256 = a3 at e
  generalize h4 : x / 4294967296 % 256 = a4 at e; generalize h5 : x / 1099511627776 % 256 = a5 at e; generalize h6 : x / 281474976710656 % 256 = a6 at e; generalize h7 : x / 72057594037927936 % 256 = a7 at e
  have hb : a0 < 256 ∧ a1 < 256 ∧ a2 < 256 ∧ a3 < 256 ∧ a4 < 256 ∧ a5 < 256 ∧ a6 < 256 ∧ a7 < 256 := by omega
  clear h0 h1 h2 h3 h4 h5 h6 h7
  subst e
  have hp := popN_ofB [a0, a1, a2, a3, a4, a5, a6, a7] (lt8 hb)
  rw [show 8 * [a0, a1, a2, a3, a4, a5, a6, a7].length = 64 from rfl] at hp
  rw [hp, ones1 _ _ _ _ _ _ _ _ hb]
  simp only [List.map_cons, List.map_nil, List.sum_cons, List.sum_nil]
  obtain ⟨b0, b1, b2, b3, b4, b5, b6, b7⟩ := hb
  have k0 := byte1 a0 b0; have k1 := byte1 a1 b1; have k2 := byte1 a2 b2; have k3 := byte1 a3 b3
  have k4 := byte1 a4 b4; have k5 := byte1 a5 b5; have k6 := byte1 a6 b6; have k7 := byte1 a7 b7
  generalize popN a0 8 = q0 at *; generalize popN a1 8 = q1 at *; generalize popN a2 8 = q2 at *; generalize popN a3 8 = q3 at *
  generalize popN a4 8 = q4 at *; generalize popN a5 8 = q5 at *; generalize popN a6 8 = q6 at *; generalize popN a7 8 = q7 at *
  generalize onesF1 a0 = u0 at *; generalize onesF1 a1 = u1 at *; generalize onesF1 a2 = u2 at *; generalize onesF1 a3 = u3 at *
  generalize onesF1 a4 = u4 at *; generalize onesF1 a5 = u5 at *; generalize onesF1 a6 = u6 at *; generalize onesF1 a7 = u7 at *
  clear hp b0 b1 b2 b3 b4 b5 b6 b7 h
  rw [ones2 _ _ _ _ _ _ _ _ ⟨k0.1, k1.1, k2.1, k3.1, k4.1, k5.1, k6.1, k7.1⟩]
  generalize onesF2 u0 = v0 at *; generalize onesF2 u1 = v1 at *; generalize onesF2 u2 = v2 at *; generalize onesF2 u3 = v3 at *
  generalize onesF2 u4 = v4 at *; generalize onesF2 u5 = v5 at *; generalize onesF2 u6 = v6 at *; generalize onesF2 u7 = v7 at *
  rw [ones3 v0 v1 v2 v3 v4 v5 v6 v7 ⟨k0.2.1, k1.2.1, k2.2.1, k3.2.1, k4.2.1, k5.2.1, k6.2.1, k7.2.1⟩ ⟨k0.2.2.1, k1.2.2.1, k2.2.2.1, k3.2.2.1, k4.2.2.1, k5.2.2.1, k6.2.2.1, k7.2.2.1⟩ ⟨k0.2.2.2.1, k1.2.2.2.1, k2.2.2.2.1, k3.2.2.2.1, k4.2.2.2.1, k5.2.2.2.1, k6.2.2.2.1, k7.2.2.2.1⟩]
  obtain ⟨c0, d0, m0, n0, s0⟩ := k0; obtain ⟨c1, d1, m1, n1, s1⟩ := k1; obtain ⟨c2, d2, m2, n2, s2⟩ := k2; obtain ⟨c3, d3, m3, n3, s3⟩ := k3
  obtain ⟨c4, d4, m4, n4, s4⟩ := k4; obtain ⟨c5, d5, m5, n5, s5⟩ := k5; obtain ⟨c6, d6, m6, n6, s6⟩ := k6; obtain ⟨c7, d7, m7, n7, s7⟩ := k7
  refine ⟨?_, ?_, ?_, q0, q1, q2, q3, q4, q5, q6, q7, ?_, ?_, ?_, ?_, ?_, ?_, ?_, ?_, ?_, ?_⟩
  · simp only [ofB]; clear d0 d1 d2 d3 d4 d5 d6 d7 m0 m1 m2 m3 m4 m5 m6 m7 n0 n1 n2 n3 n4 n5 n6 n7 s0 s1 s2 s3 s4 s5 s6 s7; omega
  · simp only [ofB]; clear c0 c1 c2 c3 c4 c5 c6 c7 m0 m1 m2 m3 m4 m5 m6 m7 s0 s1 s2 s3 s4 s5 s6 s7; omega
  · simp only [ofB]; clear c0 c1 c2 c3 c4 c5 c6 c7 m0 m1 m2 m3 m4 m5 m6 m7 n0 n1 n2 n3 n4 n5 n6 n7 s0 s1 s2 s3 s4 s5 s6 s7; omega
  · omega
  · omega
  · omega
  · omega
  · omega
  · omega
  · omega
  · omega
  · rw [s0, s1, s2, s3, s4, s5, s6, s7]
  · omega
theorem popN_cnt (f : Nat → Bool) (k : Nat) : ∀ n, n ≤ 64 → popN (wd f k) n = cntN (fun j => f (64 * k + j)) n := by
  intro n
  induction n with
  | zero => intro _; rfl
  | succ n ih => intro h; rw [popN, ih (by omega), cntN_succ, wd_has f k n (by omega)]
end Go.Proofs.YtfmdmeokbbpmlaaGreat

namespace Go.Proofs.YtfmdmeokbbpmlaaGreat

inductive Rep where
  | star
  | plus
  | opt
def Rep.num : Rep → Int
  | .star => 5
  | .plus => 6
  | .opt => 7
def Rep.sign : Rep → Nat
  | .star => 42
  | .plus => 43
  | .opt => 63
inductive RxT where
  | set (f : Nat → Bool)
  | empty
  | cat (a b : RxT)
  | alt (a b : RxT)
  | rep (k : Rep) (a : RxT)
def setRx (f : Nat → Bool) : Rx := ⟨1, wd f 0, wd f 1, wd f 2, wd f 3⟩
def opRx (k : Int) : Rx := ⟨k, 0, 0, 0, 0⟩
/-- A tree's steps. -/
def post : RxT → List Rx
  | .set f => [setRx f]
  | .empty => [opRx 2]
  | .cat a b => post a ++ post b ++ [opRx 3]
  | .alt a b => post a ++ post b ++ [opRx 4]
  | .rep k a => post a ++ [opRx k.num]
def RxT.kind : RxT → Int
  | .set _ => 1
  | .empty => 2
  | .cat _ _ => 3
  | .alt _ _ => 4
  | .rep k _ => k.num
theorem post_pos (t : RxT) : 1 ≤ (post t).length := by
  cases t <;> simp [post] <;> omega
theorem post_last (t : RxT) : ∃ l x, post t = l ++ [x] ∧ x.kind = t.kind := by
  cases t with
  | set f => exact ⟨[], _, rfl, rfl⟩
  | empty => exact ⟨[], _, rfl, rfl⟩
  | cat a b => exact ⟨_, _, rfl, rfl⟩
  | alt a b => exact ⟨_, _, rfl, rfl⟩
  | rep k a => exact ⟨_, _, rfl, rfl⟩
/-- Trees one behind another, the last one first. -/
def postS : List RxT → List Rx
  | [] => []
  | a :: st => postS st ++ post a
/-- A step's words are words. -/
def Wordy (x : Rx) : Prop := (0 ≤ x.s0 ∧ x.s0 < 18446744073709551616) ∧ (0 ≤ x.s1 ∧ x.s1 < 18446744073709551616) ∧ (0 ≤ x.s2 ∧ x.s2 < 18446744073709551616) ∧ (0 ≤ x.s3 ∧ x.s3 < 18446744073709551616)
def setOfRx (x : Rx) : Nat → Bool := memW x.s0.toNat x.s1.toNat x.s2.toNat x.s3.toNat
theorem setOfRx_is {x : Rx} (h : Wordy x) : x = { setRx (setOfRx x) with kind := x.kind } := by
  obtain ⟨k, a, b, c, d⟩ := x
  obtain ⟨⟨a0, a1⟩, ⟨b0, b1⟩, ⟨c0, c1⟩, ⟨d0, d1⟩⟩ := h
  dsimp only at a0 a1 b0 b1 c0 c1 d0 d1
  have e := memW_wd a.toNat b.toNat c.toNat d.toNat (by omega) (by omega) (by omega) (by omega)
  unfold setOfRx setRx
  dsimp only
  rw [← e.1, ← e.2.1, ← e.2.2.1, ← e.2.2.2]
  rw [Int.toNat_of_nonneg a0, Int.toNat_of_nonneg b0, Int.toNat_of_nonneg c0, Int.toNat_of_nonneg d0]
theorem step_kinds {x : Rx} {p : Int} (h : stepBad x p = 0) : arity x.kind ≤ p ∧ ((x.kind = 1) ∨ ((x.kind = 2 ∨ x.kind = 3 ∨ x.kind = 4 ∨ x.kind = 5 ∨ x.kind = 6 ∨ x.kind = 7) ∧ x = opRx x.kind)) := by
  unfold stepBad at h
  split at h
  · cases h
  · rename_i h1
    split at h
    · cases h
    · rename_i h2
      refine ⟨by omega, ?_⟩
      by_cases hk : x.kind = 1
      · exact .inl hk
      · right
        have hz : zB x = true := by
          cases hz : zB x
          · exact absurd (.inr ⟨bne_iff_ne.2 hk, hz⟩) h1
          · rfl
        have ha : ¬ arity x.kind < 0 := fun e => h1 (.inl e)
        obtain ⟨k, a, b, c, d⟩ := x
        unfold zB at hz
        simp only [Bool.and_eq_true, beq_iff_eq] at hz
        obtain ⟨rfl, rfl, rfl, rfl⟩ := hz
        refine ⟨?_, rfl⟩
        dsimp only at ha hk
        unfold arity at ha
        dsimp only
        split at ha
        · omega
        · split at ha
          · omega
          · split at ha
            · omega
            · omega
theorem run_trees : ∀ (l : List Rx) (st : List RxT) (q : Int), (∀ x ∈ l, Wordy x) → rxRun l (st.length : Int) = .inl q → ∃ us : List RxT, (us.length : Int) = q ∧ postS us = postS st ++ l := by
  intro l
  induction l with
  | nil =>
    intro st q _ h
    rw [rxRun] at h
    exact ⟨st, Sum.inl.inj h, by simp⟩
  | cons x l ih =>
    intro st q hw h
    rw [rxRun] at h
    split at h
    · rename_i hs
      obtain ⟨h1, h2⟩ := step_kinds hs
      have hwl := fun y hy => hw y (List.mem_cons_of_mem _ hy)
      have go : ∀ st' : List RxT, (st'.length : Int) = (st.length : Int) - arity x.kind + 1 → postS st' = postS st ++ [x] → ∃ us : List RxT, (us.length : Int) = q ∧ postS us = postS st ++ x :: l := by
        intro st' a b
        rw [← a] at h
        obtain ⟨us, c, d⟩ := ih st' q hwl h
        exact ⟨us, c, by rw [d, b]; simp⟩
      have e0 : arity 1 = 0 ∧ arity 2 = 0 ∧ arity 3 = 2 ∧ arity 4 = 2 ∧ arity 5 = 1 ∧ arity 6 = 1 ∧ arity 7 = 1 := by decide
      rcases h2 with hk | ⟨hk, hx⟩
      · have hx := setOfRx_is (hw x List.mem_cons_self)
        rw [hk] at hx go
        refine go (.set (setOfRx x) :: st) (by rw [e0.1]; simp) ?_
        rw [postS, post]
        congr 1
        rw [List.cons.injEq]
        exact ⟨hx.symm, rfl⟩
      · rcases hk with hk | hk | hk | hk | hk | hk
        all_goals rw [hk] at hx go h1
        · exact go (.empty :: st) (by rw [e0.2.1]; simp) (by rw [postS, post, hx])
        · rw [e0.2.2.1] at h1 go
          match st, h1 with
          | b :: a :: st, _ => exact go (.cat a b :: st) (by simp; omega) (by rw [postS, post, hx, postS, postS]; simp)
          | [_], h1 => simp at h1
          | [], h1 => simp at h1
        · rw [e0.2.2.2.1] at h1 go
          match st, h1 with
          | b :: a :: st, _ => exact go (.alt a b :: st) (by simp; omega) (by rw [postS, post, hx, postS, postS]; simp)
          | [_], h1 => simp at h1
          | [], h1 => simp at h1
        · rw [e0.2.2.2.2.1] at h1 go
          match st, h1 with
          | a :: st, _ => exact go (.rep .star a :: st) (by simp) (by rw [postS, post, hx, postS]; simp [Rep.num])
          | [], h1 => simp at h1
        · rw [e0.2.2.2.2.2.1] at h1 go
          match st, h1 with
          | a :: st, _ => exact go (.rep .plus a :: st) (by simp) (by rw [postS, post, hx, postS]; simp [Rep.num])
          | [], h1 => simp at h1
        · rw [e0.2.2.2.2.2.2] at h1 go
          match st, h1 with
          | a :: st, _ => exact go (.rep .opt a :: st) (by simp) (by rw [postS, post, hx, postS]; simp [Rep.num])
          | [], h1 => simp at h1
    · cases h
/-- Steps that are right are a tree's. -/
theorem right_tree {l : List Rx} (hw : ∀ x ∈ l, Wordy x) (h : rxErr l = 0) : l.length ≤ 512 ∧ ∃ t, l = post t := by
  unfold rxErr at h
  split at h
  · cases h
  · rename_i hl
    refine ⟨by omega, ?_⟩
    split at h
    · rename_i e he
      have : ∀ (l : List Rx) (p : Int), rxRun l p ≠ .inr 0 := by
        intro l
        induction l with
        | nil => intro p hp; cases hp
        | cons x l ih =>
          intro p hp
          rw [rxRun] at hp
          split at hp
          · exact ih _ hp
          · rename_i hne
            exact hne (Sum.inr.inj hp)
      rw [h] at he
      exact absurd he (this _ _)
    · rename_i p hp
      split at h
      · rename_i h1
        subst h1
        obtain ⟨us, a, b⟩ := run_trees l [] 1 hw hp
        match us, a with
        | [t], _ => exact ⟨t, by simpa [postS] using b.symm⟩
        | _ :: _ :: _, a => simp at a; omega
        | [], a => simp at a
      · cases h
theorem step_op (k p : Int) (hk : k = 2 ∨ k = 3 ∨ k = 4 ∨ k = 5 ∨ k = 6 ∨ k = 7) (hp : arity k ≤ p) : stepBad (opRx k) p = 0 := by
  unfold stepBad opRx
  dsimp only
  have hz : zB ⟨k, 0, 0, 0, 0⟩ = true := rfl
  have ha : ¬ arity k < 0 := by rcases hk with rfl | rfl | rfl | rfl | rfl | rfl <;> decide
  rw [if_neg (by rw [hz]; simp [ha]), if_neg (by omega)]
theorem step_set (f : Nat → Bool) (p : Int) (hp : 0 ≤ p) : stepBad (setRx f) p = 0 := by
  unfold stepBad setRx
  dsimp only
  rw [if_neg (by simp [arity]), if_neg (by show ¬ p < 0; omega)]
theorem run_post : ∀ (t : RxT) (l : List Rx) (p : Int), 0 ≤ p → rxRun (post t ++ l) p = rxRun l (p + 1) := by
  intro t
  induction t with
  | set f => intro l p hp; rw [post, List.singleton_append, rxRun, if_pos (step_set f p hp), show arity (setRx f).kind = 0 from rfl]; congr 1; omega
  | empty => intro l p hp; rw [post, List.singleton_append, rxRun, if_pos (step_op 2 p (by omega) hp), show arity (opRx 2).kind = 0 from rfl]; congr 1; omega
  | cat a b iha ihb =>
    intro l p hp
    rw [post, List.append_assoc, List.append_assoc, iha _ p hp, ihb _ (p + 1) (by omega), List.singleton_append, rxRun, if_pos (step_op 3 _ (by omega) (by show (2 : Int) ≤ _; omega)), show arity (opRx 3).kind = 2 from rfl]
    congr 1; omega
  | alt a b iha ihb =>
    intro l p hp
    rw [post, List.append_assoc, List.append_assoc, iha _ p hp, ihb _ (p + 1) (by omega), List.singleton_append, rxRun, if_pos (step_op 4 _ (by omega) (by show (2 : Int) ≤ _; omega)), show arity (opRx 4).kind = 2 from rfl]
    congr 1; omega
  | rep k a iha =>
    intro l p hp
    have hk : k.num = 5 ∨ k.num = 6 ∨ k.num = 7 := by cases k <;> simp [Rep.num]
    have ha : arity k.num = 1 := by cases k <;> rfl
    rw [post, List.append_assoc, iha _ p hp, List.singleton_append, rxRun, if_pos (step_op k.num _ (by omega) (by omega)), show arity (opRx k.num).kind = 1 from ha]
    congr 1; omega
/-- A tree's steps are right, if they are not too many. -/
theorem tree_right (t : RxT) (h : (post t).length ≤ 512) : rxErr (post t) = 0 := by
  unfold rxErr
  rw [if_neg (by omega)]
  have := run_post t [] 0 (by decide)
  rw [List.append_nil] at this
  rw [this, rxRun]
  rfl
end Go.Proofs.YtfmdmeokbbpmlaaGreat

namespace Go.Proofs.YtfmdmeokbbpmlaaGreat

def seenB (c : Nat) : Bool := decide (33 ≤ c) && decide (c ≤ 126)
/-- A letter, or a digit. -/
def wordB (c : Nat) : Bool := (decide (48 ≤ c) && decide (c ≤ 57)) || ((decide (97 ≤ c) && decide (c ≤ 122)) || (decide (65 ≤ c) && decide (c ≤ 90)))
def hexB (c : Nat) : Bool := (decide (48 ≤ c) && decide (c ≤ 57)) || (decide (97 ≤ c) && decide (c ≤ 102))
def hexC (d : Nat) : Nat := if d < 10 then 48 + d else 87 + d
def hexV (c : Nat) : Nat := if c ≤ 57 then c - 48 else c - 87
def signL : List Nat := [40, 41, 91, 93, 124, 42, 43, 63, 46, 92]
def edgeL : List Nat := [91, 93, 94, 45, 92]
/-- A byte, where some may not stand by themselves. -/
def chrT (but : List Nat) (b : Nat) : List Nat :=
  if b = 10 then [92, 110] else if b = 9 then [92, 116] else if b = 13 then [92, 114]
  else if seenB b = false then [92, 120, hexC (b / 16), hexC (b % 16)] else if b ∈ but then [92, b] else [b]
/-- Stretches of rising numbers, the last one first ahead. -/
def runsF : List (Nat × Nat) → List Nat → List (Nat × Nat)
  | acc, [] => acc.reverse
  | [], b :: l => runsF [(b, b)] l
  | (x, y) :: acc, b :: l => if y + 1 = b then runsF ((x, b) :: acc) l else runsF ((b, b) :: (x, y) :: acc) l
def bytesS (f : Nat → Bool) : List Nat := (List.range 256).filter f
def runsS (f : Nat → Bool) : List (Nat × Nat) := runsF [] (bytesS f)
def runT (r : Nat × Nat) : List Nat := if r.2 = r.1 then chrT edgeL r.1 else if r.2 = r.1 + 1 then chrT edgeL r.1 ++ chrT edgeL r.2 else chrT edgeL r.1 ++ 45 :: chrT edgeL r.2
def runsT (f : Nat → Bool) : List Nat := ((runsS f).map runT).flatten
def notS (f : Nat → Bool) : Nat → Bool := fun b => !f b
def dotS : Nat → Bool := fun b => !decide (b = 10)
/-- A set as a text. -/
def setT (f : Nat → Bool) : List Nat :=
  if (bytesS f).length = 1 then chrT signL ((bytesS f).headD 0)
  else if ∀ b, b < 256 → f b = dotS b then [46]
  else if (bytesS f).length = 0 ∨ 128 < (bytesS f).length ∧ (bytesS f).length < 256 then 91 :: 94 :: (runsT (notS f) ++ [93])
  else 91 :: (runsT f ++ [93])
def par (b : Bool) (l : List Nat) : List Nat := if b = true then 40 :: (l ++ [41]) else l
def isAlt (t : RxT) : Bool := decide (t.kind = 4)
def isSeq (t : RxT) : Bool := decide (t.kind = 4) || decide (t.kind = 3)
/-- A tree as a text. -/
def tex : RxT → List Nat
  | .set f => setT f
  | .empty => [40, 41]
  | .cat a b => par (isAlt a) (tex a) ++ par (isSeq b) (tex b)
  | .alt a b => tex a ++ 124 :: par (isAlt b) (tex b)
  | .rep k a => par (isSeq a) (tex a) ++ [k.sign]

/-! ### Reading -/
/-- What stands behind a backslash: the byte, and the rest; or how much is left where it is none. -/
def rdEsc : List Nat → Nat ⊕ (Nat × List Nat)
  | [] => .inl 0
  | c :: r => if c = 110 then .inr (10, r) else if c = 116 then .inr (9, r) else if c = 114 then .inr (13, r)
    else if c = 120 then (match r with
      | [] => .inl 0
      | h :: r1 => if hexB h = false then .inl (r1.length + 1) else (match r1 with
        | [] => .inl 0
        | k :: r2 => if hexB k = false then .inl (r2.length + 1) else .inr (16 * hexV h + hexV k, r2)))
    else if seenB c = false ∨ wordB c = true then .inl (r.length + 1) else .inr (c, r)
def rdChr (but : List Nat) : List Nat → Nat ⊕ (Nat × List Nat)
  | [] => .inl 0
  | c :: r => if c = 92 then rdEsc r else if seenB c = false ∨ c ∈ but then .inl (r.length + 1) else .inr (c, r)
def spanS (lo hi : Nat) : Nat → Bool := fun b => decide (lo ≤ b) && decide (b ≤ hi)
def oneS (c : Nat) : Nat → Bool := fun b => decide (b = c)
def orS (f g : Nat → Bool) : Nat → Bool := fun b => f b || g b
/-- One item of a class: its span, and the rest. -/
def rdItem (cs : List Nat) : Nat ⊕ ((Nat × Nat) × List Nat) :=
  match rdChr edgeL cs with
  | .inl p => .inl p
  | .inr (lo, r) => match r with
    | 45 :: r1 => (match rdChr edgeL r1 with
      | .inl p => .inl p
      | .inr (hi, r2) => if hi < lo then .inl (r2.length + 1) else .inr ((lo, hi), r2))
    | r => .inr ((lo, lo), r)
/-- A class' items, of which some were read: their spans. -/
def rdItems : Nat → List (Nat × Nat) → List Nat → Nat ⊕ (List (Nat × Nat) × List Nat)
  | 0, _, cs => .inl cs.length
  | n + 1, acc, cs => if acc ≠ [] ∧ cs.head? = some 93 then .inr (acc, cs.tail) else match rdItem cs with
    | .inl p => .inl p
    | .inr (x, r) => rdItems n (acc ++ [x]) r
def spansS (l : List (Nat × Nat)) : Nat → Bool := fun b => l.any (fun x => spanS x.1 x.2 b)
/-- A class, behind its bracket. -/
def rdClass (cs : List Nat) : Nat ⊕ ((Nat → Bool) × List Nat) :=
  if cs.head? = some 94 then (match rdItems cs.length [] cs.tail with
    | .inl p => .inl p
    | .inr (l, r) => .inr (notS (spansS l), r))
  else (match rdItems (cs.length + 1) [] cs with
    | .inl p => .inl p
    | .inr (l, r) => .inr (spansS l, r))
/-- A set. -/
def rdSet (cs : List Nat) : Nat ⊕ ((Nat → Bool) × List Nat) :=
  if cs.head? = some 46 then .inr (dotS, cs.tail) else if cs.head? = some 91 then rdClass cs.tail
  else match rdChr signL cs with
    | .inl p => .inl p
    | .inr (c, r) => .inr (oneS c, r)
def repOf (c : Nat) : Option Rep := if c = 42 then some .star else if c = 43 then some .plus else if c = 63 then some .opt else none
def rdReps : RxT → List Nat → RxT × List Nat
  | t, [] => (t, [])
  | t, c :: r => match repOf c with
    | some k => rdReps (.rep k t) r
    | none => (t, c :: r)
/-- Does a branch end here? -/
def endsB (cs : List Nat) : Bool := match cs with
  | [] => true
  | c :: _ => decide (c = 124) || decide (c = 41)
def rdAtom (sub : List Nat → Nat ⊕ (RxT × List Nat)) (cs : List Nat) : Nat ⊕ (RxT × List Nat) :=
  if cs.head? = some 40 then (match sub cs.tail with
    | .inl p => .inl p
    | .inr (t, r) => if r.head? = some 41 then .inr (t, r.tail) else .inl r.length)
  else match rdSet cs with
    | .inl p => .inl p
    | .inr (f, r) => .inr (.set f, r)
def catO : Option RxT → RxT → RxT
  | none, t => t
  | some a, t => .cat a t
def rdBranch (sub : List Nat → Nat ⊕ (RxT × List Nat)) : Nat → Option RxT → List Nat → Nat ⊕ (RxT × List Nat)
  | n, acc, cs => if endsB cs = true then .inr (acc.getD .empty, cs) else match n with
    | 0 => .inl cs.length
    | n + 1 => match rdAtom sub cs with
      | .inl p => .inl p
      | .inr (t, r) => rdBranch sub n (some (catO acc (rdReps t r).1)) (rdReps t r).2
def rdAlts (sub : List Nat → Nat ⊕ (RxT × List Nat)) : Nat → RxT → List Nat → Nat ⊕ (RxT × List Nat)
  | n, acc, cs => if cs.head? ≠ some 124 then .inr (acc, cs) else match n with
    | 0 => .inl cs.length
    | n + 1 => match rdBranch sub cs.length none cs.tail with
      | .inl p => .inl p
      | .inr (t, r) => rdAlts sub n (.alt acc t) r
def rdText : Nat → List Nat → Nat ⊕ (RxT × List Nat)
  | 0, cs => .inl cs.length
  | n + 1, cs => match rdBranch (rdText n) cs.length none cs with
    | .inl p => .inl p
    | .inr (t, r) => rdAlts (rdText n) r.length t r
/-- A text's steps, how far it was read, and what is wrong. -/
noncomputable def readT (cs : List Nat) : List Rx × Nat × Nat :=
  if 4096 < cs.length then ([], 0, 4) else match rdText (cs.length + 1) cs with
    | .inl p => ([], cs.length - p, 3)
    | .inr (t, r) => if r ≠ [] then ([], cs.length - r.length, 3) else if 512 < (post t).length then ([], 0, 4) else (post t, cs.length, 0)
end Go.Proofs.YtfmdmeokbbpmlaaGreat

namespace Go.Proofs.YtfmdmeokbbpmlaaGreat
open Go.RowKit Go.Shelf

def setC (f : Nat → Bool) : Array Value := #[.int .u64 (wd f 0 : Nat), .int .u64 (wd f 1 : Nat), .int .u64 (wd f 2 : Nat), .int .u64 (wd f 3 : Nat)]

theorem four_cases (c : Nat) (hc : c < 256) : (c / 64 = 0 ∧ (c : Int) / 64 = 0) ∨ (c / 64 = 1 ∧ (c : Int) / 64 = 1) ∨ (c / 64 = 2 ∧ (c : Int) / 64 = 2) ∨ (c / 64 = 3 ∧ (c : Int) / 64 = 3) := by omega
theorem wrap_pow (j : Nat) (h : j < 64) : IntKind.u64.wrap (2 ^ j) = ((2 ^ j : Nat) : Int) := by
  rw [IntKind.wrap_u64]
  have h1 : (2 : Nat) ^ j < 2 ^ 64 := Nat.pow_lt_pow_right (by decide) h
  have h2 : ((2 : Int) ^ j) = ((2 ^ j : Nat) : Int) := by simp
  rw [h2]
  generalize (2 : Nat) ^ j = p at *
  omega
theorem wd_one (c k : Nat) : wd (oneS c) k = if c / 64 = k then 2 ^ (c % 64) else 0 := by
  symm
  refine wd_eq ?_ (fun j hj => ?_)
  · split
    · exact Nat.pow_lt_pow_right (n := 64) (by decide) (by omega)
    · decide
  · unfold oneS
    split
    · rename_i h
      rw [Nat.testBit_two_pow, Bool.eq_iff_iff, decide_eq_true_eq, decide_eq_true_eq]
      omega
    · rename_i h
      rw [Nat.zero_testBit]
      exact (decide_eq_false (by omega)).symm

set_option maxRecDepth 20000 in
set_option maxHeartbeats 4000000 in
theorem bset_One (c : Nat) (hc : c < 256) (w : World) :
    Calls Tryz.prog 118 #[.int .u8 (c : Int)] w fun r w' => r = .returned (.agg (setC (oneS c))) ∧ Below w.heap.size w w' := by
  have hE : Hid (setC (oneS c) = #[.int .u64 ((if c / 64 = 0 then 2 ^ (c % 64) else 0 : Nat) : Int), .int .u64 ((if c / 64 = 1 then 2 ^ (c % 64) else 0 : Nat) : Int), .int .u64 ((if c / 64 = 2 then 2 ^ (c % 64) else 0 : Nat) : Int), .int .u64 ((if c / 64 = 3 then 2 ^ (c % 64) else 0 : Nat) : Int)]) := hidden (by
    unfold setC; rw [wd_one c 0, wd_one c 1, wd_one c 2, wd_one c 3])
  generalize setC (oneS c) = res at *
  have hm : (0 : Int) ≤ (c : Int) % 64 := by omega
  have hm2 : (c : Int) % 64 < 64 := by omega
  have hw := wrap_pow (c % 64) (by omega)
  have hwb : ((2 ^ (c % 64) : Nat) : Int) < 18446744073709551616 := by
    have : (2 : Nat) ^ (c % 64) < 2 ^ 64 := Nat.pow_lt_pow_right (by decide) (by omega)
    omega
  generalize (2 : Nat) ^ (c % 64) = pv at *
  rcases four_cases c hc with ⟨e1, e2⟩ | ⟨e1, e2⟩ | ⟨e1, e2⟩ | ⟨e1, e2⟩
  all_goals
    have HE2 := hidden hE.out
    rw [e1] at HE2
    clear hE
    go_enter Tryz.func118, Tryz.ntmps118
    go_wp2
    refine bodyPost_ret (v := .agg res) ?_ rfl ⟨rfl, ((Below.refl _ _).alloc (Nat.le_refl _) _).alloc (by simp) _⟩
    simp [results, Tryz.results118, go_sem, HE2.out]

theorem stored4 {w : World} {p : Nat} {t : TypeId} {a b c d : Value} (H : Holds w p t #[a, b, c, d]) (n0 n1 n2 n3 : Nat) :
    Holds ((((w.setCell ⟨p, 0, none⟩ (.int .u64 (n0 : Int))).setCell ⟨p, 1, none⟩ (.int .u64 (n1 : Int))).setCell ⟨p, 2, none⟩ (.int .u64 (n2 : Int))).setCell ⟨p, 3, none⟩ (.int .u64 (n3 : Int))) p t #[.int .u64 (n0 : Int), .int .u64 (n1 : Int), .int .u64 (n2 : Int), .int .u64 (n3 : Int)] :=
  (((H.set 0 _).set 1 _).set 2 _).set 3 _
/-- The first words of one set, the others of another one. -/
def mixW (i : Nat) (f g : Nat → Bool) (k : Nat) : Nat := if k < i then wd g k else wd f k
def mixC (i : Nat) (f g : Nat → Bool) : Array Value := #[.int .u64 (mixW i f g 0 : Nat), .int .u64 (mixW i f g 1 : Nat), .int .u64 (mixW i f g 2 : Nat), .int .u64 (mixW i f g 3 : Nat)]
theorem mixC_start (f g : Nat → Bool) : mixC 0 f g = setC f := rfl
theorem mixC_end (f g : Nat → Bool) : mixC 4 f g = setC g := rfl
theorem k4 {k : Nat} (h : k < 4) : k = 0 ∨ k = 1 ∨ k = 2 ∨ k = 3 := by omega
theorem mixC_set (f g : Nat → Bool) {k : Nat} (h : k < 4) : (mixC k f g).setIfInBounds k (.int .u64 (wd g k : Nat)) = mixC (k + 1) f g := by
  rcases k4 h with rfl | rfl | rfl | rfl <;> rfl
theorem mixC_at (f g : Nat → Bool) {k : Nat} (h : k < 4) : (mixC k f g)[k]? = some (.int .u64 (wd f k : Nat)) := by
  rcases k4 h with rfl | rfl | rfl | rfl <;> rfl
theorem setC_at (f : Nat → Bool) {k : Nat} (h : k < 4) : (setC f)[k]? = some (.int .u64 (wd f k : Nat)) := by
  rcases k4 h with rfl | rfl | rfl | rfl <;> rfl
theorem u64_not (a : Nat) (ha : a < 18446744073709551616) : bits .xor .u64 (if IntKind.u64.signed = true then -1 else IntKind.u64.max) (a : Int) = ((18446744073709551615 - a : Nat) : Int) := by
  show IntKind.u64.wrap ((BitVec.ofInt 64 18446744073709551615 ^^^ BitVec.ofInt 64 (a : Int)).toNat : Int) = _
  have h1 : BitVec.ofInt 64 18446744073709551615 = BitVec.allOnes 64 := by decide
  rw [h1, BitVec.allOnes_xor, BitVec.toNat_not, ofInt_u64 a (by omega)]
  simp [IntKind.wrap, IntKind.bits, IntKind.signed]
  omega
theorem four {w : World} {p : Nat} {t : TypeId} {a b c d : Value} (H : Holds w p t #[a, b, c, d]) : w.cell? ⟨p, 0, none⟩ = some a ∧ w.cell? ⟨p, 1, none⟩ = some b ∧ w.cell? ⟨p, 2, none⟩ = some c ∧ w.cell? ⟨p, 3, none⟩ = some d := ⟨H.cell 0, H.cell 1, H.cell 2, H.cell 3⟩
theorem fourF {w : World} {p : Nat} {t : TypeId} {a b c d : Value} (H : Holds w p t #[a, b, c, d]) : w.frozen? ⟨p, 0, none⟩ = false ∧ w.frozen? ⟨p, 1, none⟩ = false ∧ w.frozen? ⟨p, 2, none⟩ = false ∧ w.frozen? ⟨p, 3, none⟩ = false := ⟨H.frozen 0, H.frozen 1, H.frozen 2, H.frozen 3⟩

set_option maxRecDepth 20000 in
set_option maxHeartbeats 4000000 in
theorem bset_Not (f : Nat → Bool) (w : World) :
    Calls Tryz.prog 117 #[.agg (setC f)] w fun r w' => r = .returned (.agg (setC (notS f))) ∧ Below w.heap.size w w' := by
  have hRes : Hid (setC (notS f) = #[.int .u64 (wd (notS f) 0 : Nat), .int .u64 (wd (notS f) 1 : Nat), .int .u64 (wd (notS f) 2 : Nat), .int .u64 (wd (notS f) 3 : Nat)]) := hidden rfl
  generalize setC (notS f) = res at *
  have hWl := hidden (wd_lt f)
  have hE := hidden (wd_not f)
  have HS : Hid (Holds ((w.alloc (.cells (mixC 0 f (notS f)) 101)).alloc (.cells #[.int .u64 0, .int .u64 0, .int .u64 0, .int .u64 0] 101)) w.heap.size 101 (mixC 0 f (notS f))) := hidden (by repeat (first | (with_reducible assumption) | ((with_reducible refine holds_new ?_); (focus (first | rfl | (simp; done)))) | (with_reducible refine Holds.alloc ?_ _) | (with_reducible refine Holds.drew ?_)))
  have hb0 : Hid (Below w.heap.size w ((w.alloc (.cells (mixC 0 f (notS f)) 101)).alloc (.cells #[.int .u64 0, .int .u64 0, .int .u64 0, .int .u64 0] 101))) := hidden (((Below.refl _ _).alloc (Nat.le_refl _) _).alloc (by simp) _)
  have HR : Hid (Holds ((w.alloc (.cells (mixC 0 f (notS f)) 101)).alloc (.cells #[.int .u64 0, .int .u64 0, .int .u64 0, .int .u64 0] 101)) (w.heap.size + 1) 101 #[.int .u64 0, .int .u64 0, .int .u64 0, .int .u64 0]) := hidden (Holds.new_at (by simp))
  have hS : setC f = mixC 0 f (notS f) := rfl
  rw [hS]
  clear hS
  generalize hm0 : mixC 0 f (notS f) = m0 at *
  obtain ⟨v0, v1, v2, v3, rfl⟩ : ∃ v0 v1 v2 v3, m0 = #[v0, v1, v2, v3] := ⟨_, _, _, _, hm0.symm⟩
  have HM0 := hidden hm0
  clear hm0
  go_enter Tryz.func117, Tryz.ntmps117
  go_wp2
  generalize ((w.alloc (.cells #[v0, v1, v2, v3] 101)).alloc (.cells #[.int .u64 0, .int .u64 0, .int .u64 0, .int .u64 0] 101)) = w1 at *
  go_loopw [3, 4] (fun iv jv wr => ∃ k : Nat, jv = .int .i64 k ∧ k ≤ 4 ∧ Hid (Holds wr w.heap.size 101 (mixC k f (notS f))) ∧ Hid (Holds wr (w.heap.size + 1) 101 #[.int .u64 0, .int .u64 0, .int .u64 0, .int .u64 0]) ∧ Hid (Below w.heap.size w wr)) (fun iv jv wr => 4 - (intOf jv).toNat)
  case atStart => exact ⟨0, by go_num, by omega, hidden (by rw [HM0.out]; exact HS.out), HR, hb0⟩
  case round =>
    clear HS HR hb0 HM0
    obtain ⟨k, rfl, hk, HS, HR, HB⟩ := hrel
    by_cases hlt : k < 4
    · have q1 : (0 : Int) ≤ (k : Int) := by omega
      have q2 : (k : Int) < 4 := by omega
      have x0 := (HS.out.cell k).trans (mixC_at f (notS f) hlt)
      have x1 := HS.out.frozen k
      have hx := u64_not (wd f k) (hWl.out k)
      have hy := hE.out k
      rw [hy] at hx
      have hz := HS.out.lt
      have HS2 := hidden ((HS.out.set k (.int .u64 (wd (notS f) k : Nat))).of_eq (mixC_set f (notS f) hlt))
      have HR2 := hidden (HR.out.far (p := ⟨w.heap.size, k, none⟩) (by simp) (.int .u64 (wd (notS f) k : Nat)))
      have HB2 := hidden (HB.out.setCell (p := ⟨w.heap.size, k, none⟩) (Nat.le_refl _) (.int .u64 (wd (notS f) k : Nat)))
      clear HS HR HB hy
      go_wp2
      go_roundw
      case rel => exact ⟨k + 1, by go_num, by omega, HS2, HR2, HB2⟩
      case measure => simp [intOf]; omega
    · obtain rfl : k = 4 := by omega
      have HS2 : Hid (Holds wr w.heap.size 101 #[.int .u64 (wd (notS f) 0 : Nat), .int .u64 (wd (notS f) 1 : Nat), .int .u64 (wd (notS f) 2 : Nat), .int .u64 (wd (notS f) 3 : Nat)]) := HS
      clear HS hWl hE
      generalize wd (notS f) 0 = n0 at *
      generalize wd (notS f) 1 = n1 at *
      generalize wd (notS f) 2 = n2 at *
      generalize wd (notS f) 3 = n3 at *
      obtain ⟨x0, x1, x2, x3⟩ := four HS2.out
      obtain ⟨y0, y1, y2, y3⟩ := four HR.out
      obtain ⟨z0, z1, z2, z3⟩ := fourF HR.out
      have hbe := HB.out
      have HRf := hidden (stored4 HR.out n0 n1 n2 n3)
      clear HS2 HR HB
      go_wp2
      obtain ⟨r0, r1, r2, r3⟩ := four HRf.out
      refine bodyPost_ret (v := .agg #[.int .u64 (n0 : Int), .int .u64 (n1 : Int), .int .u64 (n2 : Int), .int .u64 (n3 : Int)]) ?_ rfl ⟨by rw [hRes.out], (by repeat (first | (with_reducible exact Below.refl _ _) | (with_reducible assumption) | (with_reducible refine Below.drew ?_) | (with_reducible refine below_drewN ?_ _) | ((with_reducible refine below_alloc ?_ ?_); (focus (first | omega | (simp; done) | (simp; omega)))) | ((with_reducible refine below_set ?_ ?_); (focus (first | omega | (simp; done) | (simp; omega))))))⟩
      simp [results, Tryz.results117, go_sem, r0, r1, r2, r3]
end Go.Proofs.YtfmdmeokbbpmlaaGreat

namespace Go.Proofs.YtfmdmeokbbpmlaaGreat
open Go.RowKit Go.Shelf

theorem has_int (f : Nat → Bool) (b : Nat) : ((wd f (b / 64) : Nat) : Int) / 2 ^ (b % 64) % 2 = if f b = true then 1 else 0 := by
  have h := wd_has f (b / 64) (b % 64) (by omega)
  rw [show 64 * (b / 64) + b % 64 = b by omega] at h
  have h2 : ((2 : Int) ^ (b % 64)) = ((2 ^ (b % 64) : Nat) : Int) := by simp
  rw [h2]
  generalize (2 : Nat) ^ (b % 64) = p at *
  have e : ((wd f (b / 64) : Nat) : Int) / (p : Int) % 2 = ((wd f (b / 64) / p % 2 : Nat) : Int) := by simp
  rw [e, h]
  cases f b <;> rfl
theorem has_tmod (f : Nat → Bool) (b : Nat) : ((((wd f (b / 64) : Nat) : Int) / 2 ^ (b % 64)).tmod 2 == 1) = f b := by
  have h2 : ((2 : Int) ^ (b % 64)) = ((2 ^ (b % 64) : Nat) : Int) := by simp
  have h0 : 0 ≤ ((wd f (b / 64) : Nat) : Int) / 2 ^ (b % 64) := by rw [h2]; exact Int.ediv_nonneg (Int.natCast_nonneg _) (Int.natCast_nonneg _)
  rw [Int.tmod_eq_emod_of_nonneg h0, has_int]
  cases f b <;> rfl

set_option maxRecDepth 20000 in
set_option maxHeartbeats 4000000 in
theorem ref_Has02 (f : Nat → Bool) (b : Nat) (hb : b < 256) (w : World) :
    Calls Tryz.prog 108 #[.agg (setC f), .int .u8 (b : Int)] w fun r w' => r = .returned (.bool (f b)) ∧ Below w.heap.size w w' := by
  have x0 : (w.alloc (.cells (setC f) 101)).cell? ⟨w.heap.size, b / 64, none⟩ = some (.int .u64 (wd f (b / 64) : Nat)) := ((Holds.new w _ _).cell (b / 64)).trans (setC_at f (by omega))
  have hh := has_tmod f b
  have hb1 : Below w.heap.size w (w.alloc (.cells (setC f) 101)) := (Below.refl _ _).alloc (Nat.le_refl _) _
  have q0 : (0 : Int) ≤ (b : Int) / 64 := by omega
  have q1 : (b : Int) / 64 < 4 := by omega
  have q2 : (0 : Int) ≤ (b : Int) % 64 := by omega
  have q3 : (b : Int) % 64 < 64 := by omega
  unfold setC at *
  generalize ((wd f (b / 64) : Nat) : Int) = wv at *
  generalize wd f 0 = n0 at *
  generalize wd f 1 = n1 at *
  generalize wd f 2 = n2 at *
  generalize wd f 3 = n3 at *
  generalize f b = fb at *
  go_enter Tryz.func108, Tryz.ntmps108
  go_upto_region 1 with fail
  generalize (w.alloc (.cells #[.int .u64 (n0 : Int), .int .u64 (n1 : Int), .int .u64 (n2 : Int), .int .u64 (n3 : Int)] 101)) = w1 at *
  go_wp2
  go_ret
  exact ⟨rfl, hb1⟩

theorem wd_with (f : Nat → Bool) (c k : Nat) (hk : c / 64 = k) : wd (orS f (oneS c)) k = wd f k ||| 2 ^ (c % 64) := by
  have h := wd_or f k (c % 64) (by omega)
  rw [h]
  refine wd_ext (fun j hj => ?_)
  unfold orS oneS
  congr 1
  rw [Bool.eq_iff_iff, decide_eq_true_eq, decide_eq_true_eq]
  omega
theorem wd_same_k (f : Nat → Bool) (c k : Nat) (hk : c / 64 ≠ k) : wd (orS f (oneS c)) k = wd f k := by
  refine wd_ext (fun j hj => ?_)
  unfold orS oneS
  have : decide (64 * k + j = c) = false := decide_eq_false (by omega)
  rw [this, Bool.or_false]

set_option maxRecDepth 20000 in
set_option maxHeartbeats 4000000 in
theorem ref_with02 (f : Nat → Bool) (c : Nat) (hc : c < 256) (w : World) :
    Calls Tryz.prog 114 #[.agg (setC f), .int .i64 (c : Int)] w fun r w' => r = .returned (.agg (setC (orS f (oneS c)))) ∧ Below w.heap.size w w' := by
  have hE : Hid (setC (orS f (oneS c)) = (setC f).setIfInBounds (c / 64) (.int .u64 ((wd f (c / 64) ||| 2 ^ (c % 64) : Nat) : Int))) := hidden (by
    unfold setC
    rcases four_cases c hc with ⟨e, _⟩ | ⟨e, _⟩ | ⟨e, _⟩ | ⟨e, _⟩
    all_goals rw [e]
    · rw [wd_with f c 0 e, wd_same_k f c 1 (by omega), wd_same_k f c 2 (by omega), wd_same_k f c 3 (by omega)]; rfl
    · rw [wd_with f c 1 e, wd_same_k f c 0 (by omega), wd_same_k f c 2 (by omega), wd_same_k f c 3 (by omega)]; rfl
    · rw [wd_with f c 2 e, wd_same_k f c 0 (by omega), wd_same_k f c 1 (by omega), wd_same_k f c 3 (by omega)]; rfl
    · rw [wd_with f c 3 e, wd_same_k f c 0 (by omega), wd_same_k f c 1 (by omega), wd_same_k f c 2 (by omega)]; rfl)
  generalize setC (orS f (oneS c)) = res at *
  have hpl : (2 : Nat) ^ (c % 64) < 18446744073709551616 := Nat.pow_lt_pow_right (n := 64) (by decide) (by omega)
  have hm : (0 : Int) ≤ (c : Int) % 64 := by omega
  have hm2 : (c : Int) % 64 < 64 := by omega
  have hw := wrap_pow (c % 64) (by omega)
  have l0 := wd_lt f 0; have l1 := wd_lt f 1; have l2 := wd_lt f 2; have l3 := wd_lt f 3
  generalize (2 : Nat) ^ (c % 64) = pv at *
  unfold setC at *
  have o0 := u64_or_nat (wd f 0) pv l0 hpl
  have o1 := u64_or_nat (wd f 1) pv l1 hpl
  have o2 := u64_or_nat (wd f 2) pv l2 hpl
  have o3 := u64_or_nat (wd f 3) pv l3 hpl
  rcases four_cases c hc with ⟨e1, e2⟩ | ⟨e1, e2⟩ | ⟨e1, e2⟩ | ⟨e1, e2⟩
  all_goals
    have HE2 := hidden hE.out
    rw [e1] at HE2
    clear hE
    generalize wd f 0 = n0 at *
    generalize wd f 1 = n1 at *
    generalize wd f 2 = n2 at *
    generalize wd f 3 = n3 at *
    go_enter Tryz.func114, Tryz.ntmps114
    go_wp2
    refine bodyPost_ret (v := .agg res) ?_ rfl ⟨rfl, (by repeat (first | (with_reducible exact Below.refl _ _) | (with_reducible assumption) | (with_reducible refine Below.drew ?_) | (with_reducible refine below_drewN ?_ _) | ((with_reducible refine below_alloc ?_ ?_); (focus (first | omega | (simp; done) | (simp; omega)))) | ((with_reducible refine below_set ?_ ?_); (focus (first | omega | (simp; done) | (simp; omega))))))⟩
    simp [results, Tryz.results114, go_sem, HE2.out]
end Go.Proofs.YtfmdmeokbbpmlaaGreat

namespace Go.Proofs.YtfmdmeokbbpmlaaGreat
open Go.RowKit Go.Shelf

def noneS : Nat → Bool := fun _ => false
theorem setC_none : setC noneS = #[.int .u64 0, .int .u64 0, .int .u64 0, .int .u64 0] := by
  unfold setC noneS
  rw [wd_none, wd_none, wd_none, wd_none]
  rfl
theorem setC_ext {f g : Nat → Bool} (h : ∀ b, b < 256 → f b = g b) : setC f = setC g := by
  obtain ⟨a, b, c, d⟩ := wd_same.2 h
  unfold setC
  rw [a, b, c, d]
theorem orS_none (g : Nat → Bool) : orS noneS g = g := by funext b; simp [orS, noneS]

set_option maxRecDepth 20000 in
set_option maxHeartbeats 4000000 in
theorem ref_One02 (c : Nat) (hc : c < 256) (w : World) :
    Calls Tryz.prog 94 #[.int .u8 (c : Int)] w fun r w' => r = .returned (.agg (setC (oneS c))) ∧ Below w.heap.size w w' := by
  have HX := hidden (fun w' => ref_with02 noneS c hc w')
  have hres : Hid (setC (orS noneS (oneS c)) = #[.int .u64 (wd (oneS c) 0 : Nat), .int .u64 (wd (oneS c) 1 : Nat), .int .u64 (wd (oneS c) 2 : Nat), .int .u64 (wd (oneS c) 3 : Nat)]) := hidden (by rw [orS_none]; rfl)
  have hres2 : Hid (setC (oneS c) = #[.int .u64 (wd (oneS c) 0 : Nat), .int .u64 (wd (oneS c) 1 : Nat), .int .u64 (wd (oneS c) 2 : Nat), .int .u64 (wd (oneS c) 3 : Nat)]) := hidden rfl
  rw [setC_none, hres.out] at HX
  generalize setC (oneS c) = res at *
  generalize wd (oneS c) 0 = n0 at *
  generalize wd (oneS c) 1 = n1 at *
  generalize wd (oneS c) 2 = n2 at *
  generalize wd (oneS c) 3 = n3 at *
  have HR : Hid (Holds (w.alloc (.cells #[.int .u64 0, .int .u64 0, .int .u64 0, .int .u64 0] 101)) w.heap.size 101 #[.int .u64 0, .int .u64 0, .int .u64 0, .int .u64 0]) := hidden (Holds.new _ _ _)
  have hb0 : Below w.heap.size w (w.alloc (.cells #[.int .u64 0, .int .u64 0, .int .u64 0, .int .u64 0] 101)) := (Below.refl _ _).alloc (Nat.le_refl _) _
  go_enter Tryz.func94, Tryz.ntmps94
  go_upto_region 1 with fail
  generalize (w.alloc (.cells #[.int .u64 0, .int .u64 0, .int .u64 0, .int .u64 0] 101)) = w1 at *
  go_wp2_with fail
  refine (HX.out _).mono ?_
  rintro r w2 ⟨rfl, hb2⟩
  replace HR := hidden (HR.out.below hb2 HR.out.lt)
  have hbe := hb0.trans (hb2.mono hb0.size)
  clear HX hb2 hres
  obtain ⟨y0, y1, y2, y3⟩ := four HR.out
  obtain ⟨z0, z1, z2, z3⟩ := fourF HR.out
  have HRf := hidden (stored4 HR.out n0 n1 n2 n3)
  clear HR
  go_wp2
  obtain ⟨r0, r1, r2, r3⟩ := four HRf.out
  refine bodyPost_ret (v := .agg #[.int .u64 (n0 : Int), .int .u64 (n1 : Int), .int .u64 (n2 : Int), .int .u64 (n3 : Int)]) ?_ rfl ⟨by rw [hres2.out], (by repeat (first | (with_reducible exact Below.refl _ _) | (with_reducible assumption) | (with_reducible refine Below.drew ?_) | (with_reducible refine below_drewN ?_ _) | ((with_reducible refine below_alloc ?_ ?_); (focus (first | omega | (simp; done) | (simp; omega)))) | ((with_reducible refine below_set ?_ ?_); (focus (first | omega | (simp; done) | (simp; omega))))))⟩
  simp [results, Tryz.results94, go_sem, r0, r1, r2, r3]

def spanN (lo hi n : Nat) : Nat → Bool := fun b => spanS lo hi b && decide (b < n)
theorem spanN_zero (lo hi : Nat) : spanN lo hi 0 = noneS := by funext b; simp [spanN, noneS]
theorem spanN_all (lo hi : Nat) : setC (spanN lo hi 256) = setC (spanS lo hi) := setC_ext (fun b hb => by unfold spanN; rw [decide_eq_true hb, Bool.and_true])
theorem spanN_yes {lo hi n : Nat} (h : lo ≤ n ∧ n ≤ hi) : orS (spanN lo hi n) (oneS n) = spanN lo hi (n + 1) := by
  funext b
  unfold orS oneS spanN spanS
  rw [Bool.eq_iff_iff]
  simp only [Bool.or_eq_true, Bool.and_eq_true, decide_eq_true_eq]
  omega
theorem spanN_no {lo hi n : Nat} (h : ¬ (lo ≤ n ∧ n ≤ hi)) : spanN lo hi n = spanN lo hi (n + 1) := by
  funext b
  unfold spanN spanS
  rw [Bool.eq_iff_iff]
  simp only [Bool.and_eq_true, decide_eq_true_eq]
  omega

set_option maxRecDepth 20000 in
set_option maxHeartbeats 4000000 in
theorem ref_Span02 (lo hi : Nat) (w : World) :
    Calls Tryz.prog 113 #[.int .i64 (lo : Int), .int .i64 (hi : Int)] w fun r w' => r = .returned (.agg (setC (spanS lo hi))) ∧ Below w.heap.size w w' := by
  have HX := hidden (fun f c hc w' => ref_with02 f c hc w')
  have hres : Hid (setC (spanN lo hi 256) = setC (spanS lo hi)) := hidden (spanN_all lo hi)
  generalize setC (spanS lo hi) = res at *
  have HR : Hid (Holds ((w.alloc (.cells #[.int .u64 0, .int .u64 0, .int .u64 0, .int .u64 0] 101)).alloc (.cells #[.int .u64 0, .int .u64 0, .int .u64 0, .int .u64 0] 101)) w.heap.size 101 #[.int .u64 0, .int .u64 0, .int .u64 0, .int .u64 0]) := hidden (by repeat (first | (with_reducible assumption) | ((with_reducible refine holds_new ?_); (focus (first | rfl | (simp; done)))) | (with_reducible refine Holds.alloc ?_ _) | (with_reducible refine Holds.drew ?_)))
  have HS : Hid (Holds ((w.alloc (.cells #[.int .u64 0, .int .u64 0, .int .u64 0, .int .u64 0] 101)).alloc (.cells #[.int .u64 0, .int .u64 0, .int .u64 0, .int .u64 0] 101)) (w.heap.size + 1) 101 (setC (spanN lo hi 0))) := hidden (by rw [spanN_zero, setC_none]; exact Holds.new_at (by simp))
  have hb0 : Hid (Below w.heap.size w ((w.alloc (.cells #[.int .u64 0, .int .u64 0, .int .u64 0, .int .u64 0] 101)).alloc (.cells #[.int .u64 0, .int .u64 0, .int .u64 0, .int .u64 0] 101))) := hidden (((Below.refl _ _).alloc (Nat.le_refl _) _).alloc (by simp) _)
  go_enter Tryz.func113, Tryz.ntmps113
  go_wp2
  generalize ((w.alloc (.cells #[.int .u64 0, .int .u64 0, .int .u64 0, .int .u64 0] 101)).alloc (.cells #[.int .u64 0, .int .u64 0, .int .u64 0, .int .u64 0] 101)) = w1 at *
  go_loopw [6] (fun iv wr => ∃ k : Nat, iv = .int .i64 k ∧ k ≤ 256 ∧ Hid (Holds wr w.heap.size 101 #[.int .u64 0, .int .u64 0, .int .u64 0, .int .u64 0]) ∧ Hid (Holds wr (w.heap.size + 1) 101 (setC (spanN lo hi k))) ∧ Hid (Below w.heap.size w wr)) (fun iv wr => 256 - (intOf iv).toNat)
  case atStart => exact ⟨0, by go_num, by omega, HR, HS, hb0⟩
  case round =>
    clear HS HR hb0
    obtain ⟨k, rfl, hk, HR, HS, HB⟩ := hrel
    by_cases hlt : k < 256
    · have q2 : (k : Int) < 256 := by omega
      by_cases hin : lo ≤ k ∧ k ≤ hi
      · have q3 : (lo : Int) ≤ (k : Int) := by omega
        have q4 : (k : Int) ≤ (hi : Int) := by omega
        have HX1 := hidden (HX.out (spanN lo hi k) k hlt)
        rw [spanN_yes hin] at HX1
        unfold setC at HS HX1
        generalize wd (spanN lo hi k) 0 = m0 at *
        generalize wd (spanN lo hi k) 1 = m1 at *
        generalize wd (spanN lo hi k) 2 = m2 at *
        generalize wd (spanN lo hi k) 3 = m3 at *
        have HN : Hid (setC (spanN lo hi (k + 1)) = #[.int .u64 (wd (spanN lo hi (k + 1)) 0 : Nat), .int .u64 (wd (spanN lo hi (k + 1)) 1 : Nat), .int .u64 (wd (spanN lo hi (k + 1)) 2 : Nat), .int .u64 (wd (spanN lo hi (k + 1)) 3 : Nat)]) := hidden rfl
        generalize wd (spanN lo hi (k + 1)) 0 = n0 at *
        generalize wd (spanN lo hi (k + 1)) 1 = n1 at *
        generalize wd (spanN lo hi (k + 1)) 2 = n2 at *
        generalize wd (spanN lo hi (k + 1)) 3 = n3 at *
        obtain ⟨x0, x1, x2, x3⟩ := four HS.out
        go_wp2_with fail
        refine (HX1.out _).mono ?_
        rintro r w2 ⟨rfl, hb2⟩
        have hbz := HB.out.size
        replace HR := hidden (HR.out.below hb2 HR.out.lt)
        replace HS := hidden (HS.out.below hb2 HS.out.lt)
        replace HB := hidden (HB.out.trans (hb2.mono hbz))
        clear x0 x1 x2 x3 hb2 HX1 hbz
        obtain ⟨y0, y1, y2, y3⟩ := four HS.out
        obtain ⟨z0, z1, z2, z3⟩ := fourF HS.out
        have HS2 := hidden (stored4 HS.out n0 n1 n2 n3)
        have HR2 := hidden ((((HR.out.far (p := ⟨w.heap.size + 1, 0, none⟩) (by simp) (.int .u64 (n0 : Int))).far (p := ⟨w.heap.size + 1, 1, none⟩) (by simp) (.int .u64 (n1 : Int))).far (p := ⟨w.heap.size + 1, 2, none⟩) (by simp) (.int .u64 (n2 : Int))).far (p := ⟨w.heap.size + 1, 3, none⟩) (by simp) (.int .u64 (n3 : Int)))
        have HB2 := hidden ((((HB.out.setCell (p := ⟨w.heap.size + 1, 0, none⟩) (by simp) (.int .u64 (n0 : Int))).setCell (p := ⟨w.heap.size + 1, 1, none⟩) (by simp) (.int .u64 (n1 : Int))).setCell (p := ⟨w.heap.size + 1, 2, none⟩) (by simp) (.int .u64 (n2 : Int))).setCell (p := ⟨w.heap.size + 1, 3, none⟩) (by simp) (.int .u64 (n3 : Int)))
        clear HS HR HB
        go_wp2
        go_roundw
        case rel => exact ⟨k + 1, by go_num, by omega, HR2, hidden (by rw [HN.out]; exact HS2.out), HB2⟩
        case measure => simp [intOf]; omega
      · have hin2 := hin
        rw [spanN_no hin] at HS
        have hq : ¬ ((lo : Int) ≤ (k : Int)) ∨ ((lo : Int) ≤ (k : Int)) ∧ ¬ ((k : Int) ≤ (hi : Int)) := by omega
        clear hin hin2
        rcases hq with q3 | ⟨q3, q4⟩
        all_goals
          go_wp2
          go_roundw
          case rel => exact ⟨k + 1, by go_num, by omega, HR, HS, HB⟩
          case measure => simp [intOf]; omega
    · obtain rfl : k = 256 := by omega
      have hbe := HB.out
      have HN : Hid (res = #[.int .u64 (wd (spanN lo hi 256) 0 : Nat), .int .u64 (wd (spanN lo hi 256) 1 : Nat), .int .u64 (wd (spanN lo hi 256) 2 : Nat), .int .u64 (wd (spanN lo hi 256) 3 : Nat)]) := hidden hres.out.symm
      unfold setC at HS
      generalize wd (spanN lo hi 256) 0 = n0 at *
      generalize wd (spanN lo hi 256) 1 = n1 at *
      generalize wd (spanN lo hi 256) 2 = n2 at *
      generalize wd (spanN lo hi 256) 3 = n3 at *
      obtain ⟨x0, x1, x2, x3⟩ := four HS.out
      obtain ⟨y0, y1, y2, y3⟩ := four HR.out
      obtain ⟨z0, z1, z2, z3⟩ := fourF HR.out
      have HRf := hidden (stored4 HR.out n0 n1 n2 n3)
      clear HS HR HB HX hres
      go_wp2
      obtain ⟨r0, r1, r2, r3⟩ := four HRf.out
      refine bodyPost_ret (v := .agg #[.int .u64 (n0 : Int), .int .u64 (n1 : Int), .int .u64 (n2 : Int), .int .u64 (n3 : Int)]) ?_ rfl ⟨by rw [HN.out], (by repeat (first | (with_reducible exact Below.refl _ _) | (with_reducible assumption) | (with_reducible refine Below.drew ?_) | (with_reducible refine below_drewN ?_ _) | ((with_reducible refine below_alloc ?_ ?_); (focus (first | omega | (simp; done) | (simp; omega)))) | ((with_reducible refine below_set ?_ ?_); (focus (first | omega | (simp; done) | (simp; omega))))))⟩
      simp [results, Tryz.results113, go_sem, r0, r1, r2, r3]
end Go.Proofs.YtfmdmeokbbpmlaaGreat

namespace Go.Proofs.YtfmdmeokbbpmlaaGreat
open Go.RowKit Go.Shelf

/-- Which bytes two sets have. -/
def twoS (how : Int) (f g : Nat → Bool) : Nat → Bool := fun b => if how = 0 then f b || g b else if how = 1 then f b && g b else if how = 2 then f b && !g b else false
def twoN (how : Int) (f g : Nat → Bool) (n : Nat) : Nat → Bool := fun b => twoS how f g b && decide (b < n)
theorem twoN_zero (how : Int) (f g : Nat → Bool) : twoN how f g 0 = noneS := by funext b; simp [twoN, noneS]
theorem twoN_all (how : Int) (f g : Nat → Bool) : setC (twoN how f g 256) = setC (twoS how f g) := setC_ext (fun b hb => by unfold twoN; rw [decide_eq_true hb, Bool.and_true])
theorem twoN_yes {how : Int} {f g : Nat → Bool} {n : Nat} (h : twoS how f g n = true) : orS (twoN how f g n) (oneS n) = twoN how f g (n + 1) := by
  funext b
  unfold orS oneS twoN
  by_cases e : b = n
  · subst e
    rw [h]
    simp
  · have h1 : decide (b = n) = false := decide_eq_false e
    have h2 : decide (b < n + 1) = decide (b < n) := by
      rw [Bool.eq_iff_iff, decide_eq_true_eq, decide_eq_true_eq]; omega
    rw [h1, h2, Bool.or_false]
theorem twoN_no {how : Int} {f g : Nat → Bool} {n : Nat} (h : twoS how f g n = false) : twoN how f g n = twoN how f g (n + 1) := by
  funext b
  unfold twoN
  by_cases e : b = n
  · subst e; rw [h]; rfl
  · have h2 : decide (b < n + 1) = decide (b < n) := by
      rw [Bool.eq_iff_iff, decide_eq_true_eq, decide_eq_true_eq]; omega
    rw [h2]

theorem far4 {w : World} {p q : Nat} {t : TypeId} {cs : Array Value} (H : Holds w p t cs) (h : p ≠ q) (n0 n1 n2 n3 : Nat) :
    Holds ((((w.setCell ⟨q, 0, none⟩ (.int .u64 (n0 : Int))).setCell ⟨q, 1, none⟩ (.int .u64 (n1 : Int))).setCell ⟨q, 2, none⟩ (.int .u64 (n2 : Int))).setCell ⟨q, 3, none⟩ (.int .u64 (n3 : Int))) p t cs :=
  (((H.far (p := ⟨q, 0, none⟩) h _).far (p := ⟨q, 1, none⟩) h _).far (p := ⟨q, 2, none⟩) h _).far (p := ⟨q, 3, none⟩) h _
theorem below4 {B : Nat} {w0 w : World} {q : Nat} (H : Below B w0 w) (h : B ≤ q) (n0 n1 n2 n3 : Nat) :
    Below B w0 ((((w.setCell ⟨q, 0, none⟩ (.int .u64 (n0 : Int))).setCell ⟨q, 1, none⟩ (.int .u64 (n1 : Int))).setCell ⟨q, 2, none⟩ (.int .u64 (n2 : Int))).setCell ⟨q, 3, none⟩ (.int .u64 (n3 : Int))) :=
  (((H.setCell (p := ⟨q, 0, none⟩) h _).setCell (p := ⟨q, 1, none⟩) h _).setCell (p := ⟨q, 2, none⟩) h _).setCell (p := ⟨q, 3, none⟩) h _

set_option maxRecDepth 20000 in
set_option maxHeartbeats 8000000 in
theorem ref_Two02 (how : Int) (f g : Nat → Bool) (w : World) (hh : how = 0 ∨ how = 2) :
    Calls Tryz.prog 112 #[.int .i64 how, .agg (setC f), .agg (setC g)] w fun r w' => r = .returned (.agg (setC (twoS how f g))) ∧ Below w.heap.size w w' := by
  have HX := hidden (fun f c hc w' => ref_with02 f c hc w')
  have HF := hidden (fun b hb w' => ref_Has02 f b hb w')
  have HG := hidden (fun b hb w' => ref_Has02 g b hb w')
  have hres : Hid (setC (twoN how f g 256) = setC (twoS how f g)) := hidden (twoN_all how f g)
  generalize setC (twoS how f g) = res at *
  have HA : Hid (Holds ((((w.alloc (.cells (setC f) 101)).alloc (.cells (setC g) 101)).alloc (.cells #[.int .u64 0, .int .u64 0, .int .u64 0, .int .u64 0] 101)).alloc (.cells #[.int .u64 0, .int .u64 0, .int .u64 0, .int .u64 0] 101)) w.heap.size 101 (setC f)) := hidden (by repeat (first | (with_reducible assumption) | ((with_reducible refine holds_new ?_); (focus (first | rfl | (simp; done)))) | (with_reducible refine Holds.alloc ?_ _) | (with_reducible refine Holds.drew ?_)))
  have HB : Hid (Holds ((((w.alloc (.cells (setC f) 101)).alloc (.cells (setC g) 101)).alloc (.cells #[.int .u64 0, .int .u64 0, .int .u64 0, .int .u64 0] 101)).alloc (.cells #[.int .u64 0, .int .u64 0, .int .u64 0, .int .u64 0] 101)) (w.heap.size + 1) 101 (setC g)) := hidden (by repeat (first | (with_reducible assumption) | ((with_reducible refine holds_new ?_); (focus (first | rfl | (simp; done)))) | (with_reducible refine Holds.alloc ?_ _) | (with_reducible refine Holds.drew ?_)))
  have HR : Hid (Holds ((((w.alloc (.cells (setC f) 101)).alloc (.cells (setC g) 101)).alloc (.cells #[.int .u64 0, .int .u64 0, .int .u64 0, .int .u64 0] 101)).alloc (.cells #[.int .u64 0, .int .u64 0, .int .u64 0, .int .u64 0] 101)) (w.heap.size + 1 + 1) 101 #[.int .u64 0, .int .u64 0, .int .u64 0, .int .u64 0]) := hidden (by repeat (first | (with_reducible assumption) | ((with_reducible refine holds_new ?_); (focus (first | rfl | (simp; done)))) | (with_reducible refine Holds.alloc ?_ _) | (with_reducible refine Holds.drew ?_)))
  have HS : Hid (Holds ((((w.alloc (.cells (setC f) 101)).alloc (.cells (setC g) 101)).alloc (.cells #[.int .u64 0, .int .u64 0, .int .u64 0, .int .u64 0] 101)).alloc (.cells #[.int .u64 0, .int .u64 0, .int .u64 0, .int .u64 0] 101)) (w.heap.size + 1 + 1 + 1) 101 (setC (twoN how f g 0))) := hidden (by rw [twoN_zero, setC_none]; exact Holds.new_at (by simp))
  have hb0 : Hid (Below w.heap.size w ((((w.alloc (.cells (setC f) 101)).alloc (.cells (setC g) 101)).alloc (.cells #[.int .u64 0, .int .u64 0, .int .u64 0, .int .u64 0] 101)).alloc (.cells #[.int .u64 0, .int .u64 0, .int .u64 0, .int .u64 0] 101))) := hidden ((((((Below.refl _ _).alloc (Nat.le_refl _) _).alloc (by simp) _)).alloc (by simp; omega) _).alloc (by simp; omega) _)
  unfold setC at HA HB HF HG hb0 HR HS ⊢
  generalize wd f 0 = f0 at *
  generalize wd f 1 = f1 at *
  generalize wd f 2 = f2 at *
  generalize wd f 3 = f3 at *
  generalize wd g 0 = g0 at *
  generalize wd g 1 = g1 at *
  generalize wd g 2 = g2 at *
  generalize wd g 3 = g3 at *
  have HS0 : Hid (#[.int .u64 (wd (twoN how f g 0) 0 : Nat), .int .u64 (wd (twoN how f g 0) 1 : Nat), .int .u64 (wd (twoN how f g 0) 2 : Nat), .int .u64 (wd (twoN how f g 0) 3 : Nat)] = setC (twoN how f g 0)) := hidden rfl
  rw [HS0.out] at HS
  clear HS0
  go_enter Tryz.func112, Tryz.ntmps112
  go_wp2
  generalize ((((w.alloc (.cells #[.int .u64 (f0 : Int), .int .u64 (f1 : Int), .int .u64 (f2 : Int), .int .u64 (f3 : Int)] 101)).alloc (.cells #[.int .u64 (g0 : Int), .int .u64 (g1 : Int), .int .u64 (g2 : Int), .int .u64 (g3 : Int)] 101)).alloc (.cells #[.int .u64 0, .int .u64 0, .int .u64 0, .int .u64 0] 101)).alloc (.cells #[.int .u64 0, .int .u64 0, .int .u64 0, .int .u64 0] 101)) = w1 at *
  go_loopw [8, 9, 10] (fun iv _ _ wr => ∃ k : Nat, iv = .int .i64 k ∧ k ≤ 256 ∧ Hid (Holds wr w.heap.size 101 #[.int .u64 (f0 : Int), .int .u64 (f1 : Int), .int .u64 (f2 : Int), .int .u64 (f3 : Int)]) ∧ Hid (Holds wr (w.heap.size + 1) 101 #[.int .u64 (g0 : Int), .int .u64 (g1 : Int), .int .u64 (g2 : Int), .int .u64 (g3 : Int)]) ∧ Hid (Holds wr (w.heap.size + 1 + 1) 101 #[.int .u64 0, .int .u64 0, .int .u64 0, .int .u64 0]) ∧ Hid (Holds wr (w.heap.size + 1 + 1 + 1) 101 (setC (twoN how f g k))) ∧ Hid (Below w.heap.size w wr)) (fun iv _ _ wr => 256 - (intOf iv).toNat)
  case atStart => exact ⟨0, by go_num, by omega, HA, HB, HR, HS, hb0⟩
  case round =>
    clear HA HB HS HR hb0
    obtain ⟨k, rfl, hk, HA, HB, HR, HS, HW⟩ := hrel
    by_cases hlt : k < 256
    · have q2 : (k : Int) < 256 := by omega
      have hwk : IntKind.u8.wrap (k : Int) = (k : Int) := by rw [IntKind.wrap_u8]; omega
      have HF1 := hidden (HF.out k hlt)
      have HG1 := hidden (HG.out k hlt)
      obtain ⟨a0, a1, a2, a3⟩ := four HA.out
      obtain ⟨b0, b1, b2, b3⟩ := four HB.out
      have e0 := Ext.cell a0; have e1 := Ext.cell a1; have e2 := Ext.cell a2; have e3 := Ext.cell a3
      have d0 := Ext.cell b0; have d1 := Ext.cell b1; have d2 := Ext.cell b2; have d3 := Ext.cell b3
      go_wp2_with fail
      refine wp_region_ext (by kernel_rfl) (by kernel_rfl) ?_
      repeat (go_big_quiet_step ((go_at_call 108; first | (with_reducible exact Ext.call (HF1.out _)) | (with_reducible exact Ext.call (HG1.out _)))))
      refine wpQuiet_nil ?_
      intro w4 hb4
      clear e0 e1 e2 e3 d0 d1 d2 d3 a0 a1 a2 a3 b0 b1 b2 b3 HF1 HG1
      have hbz := HW.out.size
      replace HA := hidden (HA.out.below hb4 HA.out.lt)
      replace HB := hidden (HB.out.below hb4 HB.out.lt)
      replace HR := hidden (HR.out.below hb4 HR.out.lt)
      replace HS := hidden (HS.out.below hb4 HS.out.lt)
      replace HW := hidden (HW.out.trans (hb4.mono hbz))
      clear hb4 hbz
      cases ht : twoS how f g k
      · have hno := twoN_no ht
        rw [hno] at HS
        clear hno
        rcases hh with rfl | rfl <;> cases hfk : f k <;> cases hgk : g k <;> simp [twoS, hfk, hgk] at ht
        all_goals
          clear hfk hgk
          go_wp2
          go_roundw
          case rel => exact ⟨k + 1, by go_num, by omega, HA, HB, HR, HS, HW⟩
          case measure => simp [intOf]; omega
      · have HX1 := hidden (HX.out (twoN how f g k) k hlt)
        rw [twoN_yes ht] at HX1
        unfold setC at HS HX1
        generalize wd (twoN how f g k) 0 = m0 at *
        generalize wd (twoN how f g k) 1 = m1 at *
        generalize wd (twoN how f g k) 2 = m2 at *
        generalize wd (twoN how f g k) 3 = m3 at *
        have HN : Hid (setC (twoN how f g (k + 1)) = #[.int .u64 (wd (twoN how f g (k + 1)) 0 : Nat), .int .u64 (wd (twoN how f g (k + 1)) 1 : Nat), .int .u64 (wd (twoN how f g (k + 1)) 2 : Nat), .int .u64 (wd (twoN how f g (k + 1)) 3 : Nat)]) := hidden rfl
        generalize wd (twoN how f g (k + 1)) 0 = n0 at *
        generalize wd (twoN how f g (k + 1)) 1 = n1 at *
        generalize wd (twoN how f g (k + 1)) 2 = n2 at *
        generalize wd (twoN how f g (k + 1)) 3 = n3 at *
        obtain ⟨x0, x1, x2, x3⟩ := four HS.out
        rcases hh with rfl | rfl <;> cases hfk : f k <;> cases hgk : g k <;> simp [twoS, hfk, hgk] at ht
        all_goals
          clear hfk hgk
          go_wp2_with fail
          refine (HX1.out _).mono ?_
          rintro r w2 ⟨rfl, hb2⟩
          have hbz := HW.out.size
          replace HA := hidden (HA.out.below hb2 HA.out.lt)
          replace HB := hidden (HB.out.below hb2 HB.out.lt)
          replace HR := hidden (HR.out.below hb2 HR.out.lt)
          replace HS := hidden (HS.out.below hb2 HS.out.lt)
          replace HW := hidden (HW.out.trans (hb2.mono hbz))
          clear x0 x1 x2 x3 hb2 HX1 hbz
          obtain ⟨y0, y1, y2, y3⟩ := four HS.out
          obtain ⟨z0, z1, z2, z3⟩ := fourF HS.out
          have HS2 := hidden (stored4 HS.out n0 n1 n2 n3)
          have HR2 := hidden (far4 (q := w.heap.size + 1 + 1 + 1) HR.out (by omega) n0 n1 n2 n3)
          have HA2 := hidden (far4 (q := w.heap.size + 1 + 1 + 1) HA.out (by omega) n0 n1 n2 n3)
          have HB2 := hidden (far4 (q := w.heap.size + 1 + 1 + 1) HB.out (by omega) n0 n1 n2 n3)
          have HW2 := hidden (below4 (q := w.heap.size + 1 + 1 + 1) HW.out (by omega) n0 n1 n2 n3)
          clear HS HR HA HB HW
          go_wp2
          go_roundw
          case rel => exact ⟨k + 1, by go_num, by omega, HA2, HB2, HR2, hidden (by rw [HN.out]; exact HS2.out), HW2⟩
          case measure => simp [intOf]; omega
    · obtain rfl : k = 256 := by omega
      have hbe := HW.out
      have HN : Hid (res = #[.int .u64 (wd (twoN how f g 256) 0 : Nat), .int .u64 (wd (twoN how f g 256) 1 : Nat), .int .u64 (wd (twoN how f g 256) 2 : Nat), .int .u64 (wd (twoN how f g 256) 3 : Nat)]) := hidden hres.out.symm
      unfold setC at HS
      generalize wd (twoN how f g 256) 0 = n0 at *
      generalize wd (twoN how f g 256) 1 = n1 at *
      generalize wd (twoN how f g 256) 2 = n2 at *
      generalize wd (twoN how f g 256) 3 = n3 at *
      obtain ⟨x0, x1, x2, x3⟩ := four HS.out
      obtain ⟨y0, y1, y2, y3⟩ := four HR.out
      obtain ⟨z0, z1, z2, z3⟩ := fourF HR.out
      have HRf := hidden (stored4 HR.out n0 n1 n2 n3)
      have hbe2 := hidden (below4 HW.out (show w.heap.size ≤ w.heap.size + 1 + 1 by omega) n0 n1 n2 n3)
      clear HS HR HA HB HW HX hres HF HG
      go_wp2
      obtain ⟨r0, r1, r2, r3⟩ := four HRf.out
      refine bodyPost_ret (v := .agg #[.int .u64 (n0 : Int), .int .u64 (n1 : Int), .int .u64 (n2 : Int), .int .u64 (n3 : Int)]) ?_ rfl ⟨by rw [HN.out], hbe2.out⟩
      simp [results, Tryz.results112, go_sem, r0, r1, r2, r3]
end Go.Proofs.YtfmdmeokbbpmlaaGreat

namespace Go.Proofs.YtfmdmeokbbpmlaaGreat
open Go.RowKit Go.Shelf

/-- A set is read in one block, and put into another one. -/
def PutAt (W : World) (p q : Nat) (t : TypeId) (cs : Array Value) (w : World) : Prop := Holds w p t cs ∧ (∃ a b c d, Holds w q t #[a, b, c, d]) ∧ Below W.heap.size W w
theorem PutAt.later {W w w' : World} {p q : Nat} {t : TypeId} {cs : Array Value} (H : PutAt W p q t cs w) (hb : Below w.heap.size w w') : PutAt W p q t cs w' := by
  obtain ⟨h1, ⟨a, b, c, d, h2⟩, h3⟩ := H
  exact ⟨h1.below hb h1.lt, ⟨a, b, c, d, h2.below hb h2.lt⟩, h3.trans (hb.mono h3.size)⟩
theorem PutAt.put {W w : World} {p q : Nat} {t : TypeId} {cs : Array Value} (H : PutAt W p q t cs w) (hpq : p ≠ q) (hq : W.heap.size ≤ q) (n0 n1 n2 n3 : Nat) :
    PutAt W p q t cs ((((w.setCell ⟨q, 0, none⟩ (.int .u64 (n0 : Int))).setCell ⟨q, 1, none⟩ (.int .u64 (n1 : Int))).setCell ⟨q, 2, none⟩ (.int .u64 (n2 : Int))).setCell ⟨q, 3, none⟩ (.int .u64 (n3 : Int))) := by
  obtain ⟨h1, ⟨a, b, c, d, h2⟩, h3⟩ := H
  exact ⟨far4 h1 hpq _ _ _ _, ⟨_, _, _, _, stored4 h2 _ _ _ _⟩, below4 h3 hq _ _ _ _⟩
theorem PutAt.keep {W w : World} {p q : Nat} {t : TypeId} {a b c d : Value} (H : PutAt W p q t #[a, b, c, d] w) :
    w.cell? ⟨p, 0, none⟩ = some a ∧ w.cell? ⟨p, 1, none⟩ = some b ∧ w.cell? ⟨p, 2, none⟩ = some c ∧ w.cell? ⟨p, 3, none⟩ = some d ∧ PutAt W p q t #[a, b, c, d] w :=
  ⟨H.1.cell 0, H.1.cell 1, H.1.cell 2, H.1.cell 3, H⟩
theorem PutAt.target {W w : World} {p q : Nat} {t : TypeId} {cs : Array Value} (H : PutAt W p q t cs w) :
    ∃ a b c d, w.cell? ⟨q, 0, none⟩ = some a ∧ w.cell? ⟨q, 1, none⟩ = some b ∧ w.cell? ⟨q, 2, none⟩ = some c ∧ w.cell? ⟨q, 3, none⟩ = some d ∧
    w.frozen? ⟨q, 0, none⟩ = false ∧ w.frozen? ⟨q, 1, none⟩ = false ∧ w.frozen? ⟨q, 2, none⟩ = false ∧ w.frozen? ⟨q, 3, none⟩ = false := by
  obtain ⟨_, ⟨a, b, c, d, h2⟩, _⟩ := H
  exact ⟨a, b, c, d, h2.cell 0, h2.cell 1, h2.cell 2, h2.cell 3, h2.frozen 0, h2.frozen 1, h2.frozen 2, h2.frozen 3⟩
theorem twoS_not (f : Nat → Bool) : setC (twoS 2 (spanS 0 255) f) = setC (notS f) := setC_ext (fun b hb => by
  have h : spanS 0 255 b = true := by unfold spanS; simp; omega
  unfold twoS notS
  rw [h]
  simp)

set_option maxRecDepth 20000 in
set_option maxHeartbeats 8000000 in
theorem ref_Not02 (f : Nat → Bool) (w : World) :
    Calls Tryz.prog 93 #[.agg (setC f)] w fun r w' => r = .returned (.agg (setC (notS f))) ∧ Below w.heap.size w w' := by
  have HSp := hidden (fun w' => ref_Span02 0 255 w')
  have HTw := hidden (fun w' => ref_Two02 2 (spanS 0 255) f w' (.inr rfl))
  rw [twoS_not] at HTw
  have hsp : Hid (setC (spanS 0 255) = #[.int .u64 (wd (spanS 0 255) 0 : Nat), .int .u64 (wd (spanS 0 255) 1 : Nat), .int .u64 (wd (spanS 0 255) 2 : Nat), .int .u64 (wd (spanS 0 255) 3 : Nat)]) := hidden rfl
  have hres : Hid (setC (notS f) = #[.int .u64 (wd (notS f) 0 : Nat), .int .u64 (wd (notS f) 1 : Nat), .int .u64 (wd (notS f) 2 : Nat), .int .u64 (wd (notS f) 3 : Nat)]) := hidden rfl
  rw [hsp.out] at HSp HTw
  rw [hres.out] at HTw ⊢
  generalize wd (spanS 0 255) 0 = s0 at *
  generalize wd (spanS 0 255) 1 = s1 at *
  generalize wd (spanS 0 255) 2 = s2 at *
  generalize wd (spanS 0 255) 3 = s3 at *
  generalize wd (notS f) 0 = n0 at *
  generalize wd (notS f) 1 = n1 at *
  generalize wd (notS f) 2 = n2 at *
  generalize wd (notS f) 3 = n3 at *
  clear hsp hres
  unfold setC at HTw ⊢
  generalize wd f 0 = f0 at *
  generalize wd f 1 = f1 at *
  generalize wd f 2 = f2 at *
  generalize wd f 3 = f3 at *
  have HA : Hid (Holds ((w.alloc (.cells #[.int .u64 (f0 : Int), .int .u64 (f1 : Int), .int .u64 (f2 : Int), .int .u64 (f3 : Int)] 101)).alloc (.cells #[.int .u64 0, .int .u64 0, .int .u64 0, .int .u64 0] 101)) w.heap.size 101 #[.int .u64 (f0 : Int), .int .u64 (f1 : Int), .int .u64 (f2 : Int), .int .u64 (f3 : Int)]) := hidden (by repeat (first | (with_reducible assumption) | ((with_reducible refine holds_new ?_); (focus (first | rfl | (simp; done)))) | (with_reducible refine Holds.alloc ?_ _) | (with_reducible refine Holds.drew ?_)))
  have HR : Hid (Holds ((w.alloc (.cells #[.int .u64 (f0 : Int), .int .u64 (f1 : Int), .int .u64 (f2 : Int), .int .u64 (f3 : Int)] 101)).alloc (.cells #[.int .u64 0, .int .u64 0, .int .u64 0, .int .u64 0] 101)) (w.heap.size + 1) 101 #[.int .u64 0, .int .u64 0, .int .u64 0, .int .u64 0]) := hidden (by repeat (first | (with_reducible assumption) | ((with_reducible refine holds_new ?_); (focus (first | rfl | (simp; done)))) | (with_reducible refine Holds.alloc ?_ _) | (with_reducible refine Holds.drew ?_)))
  have hb0 : Below w.heap.size w ((w.alloc (.cells #[.int .u64 (f0 : Int), .int .u64 (f1 : Int), .int .u64 (f2 : Int), .int .u64 (f3 : Int)] 101)).alloc (.cells #[.int .u64 0, .int .u64 0, .int .u64 0, .int .u64 0] 101)) := ((Below.refl _ _).alloc (Nat.le_refl _) _).alloc (by simp) _
  go_enter Tryz.func93, Tryz.ntmps93
  go_upto_region 1 with fail
  generalize ((w.alloc (.cells #[.int .u64 (f0 : Int), .int .u64 (f1 : Int), .int .u64 (f2 : Int), .int .u64 (f3 : Int)] 101)).alloc (.cells #[.int .u64 0, .int .u64 0, .int .u64 0, .int .u64 0] 101)) = w1 at *
  obtain ⟨x0, x1, x2, x3⟩ := four HA.out
  have HPA := hidden (show PutAt w w.heap.size (w.heap.size + 1) 101 #[.int .u64 (f0 : Int), .int .u64 (f1 : Int), .int .u64 (f2 : Int), .int .u64 (f3 : Int)] w1 from ⟨HA.out, ⟨_, _, _, _, HR.out⟩, hb0⟩)
  have HPD := hidden (HPA.out.later (Below.drew (Below.refl _ _)))
  have hpq : w.heap.size ≠ w.heap.size + 1 := by omega
  have hqq : w.heap.size ≤ w.heap.size + 1 := by omega
  clear HA HR hb0
  go_region_held3 (fun w' => w'.cell? ⟨w.heap.size, 0, none⟩ = some (.int .u64 (f0 : Int)) ∧ w'.cell? ⟨w.heap.size, 1, none⟩ = some (.int .u64 (f1 : Int)) ∧ w'.cell? ⟨w.heap.size, 2, none⟩ = some (.int .u64 (f2 : Int)) ∧ w'.cell? ⟨w.heap.size, 3, none⟩ = some (.int .u64 (f3 : Int)) ∧ PutAt w w.heap.size (w.heap.size + 1) 101 #[.int .u64 (f0 : Int), .int .u64 (f1 : Int), .int .u64 (f2 : Int), .int .u64 (f3 : Int)] w')
    (first | exact ⟨x0, x1, x2, x3, HPD.out⟩ | (go_split_ands; exact PutAt.keep HP5.out) | (go_split_ands; exact PutAt.keep (PutAt.put HP5.out hpq hqq n0 n1 n2 n3)) | (go_split_ands; exact PutAt.keep (PutAt.later (by assumption) (by assumption))))
    (first | (go_at_call 113; go_split_ands; refine (HSp.out _).mono ?_; rintro e w4 ⟨rfl, hb4⟩) | (go_at_call 112; go_split_ands; refine (HTw.out _).mono ?_; rintro e w5 ⟨rfl, hb5⟩; have HP5 := hidden (PutAt.later (by assumption) hb5); obtain ⟨a5, b5, c5, d5, y0, y1, y2, y3, z0, z1, z2, z3⟩ := HP5.out.target))
  all_goals
    obtain ⟨_, ⟨a6, b6, c6, d6, HR6⟩, hb6⟩ := HP5.out
    have HRf := hidden (stored4 HR6 n0 n1 n2 n3)
    have hbf := hidden (below4 hb6 (show w.heap.size ≤ w.heap.size + 1 by omega) n0 n1 n2 n3)
    clear HR6 hb6 HP5 HPA HPD
    go_wp2
    obtain ⟨r0, r1, r2, r3⟩ := four HRf.out
    refine bodyPost_ret (v := .agg #[.int .u64 (n0 : Int), .int .u64 (n1 : Int), .int .u64 (n2 : Int), .int .u64 (n3 : Int)]) ?_ rfl ⟨rfl, hbf.out⟩
    simp [results, Tryz.results93, go_sem, r0, r1, r2, r3]
end Go.Proofs.YtfmdmeokbbpmlaaGreat

namespace Go.Proofs.YtfmdmeokbbpmlaaGreat
open Go.RowKit Go.Shelf

theorem u64_fit (n : Nat) (h : n < 18446744073709551616) : IntKind.u64.wrap (n : Int) = (n : Int) := by rw [IntKind.wrap_u64]; omega
theorem u64_and_m (a m : Nat) (ha : a < 18446744073709551616) (hm : m < 18446744073709551616) : bits .and .u64 (a : Int) (m : Int) = ((a &&& m : Nat) : Int) := u64_and_nat a m ha hm
theorem ones_sum (p0 p1 p2 p3 p4 p5 p6 p7 : Nat) (h0 : p0 ≤ 8) (h1 : p1 ≤ 8) (h2 : p2 ≤ 8) (h3 : p3 ≤ 8) (h4 : p4 ≤ 8) (h5 : p5 ≤ 8) (h6 : p6 ≤ 8) (h7 : p7 ≤ 8) :
    ∃ d1 d2 d3 : Nat, ofB [p0, p1, p2, p3, p4, p5, p6, p7] + ofB [p0, p1, p2, p3, p4, p5, p6, p7] / 256 = d1 ∧ d1 + d1 / 65536 = d2 ∧ d2 + d2 / 4294967296 = d3 ∧ ofB [p0, p1, p2, p3, p4, p5, p6, p7] < 1152921504606846976 ∧ d1 < 1152921504606846976 ∧ d2 < 2305843009213693952 ∧ d3 < 2305843009213693952 ∧ d3 % 128 = p0 + p1 + p2 + p3 + p4 + p5 + p6 + p7 := by
  have e1 : ofB [p0, p1, p2, p3, p4, p5, p6, p7] + ofB [p0, p1, p2, p3, p4, p5, p6, p7] / 256 = ofB [p0 + p1, p1 + p2, p2 + p3, p3 + p4, p4 + p5, p5 + p6, p6 + p7, p7] := by simp only [ofB]; omega
  have e2 : ofB [p0 + p1, p1 + p2, p2 + p3, p3 + p4, p4 + p5, p5 + p6, p6 + p7, p7] + ofB [p0 + p1, p1 + p2, p2 + p3, p3 + p4, p4 + p5, p5 + p6, p6 + p7, p7] / 65536 = ofB [p0 + p1 + (p2 + p3), p1 + p2 + (p3 + p4), p2 + p3 + (p4 + p5), p3 + p4 + (p5 + p6), p4 + p5 + (p6 + p7), p5 + p6 + p7, p6 + p7, p7] := by simp only [ofB]; omega
  have e3 : ofB [p0 + p1 + (p2 + p3), p1 + p2 + (p3 + p4), p2 + p3 + (p4 + p5), p3 + p4 + (p5 + p6), p4 + p5 + (p6 + p7), p5 + p6 + p7, p6 + p7, p7] + ofB [p0 + p1 + (p2 + p3), p1 + p2 + (p3 + p4), p2 + p3 + (p4 + p5), p3 + p4 + (p5 + p6), p4 + p5 + (p6 + p7), p5 + p6 + p7, p6 + p7, p7] / 4294967296 = ofB [p0 + p1 + (p2 + p3) + (p4 + p5 + (p6 + p7)), p1 + p2 + (p3 + p4) + (p5 + p6 + p7), p2 + p3 + (p4 + p5) + (p6 + p7), p3 + p4 + (p5 + p6) + p7, p4 + p5 + (p6 + p7), p5 + p6 + p7, p6 + p7, p7] := by simp only [ofB]; omega
  refine ⟨_, _, _, rfl, rfl, rfl, ?_⟩
  rw [e1, e2, e3]
  simp only [ofB]
  refine ⟨?_, ?_, ?_, ?_, ?_⟩ <;> omega

theorem cntN_add (f : Nat → Bool) (m : Nat) : ∀ n, cntN f (m + n) = cntN f m + cntN (fun j => f (m + j)) n := by
  intro n
  induction n with
  | zero => rfl
  | succ n ih => rw [show m + (n + 1) = (m + n) + 1 by omega, cntN_succ, ih, cntN_succ, Nat.add_assoc]
theorem bytesS_len (f : Nat → Bool) : (bytesS f).length = cntN f 256 := rfl

end Go.Proofs.YtfmdmeokbbpmlaaGreat

namespace Go.Proofs.YtfmdmeokbbpmlaaGreat

theorem ctz_bits (x : Nat) (h0 : x ≠ 0) (hx : x < 18446744073709551616) : Lib.ctz 64 x < 64 ∧ x.testBit (Lib.ctz 64 x) = true ∧ (∀ j, j < Lib.ctz 64 x → x.testBit j = false) ∧ ∀ j, (x &&& (x - 1)).testBit j = (x.testBit j && !decide (j = Lib.ctz 64 x)) := by
  obtain ⟨m, hm, hk⟩ := Lib.ctzFrom_spec 64 x (by omega) hx
  have e : Lib.ctz 64 x = Lib.ctzFrom 64 x := by simp [Lib.ctz, h0]
  rw [e]
  generalize Lib.ctzFrom 64 x = c at *
  have hp : 0 < 2 ^ c := Nat.two_pow_pos c
  have hxb : ∀ j, x.testBit j = (decide (j ≥ c) && (2 * m + 1).testBit (j - c)) := fun j => by rw [hm, Nat.testBit_two_pow_mul]
  have h1 : x - 1 = 2 ^ c * (2 * m) + (2 ^ c - 1) := by
    rw [hm, Nat.mul_add, Nat.mul_one]
    omega
  have hyb : ∀ j, (x - 1).testBit j = if j < c then (2 ^ c - 1).testBit j else (2 * m).testBit (j - c) := fun j => by rw [h1, Nat.testBit_two_pow_mul_add _ (by omega)]
  have hodd : (2 * m + 1).testBit 0 = true := by rw [Nat.testBit_zero]; simp
  have heven : (2 * m).testBit 0 = false := by rw [Nat.testBit_zero]; simp
  have hup : ∀ n, (2 * m + 1).testBit (n + 1) = (2 * m).testBit (n + 1) := fun n => by
    rw [Nat.testBit_succ, Nat.testBit_succ, show (2 * m + 1) / 2 = (2 * m) / 2 by omega]
  refine ⟨hk, ?_, fun j hj => ?_, fun j => ?_⟩
  · rw [hxb, Nat.sub_self, hodd]; simp
  · rw [hxb]
    have : decide (j ≥ c) = false := decide_eq_false (by omega)
    rw [this, Bool.false_and]
  · rw [Nat.testBit_and, hxb, hyb]
    by_cases hj : j < c
    · have : decide (j ≥ c) = false := decide_eq_false (by omega)
      rw [this]; simp
    · rw [if_neg hj]
      have h2 : decide (j ≥ c) = true := decide_eq_true (by omega)
      rw [h2]
      by_cases hjc : j = c
      · subst hjc
        rw [Nat.sub_self, heven]; simp
      · have h3 : decide (j = c) = false := decide_eq_false hjc
        rw [h3]
        obtain ⟨n, hn⟩ : ∃ n, j - c = n + 1 := ⟨j - c - 1, by omega⟩
        rw [hn, hup]
        simp
/-- What of a set is not below a place. -/
def geF (f : Nat → Bool) (n : Nat) : Nat → Bool := fun b => f b && decide (n ≤ b)
theorem geF_start (f : Nat → Bool) (k : Nat) : wd (geF f (64 * k)) k = wd f k := wd_ext (fun j hj => by
  unfold geF
  have : decide (64 * k ≤ 64 * k + j) = true := decide_eq_true (by omega)
  rw [this, Bool.and_true])
theorem geF_zero {f : Nat → Bool} {k n : Nat} (h : wd (geF f n) k = 0) (hn : 64 * k ≤ n) : ∀ b, n ≤ b → b < 64 * (k + 1) → f b = false := by
  intro b h1 h2
  have hb := wd_bit (geF f n) k (b - 64 * k) (by omega)
  rw [h, Nat.zero_testBit, show 64 * k + (b - 64 * k) = b by omega] at hb
  unfold geF at hb
  rw [decide_eq_true h1, Bool.and_true] at hb
  exact hb.symm
/-- One byte found, and taken out. -/
theorem geF_next {f : Nat → Bool} {k n : Nat} (h : wd (geF f n) k ≠ 0) (hn : 64 * k ≤ n) : ∃ c, Lib.ctz 64 (wd (geF f n) k) = c ∧ c < 64 ∧ n ≤ 64 * k + c ∧ f (64 * k + c) = true ∧ (∀ b, n ≤ b → b < 64 * k + c → f b = false) ∧ wd (geF f n) k &&& (wd (geF f n) k - 1) = wd (geF f (64 * k + c + 1)) k := by
  have hlt := wd_lt (geF f n) k
  obtain ⟨h1, h2, h3, h4⟩ := ctz_bits _ h hlt
  generalize hc : Lib.ctz 64 (wd (geF f n) k) = c at *
  have h5 := wd_bit (geF f n) k c h1
  rw [h2] at h5
  have h6 : f (64 * k + c) = true ∧ n ≤ 64 * k + c := by
    unfold geF at h5
    simpa [Bool.and_eq_true] using h5.symm
  refine ⟨c, rfl, h1, h6.2, h6.1, fun b hb1 hb2 => ?_, ?_⟩
  · have h7 := h3 (b - 64 * k) (by omega)
    rw [wd_bit _ _ _ (by omega), show 64 * k + (b - 64 * k) = b by omega] at h7
    unfold geF at h7
    rw [decide_eq_true hb1, Bool.and_true] at h7
    exact h7
  · refine wd_eq (Nat.lt_of_le_of_lt Nat.and_le_left hlt) (fun j hj => ?_)
    rw [h4, wd_bit _ _ _ hj]
    unfold geF
    by_cases hj1 : j = c
    · subst hj1
      have : decide (64 * k + j + 1 ≤ 64 * k + j) = false := decide_eq_false (by omega)
      rw [this]; simp
    · have e1 : decide (j = c) = false := decide_eq_false hj1
      rw [e1]
      by_cases hj2 : j < c
      · have h7 := h3 j hj2
        rw [wd_bit _ _ _ hj] at h7
        unfold geF at h7
        rw [h7]
        have : decide (64 * k + c + 1 ≤ 64 * k + j) = false := decide_eq_false (by omega)
        rw [this]; simp
      · have a1 : decide (n ≤ 64 * k + j) = true := decide_eq_true (by omega)
        have a2 : decide (64 * k + c + 1 ≤ 64 * k + j) = true := decide_eq_true (by omega)
        rw [a1, a2]; simp
/-- The bytes below a place. -/
def belowS (f : Nat → Bool) (n : Nat) : List Nat := (List.range n).filter f
theorem belowS_len (f : Nat → Bool) (n : Nat) : (belowS f n).length ≤ n := by
  unfold belowS; exact Nat.le_trans (List.length_filter_le _ _) (by simp)
theorem belowS_succ (f : Nat → Bool) (n : Nat) : belowS f (n + 1) = belowS f n ++ if f n = true then [n] else [] := by
  unfold belowS
  rw [List.range_succ, List.filter_append]
  congr 1
  cases h : f n <;> simp [h]
theorem belowS_skip {f : Nat → Bool} {a : Nat} : ∀ b, a ≤ b → (∀ x, a ≤ x → x < b → f x = false) → belowS f b = belowS f a := by
  intro b
  induction b with
  | zero => intro h _; rw [show a = 0 by omega]
  | succ b ih =>
    intro h1 h2
    by_cases e : a = b + 1
    · rw [e]
    · rw [belowS_succ, h2 b (by omega) (by omega), ih (by omega) (fun x hx1 hx2 => h2 x hx1 (by omega))]
      simp
theorem belowS_found {f : Nat → Bool} {a c : Nat} (h1 : a ≤ c) (h2 : f c = true) (h3 : ∀ x, a ≤ x → x < c → f x = false) : belowS f (c + 1) = belowS f a ++ [c] := by
  rw [belowS_succ, if_pos h2, belowS_skip c h1 h3]
theorem bytesS_below (f : Nat → Bool) : bytesS f = belowS f 256 := rfl
end Go.Proofs.YtfmdmeokbbpmlaaGreat

namespace Go.Proofs.YtfmdmeokbbpmlaaGreat
open Go.RowKit Go.Shelf

abbrev byteN : Nat → Value := fun b => .int .u8 (b : Int)
theorem byte_info : Hid (TyInfo Tryz.prog 5 (.int .u8 0) 1 1) := hidden (info_parts (show (Tryz.prog.info? 5).map (fun i => (i.zero, i.size, i.bytes)) = some (some (.int .u8 0), 1, 1) by kernel_rfl))
abbrev Bytes8 (w : World) (T : Nat → Prop) (v : Value) (l : List Nat) : Prop := Row byteN w T v l
abbrev Bytes8M (w : World) (base : Nat) (v : Value) (l : List Nat) : Prop := RowM byteN 5 w base v l
theorem wpList_append_b {w W0 : World} {ops : Array Oper} {rest : List Oper} {o : Oper} {a : Act} {Q : Exit → Act → World → Prop} (hgd : o.guard = none) (s x : Operand)
    (ho : o.op = .call { callee := .builtin .append, args := #[s, x], argTypes := #[95, 95] }) (base : Nat) (v : Value) (l : List Nat) (HM : Hid (Bytes8M W0 base v l)) (u : Nat) {e' : TypeId} (hw : w = W0.alloc (.cells #[.int .u8 (u : Int)] e')) (hs : a.eval s = v) {g : Nat}
    (hx : a.eval x = .slice (some ⟨g, 0, none⟩) 1 1) (hg : g = W0.heap.size) (hn : l.length ≤ 1000000000000) (hb : base ≤ W0.heap.size)
    (h : ∀ v' w', Hid (Bytes8M w' base v' (l ++ [u])) → Below base W0 w' → Hid (Keeps (fun k => v.ownBlock ≠ some k) W0 w') → wpList Tryz.prog ops Q rest (a.put o.dst v') w') : wpList Tryz.prog ops Q (o :: rest) a w :=
  wpList_append_row (enc := byteN) hgd s x 95 5 e' ho (by kernel_rfl) byte_info rfl (fun _ => rfl) base v l HM u hw hs hx hg (by omega) (by decide) hb h
theorem RowM.made_empty {α : Type} {enc : α → Value} {w : World} {base : Nat} {e : TypeId} {cs : Array Value} {n : Nat} (hs : cs.size = n) (hn : n ≤ maxLen) (hb : base ≤ w.heap.size) :
    RowM enc e (w.alloc (.cells cs e)) base (.slice (some ⟨w.heap.size, 0, none⟩) 0 n) [] :=
  .inl (World.ownsRow_made w cs n hb hn (by omega))

end Go.Proofs.YtfmdmeokbbpmlaaGreat

namespace Go.Proofs.YtfmdmeokbbpmlaaGreat

def stepR (acc : List (Nat × Nat)) (b : Nat) : List (Nat × Nat) := match acc with
  | [] => [(b, b)]
  | (x, y) :: acc => if y + 1 = b then (x, b) :: acc else (b, b) :: (x, y) :: acc
theorem stepR_nil (b : Nat) : stepR [] b = [(b, b)] := rfl
theorem stepR_cons (x y b : Nat) (acc : List (Nat × Nat)) : stepR ((x, y) :: acc) b = if y + 1 = b then (x, b) :: acc else (b, b) :: (x, y) :: acc := rfl
theorem runsF_fold : ∀ (l : List Nat) (acc : List (Nat × Nat)), runsF acc l = (l.foldl stepR acc).reverse := by
  intro l
  induction l with
  | nil => intro acc; cases acc <;> rfl
  | cons b l ih =>
    intro acc
    rw [List.foldl_cons]
    match acc with
    | [] => rw [runsF, ih]; rfl
    | (x, y) :: acc =>
      rw [runsF]
      split
      · rename_i h
        rw [ih, stepR_cons, if_pos h]
      · rename_i h
        rw [ih, stepR_cons, if_neg h]
/-- The stretches of the first bytes of a set, the last one ahead. -/
def accR (l : List Nat) (k : Nat) : List (Nat × Nat) := (l.take k).foldl stepR []
theorem accR_zero (l : List Nat) : accR l 0 = [] := by unfold accR; rw [List.take_zero]; rfl
theorem accR_succ {l : List Nat} {k b : Nat} (h : l[k]? = some b) : accR l (k + 1) = stepR (accR l k) b := by
  unfold accR
  rw [List.take_add_one, h, List.foldl_append]
  rfl
theorem accR_all (f : Nat → Bool) : runsS f = (accR (bytesS f) (bytesS f).length).reverse := by
  unfold runsS accR
  rw [runsF_fold, List.take_length]
theorem accR_len (l : List Nat) : ∀ k, (accR l k).length ≤ k := by
  intro k
  induction k with
  | zero => rw [accR_zero]; simp
  | succ k ih =>
    by_cases h : k < l.length
    · rw [accR_succ (List.getElem?_eq_getElem h)]
      unfold stepR
      split
      · simp
      · rename_i e
        rw [e] at ih
        split <;> simp at ih ⊢ <;> omega
    · have : accR l (k + 1) = accR l k := by
        unfold accR
        rw [List.take_of_length_le (by omega), List.take_of_length_le (by omega)]
      rw [this]; omega
/-- All that stand in stretches are bytes. -/
theorem stepR_lt {acc : List (Nat × Nat)} {b : Nat} (hb : b < 256) (h : ∀ r ∈ acc, r.1 < 256 ∧ r.2 < 256) : ∀ r ∈ stepR acc b, r.1 < 256 ∧ r.2 < 256 := by
  intro r hr
  unfold stepR at hr
  split at hr
  · simp at hr; subst hr; exact ⟨hb, hb⟩
  · rename_i x y acc
    have hx := h (x, y) List.mem_cons_self
    split at hr
    · rcases List.mem_cons.1 hr with rfl | hr
      · exact ⟨hx.1, hb⟩
      · exact h r (List.mem_cons_of_mem _ hr)
    · rcases List.mem_cons.1 hr with rfl | hr
      · exact ⟨hb, hb⟩
      · exact h r hr
theorem bytesS_lt {f : Nat → Bool} {b : Nat} (h : b ∈ bytesS f) : b < 256 ∧ f b = true := by
  unfold bytesS at h
  rw [List.mem_filter, List.mem_range] at h
  exact h
theorem accR_lt (f : Nat → Bool) : ∀ k, ∀ r ∈ accR (bytesS f) k, r.1 < 256 ∧ r.2 < 256 := by
  intro k
  induction k with
  | zero => intro r hr; rw [accR_zero] at hr; cases hr
  | succ k ih =>
    by_cases h : k < (bytesS f).length
    · rw [accR_succ (List.getElem?_eq_getElem h)]
      exact stepR_lt (bytesS_lt (List.getElem_mem h)).1 ih
    · have : accR (bytesS f) (k + 1) = accR (bytesS f) k := by
        unfold accR
        rw [List.take_of_length_le (by omega), List.take_of_length_le (by omega)]
      rw [this]; exact ih

/-! ### As the document finds them -/
def startB (f : Nat → Bool) (b : Nat) : Bool := f b && !(decide (0 < b) && f (b - 1))
def endK (f : Nat → Bool) : Nat → Nat → Nat
  | 0, b => b
  | k + 1, b => if f (b + 1) = true then endK f k (b + 1) else b
def endB (f : Nat → Bool) (b : Nat) : Nat := endK f (255 - b) b
theorem endB_top (f : Nat → Bool) : endB f 255 = 255 := rfl
theorem endB_next {f : Nat → Bool} {b : Nat} (h : b < 255) : endB f b = if f (b + 1) = true then endB f (b + 1) else b := by
  unfold endB
  obtain ⟨k, hk⟩ : ∃ k, 255 - b = k + 1 := ⟨255 - b - 1, by omega⟩
  rw [hk, endK, show 255 - (b + 1) = k by omega]
theorem endB_ge (f : Nat → Bool) : ∀ k b, b + k = 255 → b ≤ endB f b ∧ endB f b ≤ 255 := by
  intro k
  induction k with
  | zero => intro b h; obtain rfl : b = 255 := by omega
            rw [endB_top]; omega
  | succ k ih =>
    intro b h
    rw [endB_next (by omega)]
    split
    · have := ih (b + 1) (by omega); omega
    · omega
def foundR (f : Nat → Bool) (l : List Nat) : List (Nat × Nat) := (l.filter (startB f)).map (fun b => (b, endB f b))
theorem foundR_cons (f : Nat → Bool) (b : Nat) (l : List Nat) : foundR f (b :: l) = if startB f b = true then (b, endB f b) :: foundR f l else foundR f l := by
  unfold foundR
  rw [List.filter_cons]
  split <;> rfl
theorem runs_both (f : Nat → Bool) : ∀ k n, n + k = 256 →
    (∀ acc : List (Nat × Nat), (n = 0 ∨ f (n - 1) = false) → (∀ x y r, acc = (x, y) :: r → y + 1 < n + 1 ∧ y + 1 ≠ n) → (((List.range' n k).filter f).foldl stepR acc).reverse = acc.reverse ++ foundR f (List.range' n k)) ∧
    (∀ (x : Nat) (acc : List (Nat × Nat)), 0 < n → f (n - 1) = true → (((List.range' n k).filter f).foldl stepR ((x, n - 1) :: acc)).reverse = acc.reverse ++ (x, endB f (n - 1)) :: foundR f (List.range' n k)) := by
  intro k
  induction k with
  | zero =>
    intro n hn
    obtain rfl : n = 256 := by omega
    refine ⟨fun acc _ _ => by simp [foundR], fun x acc _ _ => ?_⟩
    rw [show (256 : Nat) - 1 = 255 from rfl, endB_top]
    simp [foundR]
  | succ k ih =>
    intro n hn
    obtain ⟨i1, i2⟩ := ih (n + 1) (by omega)
    rw [show n + 1 - 1 = n by omega] at i1 i2
    rw [List.range'_succ, foundR_cons, List.filter_cons]
    refine ⟨fun acc h1 h2 => ?_, fun x acc h0 h1 => ?_⟩
    · cases hf : f n
      · have hs : startB f n = false := by unfold startB; rw [hf]; rfl
        rw [hs, if_neg (by decide), if_neg (by decide)]
        exact i1 acc (.inr hf) (fun x y r e => by have := h2 x y r e; omega)
      · have hs : startB f n = true := by
          unfold startB
          rw [hf]
          rcases h1 with rfl | h1
          · rfl
          · rw [h1]; simp
        rw [hs, if_pos rfl, if_pos rfl, List.foldl_cons]
        have e : stepR acc n = (n, n) :: acc := by
          match acc, h2 with
          | [], _ => rfl
          | (x, y) :: r, h2 => rw [stepR_cons, if_neg (h2 x y r rfl).2]
        rw [e]
        exact i2 n acc (by omega) hf
    · have hs : startB f n = false := by
        unfold startB
        rw [h1, decide_eq_true h0]
        simp
      rw [hs, if_neg (by decide : ¬ (false = true))]
      have hn1 : endB f (n - 1) = if f n = true then endB f n else n - 1 := by
        rw [endB_next (by omega), show n - 1 + 1 = n by omega]
      cases hf : f n
      · rw [hf, if_neg (by decide)] at hn1
        rw [if_neg (by decide), hn1]
        have := i1 ((x, n - 1) :: acc) (.inr hf) (fun x' y' r e => by cases e; omega)
        rw [this]
        simp
      · rw [hf, if_pos rfl] at hn1
        rw [if_pos rfl, hn1, List.foldl_cons]
        have e : stepR ((x, n - 1) :: acc) n = (x, n) :: acc := by rw [stepR_cons, if_pos (by omega)]
        rw [e]
        exact i2 x acc (by omega) hf
/-- Both find the same. -/
theorem runs_found (f : Nat → Bool) : runsS f = foundR f (List.range 256) := by
  have h := (runs_both f 256 0 rfl).1 [] (.inl rfl) (fun x y r e => by cases e)
  unfold runsS bytesS
  rw [runsF_fold, List.range_eq_range']
  exact h
end Go.Proofs.YtfmdmeokbbpmlaaGreat

namespace Go.Proofs.YtfmdmeokbbpmlaaGreat
open Go.RowKit Go.Shelf

def pairC (p : Nat × Nat) : List Value := [.int .i64 (p.1 : Int), .int .i64 (p.2 : Int)]
abbrev Pairs (w : World) (T : Nat → Prop) (v : Value) (l : List (Nat × Nat)) : Prop := Rd w T 2 v l.length (l.flatMap pairC)
def PairsM (w : World) (base : Nat) (v : Value) (l : List (Nat × Nat)) : Prop := Mine w base 163 2 v l.length (l.flatMap pairC)
theorem pair_info : Hid (TyInfo Tryz.prog 163 (.agg #[.int .i64 0, .int .i64 0]) 2 16) := hidden (info_parts (show (Tryz.prog.info? 163).map (fun i => (i.zero, i.size, i.bytes)) = some (some (.agg #[.int .i64 0, .int .i64 0]), 2, 16) by kernel_rfl))
theorem wpList_append_p {w W0 : World} {ops : Array Oper} {rest : List Oper} {o : Oper} {a : Act} {Q : Exit → Act → World → Prop} (hgd : o.guard = none) (s x : Operand)
    (ho : o.op = .call { callee := .builtin .append, args := #[s, x], argTypes := #[161, 161] }) (base : Nat) (v : Value) (l : List (Nat × Nat)) (HM : Hid (PairsM W0 base v l)) (u : Nat × Nat) {e' : TypeId} (hw : w = W0.alloc (.cells #[.int .i64 (u.1 : Int), .int .i64 (u.2 : Int)] e')) (hs : a.eval s = v) {g : Nat}
    (hx : a.eval x = .slice (some ⟨g, 0, none⟩) 1 1) (hg : g = W0.heap.size) (hn : l.length ≤ 1000000000) (hb : base ≤ W0.heap.size)
    (h : ∀ v' w', Hid (PairsM w' base v' (l ++ [u])) → Below base W0 w' → wpList Tryz.prog ops Q rest (a.put o.dst v') w') : wpList Tryz.prog ops Q (o :: rest) a w := by
  obtain ⟨i, hi, hz, hsz, hby⟩ := pair_info.out
  subst hw hg
  refine wpList_append_rd hgd s x 161 ho base 163 i _ 2 16 (by kernel_rfl) hi hz hsz hby rfl (by decide) v l.length _ hs (Mine.alloc HM.out _) (T := fun _ => True) _ 1 (pairC u) hx ?_ ?_ (by omega) (by decide) (Nat.le_trans hb (by simp)) (fun v' w' hA => h v' w' ?_ (((Below.refl _ _).alloc hb _).trans hA.below))
  · exact Rd.fresh (cs := pairC u) (n := 1) (size := 2) rfl (Nat.le_refl _) (by decide) trivial rfl
  · intro y hy
    unfold pairC at hy
    simp at hy
    rcases hy with rfl | rfl <;> rfl
  · have := hA.mine
    refine hidden ?_
    unfold PairsM
    rw [List.length_append, List.flatMap_append]
    simpa [List.flatMap_cons] using this
theorem PairsM.rd {w : World} {base : Nat} {v : Value} {l : List (Nat × Nat)} (h : PairsM w base v l) : Pairs w (Old w) v l := Mine.rd h (fun _ _ _ h => h)
theorem pairs_flat (l : List (Nat × Nat)) : (l.flatMap pairC).length = l.length * 2 := by
  induction l with
  | nil => rfl
  | cons a l ih => rw [List.flatMap_cons, List.length_append, ih, List.length_cons]; simp [pairC]; omega
/-- The last pair of the call's own, where it lies, and what comes of turning its end. -/
theorem PairsM.last {w : World} {base : Nat} {v : Value} {l : List (Nat × Nat)} {x y : Nat} (h : PairsM w base v (l ++ [(x, y)])) :
    ∃ g cap, v = .slice (some ⟨g, 0, none⟩) (l.length + 1) cap ∧ l.length + 1 ≤ cap ∧ cap ≤ maxLen ∧ base ≤ g ∧ g < w.heap.size ∧ w.cell? ⟨g, l.length * 2 + 1, none⟩ = some (.int .i64 (y : Int)) ∧ w.frozen? ⟨g, l.length * 2 + 1, none⟩ = false ∧
    ∀ z : Nat, PairsM (w.setCell ⟨g, l.length * 2 + 1, none⟩ (.int .i64 (z : Int))) base v (l ++ [(x, z)]) := by
  have ho := Mine.own h (by simp)
  rcases ho.2 with ⟨_, h0⟩ | ⟨g, cap, cur, rfl, hb, hg, hn, hm, hs, ht⟩
  · simp at h0
  · have hlen : (l ++ [(x, y)]).length = l.length + 1 := by simp
    have hcur : cur.toList.take ((l.length + 1) * 2) = l.flatMap pairC ++ [.int .i64 (x : Int), .int .i64 (y : Int)] := by
      rw [hlen] at ht
      rw [ht, List.flatMap_append]
      rfl
    have hy : cur[l.length * 2 + 1]? = some (.int .i64 (y : Int)) := by
      have h1 : (cur.toList.take ((l.length + 1) * 2))[l.length * 2 + 1]? = some (.int .i64 (y : Int)) := by
        rw [hcur, List.getElem?_append_right (by rw [pairs_flat]; omega), pairs_flat, show l.length * 2 + 1 - l.length * 2 = 1 by omega]
        rfl
      rw [List.getElem?_take, if_pos (by omega)] at h1
      simpa using h1
    have hH : Holds w g 163 cur := hg
    refine ⟨g, cap, by rw [hlen], by rw [hlen] at hn; exact hn, hm, hb, hH.lt, (hH.cell _).trans hy, hH.frozen _, fun z => ?_⟩
    have hst := (World.ownsRow.stored ho (l.length * 2 + 1) (.int .i64 (z : Int))).1
    refine .inl ?_
    have e : (l ++ [(x, y)]).length = (l ++ [(x, z)]).length := by simp
    have e2 : ((l ++ [(x, y)]).flatMap pairC).set (l.length * 2 + 1) (.int .i64 (z : Int)) = (l ++ [(x, z)]).flatMap pairC := by
      rw [List.flatMap_append, List.flatMap_append, List.set_append_right _ _ (by rw [pairs_flat]; omega), pairs_flat, show l.length * 2 + 1 - l.length * 2 = 1 by omega]
      rfl
    rw [e2] at hst
    rw [← e]
    exact hst

end Go.Proofs.YtfmdmeokbbpmlaaGreat

namespace Go.Proofs.YtfmdmeokbbpmlaaGreat
open Go.RowKit Go.Shelf

theorem bytesS_none {f : Nat → Bool} (h : bytesS f ≠ []) : (wd f 0 == 0 && (wd f 1 == 0 && (wd f 2 == 0 && wd f 3 == 0))) = false := by
  rw [Bool.eq_false_iff]
  intro e
  simp only [Bool.and_eq_true, beq_iff_eq] at e
  refine h ?_
  have hf := (wd_same (f := f) (g := noneS)).1 (by
    have hn : ∀ k, wd noneS k = 0 := fun k => wd_none k
    rw [hn, hn, hn, hn]; exact ⟨e.1, e.2.1, e.2.2.1, e.2.2.2⟩)
  unfold bytesS
  rw [List.filter_eq_nil_iff]
  intro b hb
  rw [hf b (List.mem_range.1 hb)]
  simp [noneS]

set_option maxRecDepth 100000 in
set_option maxHeartbeats 8000000 in
theorem ref_Bytes02 (f : Nat → Bool) (w : World) :
    Calls Tryz.prog 91 #[.agg (setC f)] w fun r w' => (∃ v, r = .returned v ∧ Hid (Bytes8M w' w.heap.size v (bytesS f))) ∧ Below w.heap.size w w' := by
  have HH := hidden (fun b hb w' => ref_Has02 f b hb w')
  have HRes : Hid (bytesS f = belowS f 256) := hidden rfl
  generalize bytesS f = res at *
  have HA : Hid (Holds (w.alloc (.cells (setC f) 101)) w.heap.size 101 (setC f)) := hidden (Holds.new _ _ _)
  have hb0 : Below w.heap.size w (w.alloc (.cells (setC f) 101)) := (Below.refl _ _).alloc (Nat.le_refl _) _
  unfold setC at *
  generalize wd f 0 = n0 at *
  generalize wd f 1 = n1 at *
  generalize wd f 2 = n2 at *
  generalize wd f 3 = n3 at *
  go_enter Tryz.func91, Tryz.ntmps91
  go_upto_region 1 with fail
  generalize (w.alloc (.cells #[.int .u64 (n0 : Int), .int .u64 (n1 : Int), .int .u64 (n2 : Int), .int .u64 (n3 : Int)] 101)) = w1 at *
  have hlt1 := HA.out.lt
  have hb1 : Hid (Below (w.heap.size + 1) w1 (w1.alloc (.cells #[] 5))) := hidden ((Below.refl _ _).alloc (by omega) _)
  have HM0 : Hid (Bytes8M (w1.alloc (.cells #[] 5)) (w.heap.size + 1) (.slice (some ⟨w1.heap.size, 0, none⟩) 0 0) []) := hidden (.inr ⟨rfl, rfl, _, rfl⟩)
  go_wp2
  go_loopw [3, 4] (fun lv iv wr => ∃ k : Nat, iv = .int .i64 k ∧ k ≤ 256 ∧ Hid (Bytes8M wr (w.heap.size + 1) lv (belowS f k)) ∧ Hid (Below (w.heap.size + 1) w1 wr)) (fun _ iv wr => 256 - (intOf iv).toNat)
  case atStart => exact ⟨0, by go_num, by omega, HM0, hb1⟩
  case round =>
    clear HM0 hb1
    obtain ⟨k, rfl, hk, HM, HB⟩ := hrel
    have hws := HB.out.size
    by_cases hlt : k < 256
    · have q2 : (k : Int) < 256 := by omega
      have hwk : IntKind.u8.wrap (k : Int) = (k : Int) := by rw [IntKind.wrap_u8]; omega
      obtain ⟨x0, x1, x2, x3⟩ := four (HA.out.below HB.out (by omega))
      have HX := hidden (HH.out k hlt)
      have HS := hidden (belowS_succ f k)
      have hbl := belowS_len f k
      go_wp2_with fail
      refine (HX.out _).mono ?_
      rintro r w2 ⟨rfl, hb2⟩
      replace HM := hidden (Mine.below HM.out hb2)
      have HB2 := hidden (HB.out.trans (hb2.mono (by omega)))
      have hws2 := HB2.out.size
      clear x0 x1 x2 x3 hb2 HX HB
      cases hfk : f k
      · rw [hfk, if_neg (by decide), List.append_nil] at HS
        have HM2 : Hid (Bytes8M w2 (w.heap.size + 1) u3 (belowS f k)) := HM
        clear hfk
        go_wp2
        go_roundw
        case rel => exact ⟨k + 1, by go_num, by omega, hidden (by rw [HS.out]; exact HM2.out), HB2⟩
        case measure => simp [intOf]; omega
      · rw [hfk, if_pos rfl] at HS
        have HM2 : Hid (Bytes8M w2 (w.heap.size + 1) u3 (belowS f k)) := HM
        have hwb : w.heap.size + 1 ≤ w2.heap.size := by omega
        have hbl2 : (belowS f k).length ≤ 1000 := by omega
        clear hfk HM
        go_wp2_with (at_builtin; refine wpList_append_b rfl _ _ rfl (w.heap.size + 1) _ _ HM2 k rfl rfl rfl (by first | rfl | simp) (by omega) hwb ?_; intro v' w' hA hb3 hK)
        have HB3 := hidden (HB2.out.trans hb3)
        clear HM2 hb3 hK HB2
        go_wp2
        go_roundw
        case rel => exact ⟨k + 1, by go_num, by omega, hidden (by rw [HS.out]; exact hA.out), HB3⟩
        case measure => simp [intOf]; omega
    · obtain rfl : k = 256 := by omega
      have HM2 := hidden (Mine.base HM.out (Nat.le_succ w.heap.size))
      have hbe := hb0.trans (HB.out.mono (Nat.le_succ _))
      clear HM HB
      go_wp2
      go_ret
      exact ⟨⟨_, rfl, hidden (by rw [HRes.out]; exact HM2.out)⟩, hbe⟩
end Go.Proofs.YtfmdmeokbbpmlaaGreat

namespace Go.Proofs.YtfmdmeokbbpmlaaGreat
open Go.RowKit Go.Shelf

theorem foundR_succ (f : Nat → Bool) (n : Nat) : foundR f (List.range (n + 1)) = foundR f (List.range n) ++ if startB f n = true then [(n, endB f n)] else [] := by
  unfold foundR
  rw [List.range_succ, List.filter_append, List.map_append]
  congr 1
  cases h : startB f n <;> simp [h]
theorem foundR_len (f : Nat → Bool) (n : Nat) : (foundR f (List.range n)).length ≤ n := by
  unfold foundR
  rw [List.length_map]
  exact Nat.le_trans (List.length_filter_le _ _) (by simp)

set_option maxRecDepth 100000 in
set_option maxHeartbeats 8000000 in
theorem ref_Runs02 (f : Nat → Bool) (w : World) :
    Calls Tryz.prog 115 #[.agg (setC f)] w fun r w' => (∃ v, r = .returned v ∧ Hid (PairsM w' w.heap.size v (runsS f))) ∧ Below w.heap.size w w' := by
  have HH := hidden (fun b hb w' => ref_Has02 f b hb w')
  have HRes : Hid (runsS f = foundR f (List.range 256)) := hidden (runs_found f)
  generalize runsS f = res at *
  have HA : Hid (Holds (w.alloc (.cells (setC f) 101)) w.heap.size 101 (setC f)) := hidden (Holds.new _ _ _)
  have hb0 : Below w.heap.size w (w.alloc (.cells (setC f) 101)) := (Below.refl _ _).alloc (Nat.le_refl _) _
  unfold setC at *
  generalize wd f 0 = n0 at *
  generalize wd f 1 = n1 at *
  generalize wd f 2 = n2 at *
  generalize wd f 3 = n3 at *
  go_enter Tryz.func115, Tryz.ntmps115
  go_upto_region 1 with fail
  generalize (w.alloc (.cells #[.int .u64 (n0 : Int), .int .u64 (n1 : Int), .int .u64 (n2 : Int), .int .u64 (n3 : Int)] 101)) = w1 at *
  have hlt1 := HA.out.lt
  have hb1 : Hid (Below (w.heap.size + 1) w1 (w1.alloc (.cells #[] 163))) := hidden ((Below.refl _ _).alloc (by omega) _)
  have HM0 : Hid (PairsM (w1.alloc (.cells #[] 163)) (w.heap.size + 1) (.slice (some ⟨w1.heap.size, 0, none⟩) 0 0) []) := hidden (.inr ⟨rfl, rfl, _, rfl⟩)
  go_wp2
  go_loopw [3, 4, 5] (fun lv iv _ wr => ∃ k : Nat, iv = .int .i64 k ∧ k ≤ 256 ∧ Hid (PairsM wr (w.heap.size + 1) lv (foundR f (List.range k))) ∧ Hid (Below (w.heap.size + 1) w1 wr)) (fun _ iv _ wr => 256 - (intOf iv).toNat)
  case atStart => exact ⟨0, by go_num, by omega, HM0, hb1⟩
  case round =>
    clear HM0 hb1
    obtain ⟨k, rfl, hk, HM, HB⟩ := hrel
    have hws := HB.out.size
    obtain ⟨A0, c0, hvl⟩ := Mine.value HM.out
    subst hvl
    by_cases hlt : k < 256
    · have q2 : (k : Int) < 256 := by omega
      have hwk : IntKind.u8.wrap (k : Int) = (k : Int) := by rw [IntKind.wrap_u8]; omega
      obtain ⟨x0, x1, x2, x3⟩ := four (HA.out.below HB.out (by omega))
      have HX := hidden (HH.out k hlt)
      have HS := hidden (foundR_succ f k)
      have hbl := foundR_len f k
      generalize hfl : foundR f (List.range k) = fl at *
      have HFL := hidden hfl
      clear hfl
      go_wp2_with fail
      refine (HX.out _).mono ?_
      rintro r w2 ⟨rfl, hb2⟩
      replace HM := hidden (Mine.below HM.out hb2)
      have HB2 := hidden (HB.out.trans (hb2.mono (by omega)))
      have hws2 := HB2.out.size
      clear x0 x1 x2 x3 hb2 HX HB
      -- what follows where a stretch begins
      cases hfk : f k
      · have HS2 : Hid (foundR f (List.range (k + 1)) = fl) := hidden (by rw [HS.out]; unfold startB; rw [hfk]; simp)
        clear hfk HS
        go_wp2
        go_roundw
        case rel => exact ⟨k + 1, by go_num, by omega, hidden (by rw [HS2.out]; exact HM.out), HB2⟩
        case measure => simp [intOf]; omega
      · skip
        rcases k with _ | j
        · have HSt : Hid (startB f 0 = true) := hidden (by unfold startB; rw [hfk]; rfl)
          clear hfk
          have HS2 : Hid (foundR f (List.range (0 + 1)) = fl ++ [(0, endB f (0))]) := hidden (by rw [HS.out, HSt.out, if_pos rfl])
          have HE0 : Hid (endB f (0) = endB f (0)) := hidden rfl
          generalize hev : endB f (0) = ev at *
          have HEv := hidden hev
          clear hev HS HSt HE0
          go_wp2
          generalize hwo : w2 = wo at *
          clear hwo
          go_loopw [5] (fun lv wr => ∃ m : Nat, lv = .int .i64 m ∧ 0 ≤ m ∧ m ≤ 255 ∧ Hid (endB f m = ev) ∧ Hid (PairsM wr (w.heap.size + 1) (.slice A0 fl.length c0) fl) ∧ Hid (Below (w.heap.size + 1) w1 wr)) (fun lv wr => 255 - (intOf lv).toNat)
          case atStart => exact ⟨0, by go_num, Nat.le_refl _, by omega, HEv, HM, HB2⟩
          case round =>
            clear HM HB2 hws2
            obtain ⟨m, rfl, hm1, hm2, HE, HM, HB2⟩ := hrel
            have hws2 := HB2.out.size
            by_cases hm3 : m < 255
            · have q5 : (m : Int) < 255 := by omega
              have hwm : IntKind.u8.wrap ((m : Int) + 1) = (((m + 1 : Nat)) : Int) := by rw [IntKind.wrap_u8]; omega
              obtain ⟨x0, x1, x2, x3⟩ := four (HA.out.below HB2.out (by omega))
              have HX := hidden (HH.out (m + 1) (by omega))
              have HN := hidden (endB_next (f := f) hm3)
              go_wp2_with fail
              refine (HX.out _).mono ?_
              rintro r w4 ⟨rfl, hb4⟩
              replace HM := hidden (Mine.below HM.out hb4)
              replace HB2 := hidden (HB2.out.trans (hb4.mono (by omega)))
              clear x0 x1 x2 x3 hb4 HX hws2
              cases hfm : f (m + 1)
              · rw [hfm, if_neg (by decide)] at HN
                have HE2 : Hid (ev = m) := hidden (by rw [← HE.out, HN.out])
                have hws4 : w.heap.size + 1 ≤ w4.heap.size := by have := HB2.out.size; omega
                have hbl2 : fl.length ≤ 1000 := by omega
                clear hfm HN HE
                go_wp2_with (at_builtin; refine wpList_append_p rfl _ _ rfl (w.heap.size + 1) _ _ HM (0, m) rfl rfl rfl (by first | rfl | simp) (by omega) hws4 ?_; intro v' w' hA hb3)
                have HB3 := hidden (HB2.out.trans hb3)
                clear HM HB2 hb3
                go_wp2
                go_roundw
                case rel => exact ⟨0 + 1, by go_num, by omega, hidden (by rw [HS2.out, HE2.out]; exact hA.out), HB3⟩
                case measure => simp [intOf] <;> omega
              · rw [hfm, if_pos rfl] at HN
                have HE2 : Hid (endB f (m + 1) = ev) := hidden (by rw [← HE.out, HN.out])
                clear hfm HN HE
                go_wp2
                go_roundw
                case rel => exact ⟨m + 1, by go_num, by omega, by omega, HE2, HM, HB2⟩
                case measure => simp [intOf] <;> omega
            · obtain rfl : m = 255 := by omega
              have HE2 : Hid (ev = 255) := hidden (by rw [← HE.out, endB_top])
              have hws4 : w.heap.size + 1 ≤ wr.heap.size := by omega
              have hbl2 : fl.length ≤ 1000 := by omega
              clear HE
              go_wp2_with (at_builtin; refine wpList_append_p rfl _ _ rfl (w.heap.size + 1) _ _ HM (0, 255) rfl rfl rfl (by first | rfl | simp) (by omega) hws4 ?_; intro v' w' hA hb3)
              have HB3 := hidden (HB2.out.trans hb3)
              clear HM HB2 hb3
              go_wp2
              go_roundw
              case rel => exact ⟨0 + 1, by go_num, by omega, hidden (by rw [HS2.out, HE2.out]; exact hA.out), HB3⟩
              case measure => simp [intOf] <;> omega

        · have hj : j < 256 := by omega
          have hwj : IntKind.u8.wrap (j : Int) = (j : Int) := by rw [IntKind.wrap_u8]; omega
          obtain ⟨x0, x1, x2, x3⟩ := four (HA.out.below HB2.out (by omega))
          have HX := hidden (HH.out j hj)
          have HK := hidden hfk
          clear hfk
          go_wp2_with fail
          refine (HX.out _).mono ?_
          rintro r w3 ⟨rfl, hb3⟩
          replace HM := hidden (Mine.below HM.out hb3)
          replace HB2 := hidden (HB2.out.trans (hb3.mono (by omega)))
          replace hws2 := HB2.out.size
          clear x0 x1 x2 x3 hb3 HX
          cases hfj : f j
          · have HSt : Hid (startB f (j + 1) = true) := hidden (by unfold startB; rw [HK.out, show j + 1 - 1 = j by omega, hfj]; simp)
            clear hfj HK
            have HS2 : Hid (foundR f (List.range (j + 1 + 1)) = fl ++ [(j + 1, endB f (j + 1))]) := hidden (by rw [HS.out, HSt.out, if_pos rfl])
            have HE0 : Hid (endB f (j + 1) = endB f (j + 1)) := hidden rfl
            generalize hev : endB f (j + 1) = ev at *
            have HEv := hidden hev
            clear hev HS HSt HE0
            go_wp2
            generalize hwo : w3 = wo at *
            clear hwo
            go_loopw [5] (fun lv wr => ∃ m : Nat, lv = .int .i64 m ∧ j + 1 ≤ m ∧ m ≤ 255 ∧ Hid (endB f m = ev) ∧ Hid (PairsM wr (w.heap.size + 1) (.slice A0 fl.length c0) fl) ∧ Hid (Below (w.heap.size + 1) w1 wr)) (fun lv wr => 255 - (intOf lv).toNat)
            case atStart => exact ⟨j + 1, by go_num, Nat.le_refl _, by omega, HEv, HM, HB2⟩
            case round =>
              clear HM HB2 hws2
              obtain ⟨m, rfl, hm1, hm2, HE, HM, HB2⟩ := hrel
              have hws2 := HB2.out.size
              by_cases hm3 : m < 255
              · have q5 : (m : Int) < 255 := by omega
                have hwm : IntKind.u8.wrap ((m : Int) + 1) = (((m + 1 : Nat)) : Int) := by rw [IntKind.wrap_u8]; omega
                obtain ⟨x0, x1, x2, x3⟩ := four (HA.out.below HB2.out (by omega))
                have HX := hidden (HH.out (m + 1) (by omega))
                have HN := hidden (endB_next (f := f) hm3)
                go_wp2_with fail
                refine (HX.out _).mono ?_
                rintro r w4 ⟨rfl, hb4⟩
                replace HM := hidden (Mine.below HM.out hb4)
                replace HB2 := hidden (HB2.out.trans (hb4.mono (by omega)))
                clear x0 x1 x2 x3 hb4 HX hws2
                cases hfm : f (m + 1)
                · rw [hfm, if_neg (by decide)] at HN
                  have HE2 : Hid (ev = m) := hidden (by rw [← HE.out, HN.out])
                  have hws4 : w.heap.size + 1 ≤ w4.heap.size := by have := HB2.out.size; omega
                  have hbl2 : fl.length ≤ 1000 := by omega
                  clear hfm HN HE
                  go_wp2_with (at_builtin; refine wpList_append_p rfl _ _ rfl (w.heap.size + 1) _ _ HM (j + 1, m) rfl rfl rfl (by first | rfl | simp) (by omega) hws4 ?_; intro v' w' hA hb3)
                  have HB3 := hidden (HB2.out.trans hb3)
                  clear HM HB2 hb3
                  go_wp2
                  go_roundw
                  case rel => exact ⟨j + 1 + 1, by go_num, by omega, hidden (by rw [HS2.out, HE2.out]; exact hA.out), HB3⟩
                  case measure => simp [intOf] <;> omega
                · rw [hfm, if_pos rfl] at HN
                  have HE2 : Hid (endB f (m + 1) = ev) := hidden (by rw [← HE.out, HN.out])
                  clear hfm HN HE
                  go_wp2
                  go_roundw
                  case rel => exact ⟨m + 1, by go_num, by omega, by omega, HE2, HM, HB2⟩
                  case measure => simp [intOf] <;> omega
              · obtain rfl : m = 255 := by omega
                have HE2 : Hid (ev = 255) := hidden (by rw [← HE.out, endB_top])
                have hws4 : w.heap.size + 1 ≤ wr.heap.size := by omega
                have hbl2 : fl.length ≤ 1000 := by omega
                clear HE
                go_wp2_with (at_builtin; refine wpList_append_p rfl _ _ rfl (w.heap.size + 1) _ _ HM (j + 1, 255) rfl rfl rfl (by first | rfl | simp) (by omega) hws4 ?_; intro v' w' hA hb3)
                have HB3 := hidden (HB2.out.trans hb3)
                clear HM HB2 hb3
                go_wp2
                go_roundw
                case rel => exact ⟨j + 1 + 1, by go_num, by omega, hidden (by rw [HS2.out, HE2.out]; exact hA.out), HB3⟩
                case measure => simp [intOf] <;> omega

          · have HS2 : Hid (foundR f (List.range (j + 1 + 1)) = fl) := hidden (by rw [HS.out]; unfold startB; rw [HK.out, show j + 1 - 1 = j by omega, hfj]; simp)
            clear hfj HS HK
            go_wp2
            go_roundw
            case rel => exact ⟨j + 1 + 1, by go_num, by omega, hidden (by rw [HS2.out]; exact HM.out), HB2⟩
            case measure => simp [intOf] <;> omega
    · obtain rfl : k = 256 := by omega
      have HM2 := hidden (Mine.base HM.out (Nat.le_succ w.heap.size))
      have hbe := hb0.trans (HB.out.mono (Nat.le_succ _))
      clear HM HB
      go_wp2
      go_ret
      exact ⟨⟨_, rfl, hidden (by rw [HRes.out]; exact HM2.out)⟩, hbe⟩
end Go.Proofs.YtfmdmeokbbpmlaaGreat

namespace Go.Proofs.YtfmdmeokbbpmlaaGreat
open Go.RowKit Go.Shelf

theorem setC_with (f : Nat → Bool) (c : Nat) (hc : c < 256) : (setC f).setIfInBounds (c / 64) (.int .u64 ((wd f (c / 64) ||| 2 ^ (c % 64) : Nat) : Int)) = setC (orS f (oneS c)) := by
  unfold setC
  rcases four_cases c hc with ⟨e, _⟩ | ⟨e, _⟩ | ⟨e, _⟩ | ⟨e, _⟩
  all_goals rw [e]
  · rw [wd_with f c 0 e, wd_same_k f c 1 (by omega), wd_same_k f c 2 (by omega), wd_same_k f c 3 (by omega)]; rfl
  · rw [wd_with f c 1 e, wd_same_k f c 0 (by omega), wd_same_k f c 2 (by omega), wd_same_k f c 3 (by omega)]; rfl
  · rw [wd_with f c 2 e, wd_same_k f c 0 (by omega), wd_same_k f c 1 (by omega), wd_same_k f c 3 (by omega)]; rfl
  · rw [wd_with f c 3 e, wd_same_k f c 0 (by omega), wd_same_k f c 1 (by omega), wd_same_k f c 2 (by omega)]; rfl
theorem spanN_low (lo hi : Nat) : spanN lo hi lo = noneS := by
  funext b
  unfold spanN spanS noneS
  rw [Bool.eq_false_iff]
  intro e
  simp only [Bool.and_eq_true, decide_eq_true_eq] at e
  omega
theorem spanN_high {lo hi n : Nat} (h : hi < n ∨ hi < lo) : spanN lo hi n = spanS lo hi := by
  funext b
  unfold spanN spanS
  rw [Bool.eq_iff_iff]
  simp only [Bool.and_eq_true, decide_eq_true_eq]
  omega

set_option maxRecDepth 100000 in
set_option maxHeartbeats 8000000 in
theorem bset_Span (lo hi : Nat) (w : World) (hl : lo < 256) (hh : hi < 256) :
    Calls Tryz.prog 131 #[.int .i64 (lo : Int), .int .i64 (hi : Int)] w fun r w' => r = .returned (.agg (setC (spanS lo hi))) ∧ Below w.heap.size w w' := by
  generalize hres : setC (spanS lo hi) = res at *
  have HRes := hidden hres
  clear hres
  have HR : Hid (Holds ((w.alloc (.cells #[.int .u64 0, .int .u64 0, .int .u64 0, .int .u64 0] 101)).alloc (.cells #[.int .u64 0, .int .u64 0, .int .u64 0, .int .u64 0] 101)) w.heap.size 101 #[.int .u64 0, .int .u64 0, .int .u64 0, .int .u64 0]) := hidden (by repeat (first | (with_reducible assumption) | ((with_reducible refine holds_new ?_); (focus (first | rfl | (simp; done)))) | (with_reducible refine Holds.alloc ?_ _) | (with_reducible refine Holds.drew ?_)))
  have HS : Hid (Holds ((w.alloc (.cells #[.int .u64 0, .int .u64 0, .int .u64 0, .int .u64 0] 101)).alloc (.cells #[.int .u64 0, .int .u64 0, .int .u64 0, .int .u64 0] 101)) (w.heap.size + 1) 101 (setC (spanN lo hi lo))) := hidden (by rw [spanN_low, setC_none]; exact Holds.new_at (by simp))
  have hb0 : Hid (Below w.heap.size w ((w.alloc (.cells #[.int .u64 0, .int .u64 0, .int .u64 0, .int .u64 0] 101)).alloc (.cells #[.int .u64 0, .int .u64 0, .int .u64 0, .int .u64 0] 101))) := hidden (((Below.refl _ _).alloc (Nat.le_refl _) _).alloc (by simp) _)
  have m1 : max (lo : Int) 0 = (lo : Int) := by omega
  have m2 : min (hi : Int) 255 = (hi : Int) := by omega
  go_enter Tryz.func131, Tryz.ntmps131
  go_wp2
  generalize ((w.alloc (.cells #[.int .u64 0, .int .u64 0, .int .u64 0, .int .u64 0] 101)).alloc (.cells #[.int .u64 0, .int .u64 0, .int .u64 0, .int .u64 0] 101)) = w1 at *
  go_loopw [6] (fun iv wr => ∃ k : Nat, iv = .int .i64 k ∧ lo ≤ k ∧ (k ≤ hi + 1 ∨ k = lo) ∧ Hid (Holds wr w.heap.size 101 #[.int .u64 0, .int .u64 0, .int .u64 0, .int .u64 0]) ∧ Hid (Holds wr (w.heap.size + 1) 101 (setC (spanN lo hi k))) ∧ Hid (Below w.heap.size w wr)) (fun iv wr => hi + 1 - (intOf iv).toNat)
  case atStart => exact ⟨lo, by go_num, by omega, .inr rfl, HR, HS, hb0⟩
  case round =>
    clear HS HR hb0
    obtain ⟨k, rfl, hk1, hk2, HR, HS, HB⟩ := hrel
    by_cases hlt : k ≤ hi
    · have q2 : (k : Int) ≤ (hi : Int) := by omega
      have hk : k < 256 := by omega
      have q3 : (0 : Int) ≤ (k : Int) / 64 := by omega
      have q4 : (k : Int) / 64 < 4 := by omega
      have q5 : (0 : Int) ≤ (k : Int) % 64 := by omega
      have q6 : (k : Int) % 64 < 64 := by omega
      have x0 := (HS.out.cell (k / 64)).trans (setC_at (spanN lo hi k) (by omega))
      have z0 := HS.out.frozen (k / 64)
      have hN := setC_with (spanN lo hi k) k hk
      rw [spanN_yes ⟨hk1, hlt⟩] at hN
      have hpl : (2 : Nat) ^ (k % 64) < 18446744073709551616 := Nat.pow_lt_pow_right (n := 64) (by decide) (by omega)
      have hw := wrap_pow (k % 64) (by omega)
      have ho := u64_or_nat (wd (spanN lo hi k) (k / 64)) (2 ^ (k % 64)) (wd_lt _ _) hpl
      have hS2 := HS.out.set (k / 64) (.int .u64 ((wd (spanN lo hi k) (k / 64) ||| 2 ^ (k % 64) : Nat) : Int))
      rw [hN] at hS2
      generalize wd (spanN lo hi k) (k / 64) ||| 2 ^ (k % 64) = nv at *
      generalize (2 : Nat) ^ (k % 64) = pv at *
      generalize wd (spanN lo hi k) (k / 64) = ov at *
      have HS2 := hidden hS2
      have HR2 := hidden (HR.out.far (p := ⟨w.heap.size + 1, k / 64, none⟩) (by simp) (.int .u64 (nv : Int)))
      have HB2 := hidden (HB.out.setCell (p := ⟨w.heap.size + 1, k / 64, none⟩) (by simp) (.int .u64 (nv : Int)))
      have hws := HS.out.lt
      clear HS HR HB hN hS2
      go_wp2_with fail
      go_region
      all_goals
        go_wp2
        go_roundw
        case rel => exact ⟨k + 1, by go_num, by omega, by omega, hidden HR2.out.drew, hidden HS2.out.drew, hidden HB2.out.drew⟩
        case measure => simp [intOf] <;> omega
    · have q2 : ¬ (k : Int) ≤ (hi : Int) := by omega
      have hbe := HB.out
      rw [spanN_high (by omega), HRes.out] at HS
      obtain ⟨n0, n1, n2, n3, hr⟩ : ∃ n0 n1 n2 n3 : Nat, res = #[.int .u64 (n0 : Int), .int .u64 (n1 : Int), .int .u64 (n2 : Int), .int .u64 (n3 : Int)] := ⟨_, _, _, _, HRes.out.symm⟩
      clear HRes
      subst hr
      obtain ⟨x0, x1, x2, x3⟩ := four HS.out
      obtain ⟨y0, y1, y2, y3⟩ := four HR.out
      obtain ⟨z0, z1, z2, z3⟩ := fourF HR.out
      have HRf := hidden (stored4 HR.out n0 n1 n2 n3)
      have hbf := hidden (below4 (q := w.heap.size) HB.out (Nat.le_refl _) n0 n1 n2 n3)
      clear HS HR HB
      go_wp2
      obtain ⟨r0, r1, r2, r3⟩ := four HRf.out
      refine bodyPost_ret (v := .agg #[.int .u64 (n0 : Int), .int .u64 (n1 : Int), .int .u64 (n2 : Int), .int .u64 (n3 : Int)]) ?_ rfl ⟨rfl, hbf.out⟩
      simp [results, Tryz.results131, go_sem, r0, r1, r2, r3]

def anyS (l : List (Nat → Bool)) : Nat → Bool := fun b => l.any (fun f => f b)
def setsC (l : List (Nat → Bool)) : List Value := l.flatMap (fun f => (setC f).toList)
theorem anyS_nil : anyS [] = noneS := rfl
theorem anyS_snoc (l : List (Nat → Bool)) (f : Nat → Bool) : anyS (l ++ [f]) = orS (anyS l) f := by
  funext b
  unfold anyS orS
  rw [List.any_append]
  simp
theorem wd_orS (f g : Nat → Bool) (k : Nat) : wd (orS f g) k = wd f k ||| wd g k := (wd_union f g k).symm

set_option maxRecDepth 100000 in
set_option maxHeartbeats 8000000 in
theorem bset_All (v : Value) (l : List (Nat → Bool)) (w : World) (HR0 : Rd w (Old w) 4 v l.length (setsC l)) :
    Calls Tryz.prog 133 #[v] w fun r w' => r = .returned (.agg (setC (anyS l))) ∧ Below w.heap.size w w' := by
  obtain ⟨A, cp, rfl, hc1, hc2⟩ := HR0.val
  unfold maxLen at hc2
  have HL := hidden HR0
  generalize hres : setC (anyS l) = res at *
  have HRes := hidden hres
  clear hres HR0
  have HR : Hid (Holds ((w.alloc (.cells #[.int .u64 0, .int .u64 0, .int .u64 0, .int .u64 0] 101)).alloc (.cells #[.int .u64 0, .int .u64 0, .int .u64 0, .int .u64 0] 101)) w.heap.size 101 #[.int .u64 0, .int .u64 0, .int .u64 0, .int .u64 0]) := hidden (by repeat (first | (with_reducible assumption) | ((with_reducible refine holds_new ?_); (focus (first | rfl | (simp; done)))) | (with_reducible refine Holds.alloc ?_ _) | (with_reducible refine Holds.drew ?_)))
  have HS : Hid (Holds ((w.alloc (.cells #[.int .u64 0, .int .u64 0, .int .u64 0, .int .u64 0] 101)).alloc (.cells #[.int .u64 0, .int .u64 0, .int .u64 0, .int .u64 0] 101)) (w.heap.size + 1) 101 (setC (anyS (l.take 0)))) := hidden (by rw [List.take_zero, anyS_nil, setC_none]; exact Holds.new_at (by simp))
  have hb0 : Hid (Below w.heap.size w ((w.alloc (.cells #[.int .u64 0, .int .u64 0, .int .u64 0, .int .u64 0] 101)).alloc (.cells #[.int .u64 0, .int .u64 0, .int .u64 0, .int .u64 0] 101))) := hidden (((Below.refl _ _).alloc (Nat.le_refl _) _).alloc (by simp) _)
  go_enter Tryz.func133, Tryz.ntmps133
  go_wp2
  generalize ((w.alloc (.cells #[.int .u64 0, .int .u64 0, .int .u64 0, .int .u64 0] 101)).alloc (.cells #[.int .u64 0, .int .u64 0, .int .u64 0, .int .u64 0] 101)) = w1 at *
  go_loopw [5, 6, 9] (fun _ _ iv wr => ∃ k : Nat, iv = .int .i64 k ∧ k ≤ l.length ∧ Hid (Holds wr w.heap.size 101 #[.int .u64 0, .int .u64 0, .int .u64 0, .int .u64 0]) ∧ Hid (Holds wr (w.heap.size + 1) 101 (setC (anyS (l.take k)))) ∧ Hid (Below w.heap.size w wr)) (fun _ _ iv wr => l.length - (intOf iv).toNat)
  case atStart => exact ⟨0, by go_num, Nat.zero_le _, HR, HS, hb0⟩
  case round =>
    clear HS HR hb0
    obtain ⟨k, rfl, hk, HR, HS, HB⟩ := hrel
    by_cases hlt : k < l.length
    · have q2 : (k : Int) < (l.length : Int) := by omega
      have hz := List.getElem?_eq_getElem hlt
      generalize l[k] = f at *
      have hT : Hid (anyS (l.take (k + 1)) = orS (anyS (l.take k)) f) := hidden (by rw [List.take_add_one, hz]; exact anyS_snoc _ _)
      obtain ⟨bk, of, rfl, hbk, hat⟩ := Rd.flat_at (f := fun f => (setC f).toList) HL.out (fun _ => rfl) (by decide) hz
      have x0 := (HB.out.cell (p := ⟨bk, of + k * 4 + 0, none⟩) hbk).trans (hat 0 _ rfl)
      have x1 := (HB.out.cell (p := ⟨bk, of + k * 4 + 1, none⟩) hbk).trans (hat 1 _ rfl)
      have x2 := (HB.out.cell (p := ⟨bk, of + k * 4 + 2, none⟩) hbk).trans (hat 2 _ rfl)
      have x3 := (HB.out.cell (p := ⟨bk, of + k * 4 + 3, none⟩) hbk).trans (hat 3 _ rfl)
      have hbz := HB.out.size
      have hwl := HS.out.lt
      have HX : Hid (Holds (wr.alloc (.cells (setC f) 101)) wr.heap.size 101 (setC f)) := hidden (Holds.new _ _ _)
      have HR2 := hidden (HR.out.alloc (.cells (setC f) 101))
      have HS2 : Hid (Holds (wr.alloc (.cells (setC f) 101)) (w.heap.size + 1) 101 (mixC 0 (anyS (l.take k)) (anyS (l.take (k + 1))))) := hidden (HS.out.alloc (.cells (setC f) 101))
      have HB2 := hidden (HB.out.alloc hbz (.cells (setC f) 101))
      have hcs : Hid (setC f = #[.int .u64 (wd f 0 : Nat), .int .u64 (wd f 1 : Nat), .int .u64 (wd f 2 : Nat), .int .u64 (wd f 3 : Nat)]) := hidden rfl
      rw [hcs.out] at HX HR2 HS2 HB2
      have HXl : Hid (∀ j, j < 4 → (#[.int .u64 (wd f 0 : Nat), .int .u64 (wd f 1 : Nat), .int .u64 (wd f 2 : Nat), .int .u64 (wd f 3 : Nat)] : Array Value)[j]? = some (.int .u64 (wd f j : Nat))) := hidden (fun j hj => by rcases k4 hj with rfl | rfl | rfl | rfl <;> rfl)
      have HWl := hidden (wd_lt f)
      generalize hsl : l.take k = tk at *
      generalize hsl2 : l.take (k + 1) = tk1 at *
      have HSL2 := hidden hsl2
      clear hsl hsl2 hat hz hbk HR HS HB hcs
      replace x0 : wr.cell? ⟨bk, of + k * 4, none⟩ = some (.int .u64 (wd f 0 : Nat)) := x0
      replace x1 : wr.cell? ⟨bk, of + k * 4 + 1, none⟩ = some (.int .u64 (wd f 1 : Nat)) := x1
      replace x2 : wr.cell? ⟨bk, of + k * 4 + 2, none⟩ = some (.int .u64 (wd f 2 : Nat)) := x2
      replace x3 : wr.cell? ⟨bk, of + k * 4 + 3, none⟩ = some (.int .u64 (wd f 3 : Nat)) := x3
      go_wp2
      clear x0 x1 x2 x3
      generalize wr.alloc (.cells #[.int .u64 (wd f 0 : Nat), .int .u64 (wd f 1 : Nat), .int .u64 (wd f 2 : Nat), .int .u64 (wd f 3 : Nat)] 101) = wo at *
      generalize wr.heap.size = q at *
      generalize hfc : (#[.int .u64 (wd f 0 : Nat), .int .u64 (wd f 1 : Nat), .int .u64 (wd f 2 : Nat), .int .u64 (wd f 3 : Nat)] : Array Value) = fc at *
      clear hfc
      go_loopw [6, 13] (fun _ iv wr => ∃ j : Nat, iv = .int .i64 j ∧ j ≤ 4 ∧ Hid (Holds wr w.heap.size 101 #[.int .u64 0, .int .u64 0, .int .u64 0, .int .u64 0]) ∧ Hid (Holds wr (w.heap.size + 1) 101 (mixC j (anyS tk) (anyS tk1))) ∧ Hid (Holds wr q 101 fc) ∧ Hid (Below w.heap.size w wr)) (fun _ iv wr => 4 - (intOf iv).toNat)
      case atStart => exact ⟨0, by go_num, by omega, HR2, HS2, HX, HB2⟩
      case round =>
        clear HR2 HS2 HX HB2
        obtain ⟨j, rfl, hj, HR2, HS2, HX, HB2⟩ := hrel
        by_cases hj4 : j < 4
        · have p1 : (0 : Int) ≤ (j : Int) := by omega
          have p2 : (j : Int) < 4 := by omega
          have x0 := (HS2.out.cell j).trans (mixC_at (anyS tk) (anyS tk1) hj4)
          have z0 := HS2.out.frozen j
          have y0 := (HX.out.cell j).trans (HXl.out j hj4)
          have ho := u64_or_nat (wd (anyS tk) j) (wd f j) (wd_lt _ _) (HWl.out j)
          have hn : wd (anyS tk1) j = wd (anyS tk) j ||| wd f j := by rw [hT.out]; exact wd_orS _ _ _
          rw [← hn] at ho
          have HS3 := hidden ((HS2.out.set j (.int .u64 (wd (anyS tk1) j : Nat))).of_eq (mixC_set (anyS tk) (anyS tk1) hj4))
          generalize wd (anyS tk1) j = nv at *
          generalize wd (anyS tk) j = ov at *
          generalize wd f j = fv at *
          have HR3 := hidden (HR2.out.far (p := ⟨w.heap.size + 1, j, none⟩) (by simp) (.int .u64 (nv : Int)))
          have HX3 := hidden (HX.out.far (p := ⟨w.heap.size + 1, j, none⟩) (by simp; omega) (.int .u64 (nv : Int)))
          have HB3 := hidden (HB2.out.setCell (p := ⟨w.heap.size + 1, j, none⟩) (by simp) (.int .u64 (nv : Int)))
          clear HR2 HS2 HX HB2 hn
          go_wp2_with fail
          go_region
          all_goals
            go_wp2
            go_roundw
            case rel => exact ⟨j + 1, by go_num, by omega, hidden HR3.out.drew, hidden HS3.out.drew, hidden HX3.out.drew, hidden HB3.out.drew⟩
            case measure => simp [intOf] <;> omega
        · obtain rfl : j = 4 := by omega
          have HS3 := hidden HS2.out
          rw [mixC_end] at HS3
          clear HS2
          go_wp2
          go_roundw
          case rel => exact ⟨k + 1, by go_num, by omega, HR2, hidden (by rw [HSL2.out]; exact HS3.out), HB2⟩
          case measure => simp [intOf] <;> omega
    · obtain rfl : k = l.length := by omega
      have q2 : ¬ (l.length : Int) < (l.length : Int) := by omega
      rw [List.take_length, HRes.out] at HS
      obtain ⟨n0, n1, n2, n3, hr⟩ : ∃ n0 n1 n2 n3 : Nat, res = #[.int .u64 (n0 : Int), .int .u64 (n1 : Int), .int .u64 (n2 : Int), .int .u64 (n3 : Int)] := ⟨_, _, _, _, HRes.out.symm⟩
      clear HRes
      subst hr
      obtain ⟨x0, x1, x2, x3⟩ := four HS.out
      obtain ⟨y0, y1, y2, y3⟩ := four HR.out
      obtain ⟨z0, z1, z2, z3⟩ := fourF HR.out
      have HRf := hidden (stored4 HR.out n0 n1 n2 n3)
      have hbf := hidden (below4 (q := w.heap.size) HB.out (Nat.le_refl _) n0 n1 n2 n3)
      clear HS HR HB
      go_wp2
      obtain ⟨r0, r1, r2, r3⟩ := four HRf.out
      refine bodyPost_ret (v := .agg #[.int .u64 (n0 : Int), .int .u64 (n1 : Int), .int .u64 (n2 : Int), .int .u64 (n3 : Int)]) ?_ rfl ⟨rfl, hbf.out⟩
      simp [results, Tryz.results133, go_sem, r0, r1, r2, r3]
end Go.Proofs.YtfmdmeokbbpmlaaGreat
