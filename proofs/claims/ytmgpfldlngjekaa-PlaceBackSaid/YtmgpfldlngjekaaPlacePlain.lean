/-
  Plain laws on places and lines: the line and column of a place, by the lines' stretches and by counting; both ways lead back.
-/
import Derived.Test.YtmgpfldlngjekaaPlaceAt
namespace Go.Proofs.Ytmgpfldlngjekaa

theorem spansOf_ge (ls : List (List UInt8)) : ∀ (k i : Nat) (x : Nat × Nat), (spansOf k ls)[i]? = some x → k ≤ x.1 ∧ x.1 ≤ x.2 := by
  induction ls with
  | nil => intro k i x h; simp [spansOf] at h
  | cons y r ih =>
    intro k i x h
    cases i with
    | zero => simp [spansOf] at h; subst h; simp
    | succ i =>
      simp [spansOf] at h
      have := ih _ i x h
      omega

/-- A place in the stretch number i is found there. -/
theorem atFrom_of (ls : List (List UInt8)) : ∀ (k n i : Nat) (x : Nat × Nat) (p : Int), (spansOf k ls)[i]? = some x → (x.1 : Int) ≤ p → p ≤ x.2 → atFrom n p (spansOf k ls) = some (((n + i + 1 : Nat) : Int), p - x.1 + 1) := by
  induction ls with
  | nil => intro k n i x p h; simp [spansOf] at h
  | cons y r ih =>
    intro k n i x p h h1 h2
    cases i with
    | zero => simp [spansOf] at h; subst h; simp only [spansOf, atFrom]; rw [if_pos ⟨h1, h2⟩]
    | succ i =>
      simp [spansOf] at h
      have hg := spansOf_ge r _ i x h
      simp only [spansOf, atFrom]
      rw [if_neg (by simp; omega), ih _ (n + 1) i x p h h1 h2]
      simp; omega

theorem atFrom_inv (ls : List (List UInt8)) : ∀ (k n : Nat) (p L C : Int), atFrom n p (spansOf k ls) = some (L, C) → ∃ (i : Nat) (x : Nat × Nat), (spansOf k ls)[i]? = some x ∧ L = n + i + 1 ∧ C = p - x.1 + 1 ∧ (x.1 : Int) ≤ p ∧ p ≤ x.2 := by
  induction ls with
  | nil => intro k n p L C h; simp [spansOf, atFrom] at h
  | cons y r ih =>
    intro k n p L C h
    simp only [spansOf, atFrom] at h
    split at h
    · rename_i hx
      simp at h
      exact ⟨0, (k, k + y.length), by simp [spansOf], by omega, by simp; omega, hx.1, hx.2⟩
    · obtain ⟨i, x, h1, h2, h3, h4, h5⟩ := ih _ _ p L C h
      exact ⟨i + 1, x, by simpa [spansOf] using h1, by push_cast at h2 ⊢; omega, h3, h4, h5⟩

/-- The stretch number n, from 1 on. -/
def spanNo (l : List (Nat × Nat)) (n : Int) : Option (Nat × Nat) := if 1 ≤ n then l[(n - 1).toNat]? else none
/-- The place of a line and column. -/
def placeNo (l : List (Nat × Nat)) (L C : Int) : Option Int :=
  match spanNo l L with
  | some x => if 1 ≤ C ∧ C ≤ x.2 - x.1 + 1 then some (x.1 + C - 1) else none
  | none => none

theorem placeNo_iff (ls : List (List UInt8)) (L C p : Int) : placeNo (spansOf 0 ls) L C = some p ↔ atFrom 0 p (spansOf 0 ls) = some (L, C) := by
  constructor
  · intro h
    unfold placeNo at h
    split at h
    · rename_i x hx
      unfold spanNo at hx
      split at hx
      · split at h
        · simp at h
          have hg := spansOf_ge ls 0 _ x hx
          rw [atFrom_of ls 0 0 _ x p hx (by omega) (by omega)]
          simp; omega
        · simp at h
      · simp at hx
    · simp at h
  · intro h
    obtain ⟨i, x, h1, h2, h3, h4, h5⟩ := atFrom_inv ls 0 0 p L C h
    unfold placeNo spanNo
    rw [if_pos (by omega), show (L - 1).toNat = i by omega, h1]
    simp only
    rw [if_pos (by omega)]
    simp; omega

/-- How many bytes stand between the last byte 10 ahead of a place and it. -/
def colN (l : List UInt8) (p : Nat) : Nat := ((l.take p).reverse.takeWhile (· != 10)).length

theorem colN_zero (l : List UInt8) : colN l 0 = 0 := rfl
theorem takeWhile_snoc (m : List UInt8) (c : UInt8) : (m ++ [c]).takeWhile (· != 10) = if (10 : UInt8) ∈ m then m.takeWhile (· != 10) else (if c = 10 then m else m ++ [c]) := by
  induction m with
  | nil => by_cases h : c = 10 <;> simp [h]
  | cons d m ih =>
    by_cases hd : d = 10
    · subst hd; simp
    · have hd' : (10 : UInt8) ≠ d := fun e => hd e.symm
      have hb : (d != 10) = true := by simpa using hd
      rw [List.cons_append, List.takeWhile_cons, List.takeWhile_cons, if_pos hb, if_pos hb, ih]
      by_cases hm : (10 : UInt8) ∈ m
      · rw [if_pos hm, if_pos (by simp [hm])]
      · rw [if_neg hm, if_neg (show (10 : UInt8) ∉ d :: m by simp [hm, hd'])]
        by_cases hc : c = 10 <;> simp [hc]
theorem takeWhile_none (m : List UInt8) (h : (10 : UInt8) ∉ m) : m.takeWhile (· != 10) = m := by
  induction m with
  | nil => rfl
  | cons d m ih =>
    rw [List.mem_cons, not_or] at h
    rw [List.takeWhile_cons, if_pos (bne_iff_ne.2 (fun e => h.1 e.symm)), ih h.2]
theorem colN_cons (c : UInt8) (l : List UInt8) (q : Nat) : colN (c :: l) (q + 1) = if (10 : UInt8) ∈ l.take q then colN l q else (if c = 10 then (l.take q).length else (l.take q).length + 1) := by
  unfold colN
  rw [List.take_succ_cons, List.reverse_cons, takeWhile_snoc]
  simp only [List.mem_reverse]
  split
  · rfl
  · split <;> simp
theorem colN_none (l : List UInt8) (q : Nat) (h : (10 : UInt8) ∉ l.take q) : colN l q = (l.take q).length := by
  unfold colN
  rw [takeWhile_none _ (by simpa using h), List.length_reverse]

theorem spansOf_shift (x : List UInt8) (r : List (List UInt8)) (k : Nat) : spansOf k (x :: r) = (k, k + x.length) :: spansOf (k + x.length + 1) r := rfl

theorem first_line (l : List UInt8) : ∀ (x : List UInt8) (r : List (List UInt8)), cutLines l = x :: r → ∀ q, q ≤ x.length → (10 : UInt8) ∉ l.take q := by
  induction l with
  | nil => intro x r h q hq; simp
  | cons c l ih =>
    intro x r h q hq
    cases q with
    | zero => simp
    | succ q =>
      unfold cutLines at h
      split at h
      · obtain ⟨rfl, _⟩ := List.cons.inj h; simp at hq
      · rename_i hc
        have hc' : (10 : UInt8) ≠ c := fun e => hc (by rw [← e]; rfl)
        split at h
        · rename_i he; exact absurd he (cutLines_ne l)
        · rename_i y s he
          simp at h; obtain ⟨rfl, _⟩ := h
          have := ih y s he q (by simpa using hq)
          simp [this, hc']
theorem past_first (l : List UInt8) : ∀ (x : List UInt8) (r : List (List UInt8)), cutLines l = x :: r → ∀ q, x.length < q → q ≤ l.length → (10 : UInt8) ∈ l.take q := by
  induction l with
  | nil => intro x r h q hq hl; simp at hl; omega
  | cons c l ih =>
    intro x r h q hq hl
    cases q with
    | zero => omega
    | succ q =>
      unfold cutLines at h
      split at h
      · rename_i hc; simp at hc; simp [hc]
      · split at h
        · rename_i he; exact absurd he (cutLines_ne l)
        · rename_i y s he
          simp at h; obtain ⟨rfl, _⟩ := h
          have := ih y s he q (by simpa using hq) (by simpa using hl)
          simp [this]

/-- By the lines' stretches a place has the line and column that counting gives. -/
theorem at_spot (l : List UInt8) : ∀ (k n p : Nat), p ≤ l.length → atFrom n ((k + p : Nat) : Int) (spansOf k (cutLines l)) = some (((n + (l.take p).count 10 + 1 : Nat) : Int), ((colN l p + 1 : Nat) : Int)) := by
  induction l with
  | nil => intro k n p hp; simp at hp; subst hp; simp [cutLines, spansOf, atFrom, colN_zero]
  | cons c l ih =>
    intro k n p hp
    cases p with
    | zero =>
      have : ∃ x r, cutLines (c :: l) = x :: r := by
        cases h : cutLines (c :: l) with
        | nil => exact absurd h (cutLines_ne _)
        | cons x r => exact ⟨x, r, rfl⟩
      obtain ⟨x, r, h⟩ := this
      rw [h, spansOf_shift, atFrom, if_pos (by simp; omega)]
      simp [colN_zero]
    | succ q =>
      have hq : q ≤ l.length := by simpa using hp
      by_cases hc : c = 10
      · subst hc
        have e : cutLines (10 :: l) = [] :: cutLines l := by simp [cutLines]
        rw [e, spansOf_shift, atFrom, if_neg (by simp; omega), show ((k + (q + 1) : Nat) : Int) = (((k + ([] : List UInt8).length + 1) + q : Nat) : Int) by simp; omega, ih _ _ q hq, colN_cons]
        have hcol : (if (10 : UInt8) ∈ l.take q then colN l q else (if (10 : UInt8) = 10 then (l.take q).length else (l.take q).length + 1)) = colN l q := by
          split
          · rfl
          · rename_i hm; simp [colN_none l q hm]
        rw [hcol, List.take_succ_cons, List.count_cons]
        simp; omega
      · obtain ⟨x, r, h⟩ : ∃ x r, cutLines l = x :: r := by
          cases h : cutLines l with
          | nil => exact absurd h (cutLines_ne _)
          | cons x r => exact ⟨x, r, rfl⟩
        have e : cutLines (c :: l) = (c :: x) :: r := by
          have hc' : (c == 10) = false := by simpa using hc
          simp [cutLines, hc', h]
        have hi := ih (k + 1) n q hq
        rw [h, spansOf_shift, atFrom] at hi
        have hcnt : ((c :: l).take (q + 1)).count 10 = (l.take q).count 10 := by
          rw [List.take_succ_cons, List.count_cons]; simp [hc]
        rw [e, spansOf_shift, atFrom, hcnt, colN_cons, if_neg hc]
        by_cases hx : q ≤ x.length
        · have hm := first_line l x r h q hx
          have hz : (l.take q).count 10 = 0 := List.count_eq_zero.2 hm
          rw [if_pos (by simp; omega), if_neg hm, hz]
          simp; omega
        · have hm := past_first l x r h q (by omega) hq
          rw [if_neg (by simp; omega)] at hi
          rw [if_neg (by simp; omega), if_pos hm, ← hi]
          congr 1
          · simp; omega
          · congr 1; simp; omega

theorem spansOf_le (ls : List (List UInt8)) (n : Nat) : ∀ (k i : Nat) (x : Nat × Nat), (spansOf k ls)[i]? = some x → k + (ls.map List.length).sum + ls.length ≤ n + 1 → x.2 ≤ n := by
  induction ls with
  | nil => intro k i x h; simp [spansOf] at h
  | cons y r ih =>
    intro k i x h hn
    simp at hn
    cases i with
    | zero => simp [spansOf] at h; subst h; simp; omega
    | succ i => simp [spansOf] at h; exact ih _ i x h (by omega)
theorem cutLines_sum (l : List UInt8) : ((cutLines l).map List.length).sum + (cutLines l).length = l.length + 1 := by
  induction l with
  | nil => simp [cutLines]
  | cons c l ih =>
    unfold cutLines
    split
    · simp; omega
    · split
      · rename_i h; exact absurd h (cutLines_ne l)
      · rename_i x r h; rw [h] at ih; simp at ih ⊢; omega
theorem span_end (s : ByteArray) (i : Nat) (x : Nat × Nat) (h : (lineSpans s)[i]? = some x) : x.2 ≤ s.size :=
  spansOf_le _ s.size 0 i x h (by rw [Nat.zero_add, cutLines_sum, Lib.size_eq]; exact Nat.le_refl _)
end Go.Proofs.Ytmgpfldlngjekaa
