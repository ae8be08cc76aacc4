/-
  Plain laws on lists of bytes: lines of a text and their places. No program in sight.
-/
import Derived.Lib.Bytealg
import Derived.Test.YtmgpfldlngjekaaKit
namespace Go.Proofs.Ytmgpfldlngjekaa
open Go.RowKit


/-- The lines of a text: what stands between its bytes 10. -/
def cutLines : List UInt8 → List (List UInt8)
  | [] => [[]]
  | c :: l => if c == 10 then [] :: cutLines l else match cutLines l with
    | [] => [[c]]
    | x :: r => (c :: x) :: r

theorem cutLines_ne (l : List UInt8) : cutLines l ≠ [] := by
  cases l with
  | nil => simp [cutLines]
  | cons c l => unfold cutLines; split; simp; split <;> simp

/-- Where lines lie, the first one at k. -/
def spansOf (k : Nat) : List (List UInt8) → List (Nat × Nat)
  | [] => []
  | x :: r => (k, k + x.length) :: spansOf (k + x.length + 1) r

theorem cutLines_none (l : List UInt8) (h : Lib.indexByte l 10 = -1) : cutLines l = [l] := by
  induction l with
  | nil => rfl
  | cons c l ih =>
    unfold Lib.indexByte at h
    by_cases hc : c == 10
    · simp [hc] at h
    · simp only [hc] at h
      have hg := Lib.indexByte_ge l 10
      by_cases h1 : Lib.indexByte l 10 = -1
      · unfold cutLines
        simp [hc, ih h1]
      · simp [h1] at h
        omega

theorem cutLines_some (l : List UInt8) (j : Nat) (h : Lib.indexByte l 10 = (j : Int)) :
    j < l.length ∧ cutLines l = l.take j :: cutLines (l.drop (j + 1)) := by
  induction l generalizing j with
  | nil => simp [Lib.indexByte] at h
  | cons c l ih =>
    unfold Lib.indexByte at h
    by_cases hc : c == 10
    · simp [hc] at h
      have : j = 0 := by omega
      subst this
      refine ⟨by simp, ?_⟩
      rw [cutLines]; simp [hc]
    · simp only [hc] at h
      have hg := Lib.indexByte_ge l 10
      by_cases h1 : Lib.indexByte l 10 = -1
      · simp [h1] at h
      · simp [h1] at h
        obtain ⟨j', rfl⟩ : ∃ j', j = j' + 1 := ⟨j - 1, by omega⟩
        obtain ⟨hl, he⟩ := ih j' (by omega)
        refine ⟨by simp; omega, ?_⟩
        rw [cutLines]; simp [hc, he]

theorem spansOf_len (k : Nat) (ls : List (List UInt8)) : (spansOf k ls).length = ls.length := by
  induction ls generalizing k with
  | nil => rfl
  | cons x r ih => simp [spansOf, ih]

theorem cutLines_len (l : List UInt8) : (cutLines l).length ≤ l.length + 1 := by
  induction l with
  | nil => simp [cutLines]
  | cons c l ih =>
    unfold cutLines; split
    · simp; omega
    · split
      · simp
      · rename_i h; rw [h] at ih; simp at ih ⊢; omega

theorem cutLines_len1 (l : List UInt8) : 1 ≤ (cutLines l).length := by
  have := cutLines_ne l
  cases h : cutLines l with
  | nil => exact absurd h this
  | cons x r => simp

theorem cutLines_count (l : List UInt8) : (cutLines l).length = l.count 10 + 1 := by
  induction l with
  | nil => simp [cutLines]
  | cons c l ih =>
    unfold cutLines
    by_cases hc : c = 10
    · simp [hc, ih]
    · have hc' : (c == 10) = false := by simpa using hc
      simp only [hc']
      have := cutLines_ne l
      cases h : cutLines l with
      | nil => exact absurd h this
      | cons x r => rw [h] at ih; simp [List.count_cons, hc'] at ih ⊢; omega
end Go.Proofs.Ytmgpfldlngjekaa
