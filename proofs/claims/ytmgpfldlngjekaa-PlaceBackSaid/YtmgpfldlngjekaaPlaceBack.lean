/-
  PlaceBack: for every text the law returns true.
-/
import Derived.Test.YtmgpfldlngjekaaPlaceLines
namespace Go.Proofs.Ytmgpfldlngjekaa
open Go.RowKit Go.Shelf

/-- Lines, put behind one another with a byte 10 between. -/
def joinN : List (List UInt8) → List UInt8
  | [] => []
  | [x] => x
  | x :: y :: r => x ++ 10 :: joinN (y :: r)

theorem joinN_cut (l : List UInt8) : joinN (cutLines l) = l := by
  induction l with
  | nil => rfl
  | cons c l ih =>
    obtain ⟨y, r, hy⟩ : ∃ x r, cutLines l = x :: r := by
      cases h : cutLines l with
      | nil => exact absurd h (cutLines_ne _)
      | cons x r => exact ⟨x, r, rfl⟩
    unfold cutLines
    rw [hy] at ih ⊢
    by_cases hc : c = 10
    · subst hc
      simp [joinN, ih]
    · have hc' : (c == 10) = false := by simpa using hc
      simp only [hc']
      cases r with
      | nil => simp [joinN] at ih ⊢; exact ih
      | cons z r => simp [joinN] at ih ⊢; exact ih

theorem span_text (ls : List (List UInt8)) : ∀ (k i : Nat) (x : Nat × Nat), (spansOf k ls)[i]? = some x → ls[i]? = some (((joinN ls).drop (x.1 - k)).take (x.2 - x.1)) := by
  induction ls with
  | nil => intro k i x h; simp [spansOf] at h
  | cons y r ih =>
    intro k i x h
    cases i with
    | zero =>
      simp [spansOf] at h; subst h
      cases r with
      | nil => simp [joinN]
      | cons z r => simp [joinN]
    | succ i =>
      simp [spansOf] at h
      have hg := spansOf_ge r _ i x h
      cases r with
      | nil => simp [spansOf] at h
      | cons z r =>
        rw [List.getElem?_cons_succ, ih _ i x h, joinN]
        rw [show x.1 - k = (y ++ [10]).length + (x.1 - (k + y.length + 1)) by simp; omega, show y ++ 10 :: joinN (z :: r) = (y ++ [10]) ++ joinN (z :: r) by simp, List.drop_append]
        rw [List.drop_of_length_le (l := y ++ [10]) (by omega), List.nil_append]
        congr 3
        omega

theorem joinN_snoc (ls : List (List UInt8)) (x : List UInt8) : joinN (ls ++ [x]) = if ls = [] then x else joinN ls ++ 10 :: x := by
  induction ls with
  | nil => simp [joinN]
  | cons y r ih =>
    cases r with
    | nil => simp [joinN]
    | cons z r =>
      rw [List.cons_append, List.cons_append, joinN, ← List.cons_append, ih]
      simp [joinN]

/-- What has been put together of the first i lines. -/
def joined (s : ByteArray) (i : Nat) : List UInt8 := joinN ((cutLines s.data.toList).take i)
theorem joined_all (s : ByteArray) : joined s (nls s.data.toList + 1) = s.data.toList := by
  have h : (cutLines s.data.toList).length = nls s.data.toList + 1 := cutLines_count _
  unfold joined
  rw [← h, List.take_length, joinN_cut]
theorem joined_succ (s : ByteArray) (i : Nat) (hi : i < nls s.data.toList + 1) : ∃ f t : Nat, spanNo (lineSpans s) ((i + 1 : Nat) : Int) = some (f, t) ∧ f ≤ t ∧ t ≤ s.size ∧
    joined s (i + 1) = if i = 0 then (s.extract f t).data.toList else joined s i ++ 10 :: (s.extract f t).data.toList := by
  have hl : i < (lineSpans s).length := by rw [spans_count]; exact hi
  have hx : (lineSpans s)[i]? = some (lineSpans s)[i] := List.getElem?_eq_getElem hl
  generalize (lineSpans s)[i] = x at *
  obtain ⟨f, t⟩ := x
  have h1 := span_text _ 0 i _ hx
  have h2 := spansOf_ge _ 0 i _ hx
  have h3 := span_end s i _ hx
  dsimp only at h2 h3
  refine ⟨f, t, by unfold spanNo; rw [if_pos (by omega), show (((i + 1 : Nat) : Int) - 1).toNat = i by omega, hx], h2.2, h3, ?_⟩
  have hlc : i < (cutLines s.data.toList).length := by
    have : (cutLines s.data.toList).length = nls s.data.toList + 1 := cutLines_count _
    omega
  have e : (s.extract f t).data.toList = (cutLines s.data.toList)[i] := by
    rw [Lib.extract_data]
    rw [List.getElem?_eq_getElem hlc, joinN_cut] at h1
    exact (Option.some.inj h1).symm
  unfold joined
  rw [List.take_succ_eq_append_getElem hlc, joinN_snoc, e]
  by_cases h0 : i = 0
  · subst h0; simp
  · rw [if_neg (by intro hh; rw [List.take_eq_nil_iff] at hh; rcases hh with hh | hh; exact h0 hh; exact cutLines_ne _ hh), if_neg h0]
theorem joined_len (s : ByteArray) (i : Nat) (hi : i ≤ nls s.data.toList + 1) : (joined s i).length ≤ s.size := by
  have step : ∀ k, ∀ i, i + k = nls s.data.toList + 1 → (joined s i).length ≤ s.size := by
    intro k
    induction k with
    | zero => intro i h; rw [show i = nls s.data.toList + 1 by omega, joined_all, Lib.size_eq]; exact Nat.le_refl _
    | succ k ih =>
      intro i h
      have := ih (i + 1) (by omega)
      obtain ⟨f, t, _, _, _, e⟩ := joined_succ s i (by omega)
      rw [e] at this
      by_cases h0 : i = 0
      · subst h0; unfold joined; simp [joinN]
      · rw [if_neg h0] at this; simp at this; omega
  exact step (nls s.data.toList + 1 - i) i (by omega)

/-- The line and column of a place: they lead back; the line is no less than an earlier place's, and not too great. -/
theorem spot_of (s : ByteArray) (p : Nat) (hp : p ≤ s.size) : ∃ L C : Nat, atFrom 0 p (lineSpans s) = some ((L : Int), (C : Int)) ∧ placeNo (lineSpans s) L C = some (p : Int) ∧ L = nls (s.data.toList.take p) + 1 := by
  have h := refAt_eq s p
  unfold refAt at h
  rw [if_pos (by omega), Int.toNat_natCast] at h
  exact ⟨_, _, h.symm, placeNo_some h.symm, rfl⟩
theorem nls_mono (l : List UInt8) (p q : Nat) (h : p ≤ q) : nls (l.take p) ≤ nls (l.take q) := by
  unfold nls
  have : l.take p = (l.take q).take p := by rw [List.take_take, Nat.min_eq_left h]
  rw [this]
  exact (List.take_sublist _ _).count_le _
theorem nls_top (l : List UInt8) (p : Nat) : nls (l.take p) ≤ nls l := (List.take_sublist _ _).count_le _
end Go.Proofs.Ytmgpfldlngjekaa
