/-
  What is read is right; told, and read again, it is the same. Plain.
-/
import Derived.Test.YtfmdmeokbbpmlaaGreatGrdV
namespace Go.Proofs.YtfmdmeokbbpmlaaGreat
open Go.RowKit Go.Shelf

theorem stepG_inv {x y : St} {l : ByteArray} {m t : Nat} (hI : InvG m t x) (h : stepG x l = .inr y) : InvG (m + 1) (t + (l.size + 1)) y := by
  have hw := words_len l
  unfold stepG at h
  cases hc : wordsOf l with
  | nil => rw [hc] at h; cases h; exact hI.mono (Nat.le_succ m) (Nat.le_add_right _ _)
  | cons w0 r =>
    rw [hc] at h hw
    dsimp only at h
    rw [List.length_cons] at hw
    split at h
    · cases h; exact hI.mono (Nat.le_succ m) (Nat.le_add_right _ _)
    · exact (line_inv hI h).mono (Nat.le_refl _) (by omega)
theorem linesR_inv : ∀ {L : List ByteArray} {i : Nat} {x y : St} {m t : Nat}, InvG m t x → linesR i x L = .inr y → InvG (m + L.length) (t + tot L) y := by
  intro L
  induction L with
  | nil => intro i x y m t hI h; rw [linesR] at h; cases h; exact hI
  | cons l L ih =>
    intro i x y m t hI h
    rw [linesR] at h
    cases hs : stepG x l with
    | inl e => rw [hs] at h; cases h
    | inr z =>
      rw [hs] at h
      have := ih (stepG_inv hI hs) h
      refine this.mono (by rw [List.length_cons]; omega) ?_
      unfold tot
      rw [List.map_cons, List.sum_cons]
      omega
theorem linesR_err : ∀ {L : List ByteArray} {i : Nat} {x : St} {n : Nat} {e : Int}, linesR i x L = .inl (n, e) → n ≤ i + L.length ∧ e ≠ 0 := by
  intro L
  induction L with
  | nil => intro i x n e h; rw [linesR] at h; cases h
  | cons l L ih =>
    intro i x n e h
    rw [linesR] at h
    cases hs : stepG x l with
    | inl e2 =>
      rw [hs] at h
      cases h
      refine ⟨by rw [List.length_cons]; omega, ?_⟩
      unfold stepG at hs
      split at hs
      · cases hs
      · split at hs
        · cases hs
        · exact line_err hs
    | inr z =>
      rw [hs] at h
      have := ih h
      rw [List.length_cons]
      exact ⟨by omega, this.2⟩
/-- What is known of what is read. -/
theorem read_is {s : ByteArray} {g : Gram} {n : Nat} {e : Int} (hs : s.size ≤ 3000) (h : readG s = (g, n, e)) :
    n ≤ 3001 ∧ (e ≠ 0 → g = g0) ∧ (e = 0 → rightB g = true ∧ (∀ t ∈ g.toks, ∀ x ∈ t.rex, Wordy x) ∧ Named g) := by
  unfold readG at h
  rw [if_neg (by omega)] at h
  cases hl : linesR 0 ⟨g0, []⟩ (linesOf s) with
  | inl p =>
    obtain ⟨n2, e2⟩ := p
    rw [hl] at h
    cases h
    have h1 := linesR_err hl
    have h2 := lines_le s
    exact ⟨by omega, fun _ => rfl, fun h0 => absurd h0 h1.2⟩
  | inr x =>
    rw [hl] at h
    dsimp only at h
    have hI := linesR_inv InvG.start hl
    unfold endG at h
    split at h
    · cases h; exact ⟨by omega, fun _ => rfl, fun h0 => by cases h0⟩
    split at h
    · rename_i hk
      cases h; exact ⟨by omega, fun _ => rfl, fun h0 => absurd h0 hk⟩
    · rename_i hk
      cases h
      refine ⟨by omega, fun h0 => absurd rfl h0, fun _ => ⟨?_, hI.wd, hI.named⟩⟩
      unfold rightB
      exact decide_eq_true (Classical.not_not.1 hk)
theorem tok_le_text {g : Gram} (h : rightB g = true) {t : Token} (ht : t ∈ g.toks) : (tokT t).size ≤ (gramT g).size := by
  unfold gramT
  rw [if_pos h, ← data_len (textB (linesG g)), textB_list, tl_len]
  have : tokT t ∈ linesG g := by
    unfold linesG
    exact List.mem_append_left _ (List.mem_append_left _ (List.mem_append_right _ (List.mem_map_of_mem ht)))
  have := tot_mem this
  omega
theorem show_back {g : Gram} (h : rightB g = true) (hw : ∀ t ∈ g.toks, ∀ x ∈ t.rex, Wordy x) (hs : ¬ 4000 < (gramT g).size) : readG (gramT g) = (g, 0, 0) := by
  have := gram_back h hw (fun t ht => by
    have h1 := tok_le_text h ht
    have h2 : (showR t.rex).size ≤ (tokT t).size := by
      unfold tokT
      rw [if_pos (right_tok (right_is h) ht), ByteArray.size_append]
      exact Nat.le_add_left _ _
    omega) (lines_of h)
  rw [this, if_neg (by omega)]
/-! ### The text, step by step -/
theorem more_note (A : List ByteArray) (l : ByteArray) (h : isNote l = true) : textB A ++ (⟨#[35, 10, 32, 32, 10]⟩ : ByteArray) ++ l ++ (⟨#[10]⟩ : ByteArray) = textB (A ++ threeL l) := by
  have e : threeL l = [hashL, twoB, l] := by unfold threeL bodyL; rw [h]; rfl
  rw [e, show A ++ [hashL, twoB, l] = ((A ++ [hashL]) ++ [twoB]) ++ [l] by simp, textB_snoc, textB_snoc, textB_snoc]
  apply ba_ext
  simp only [ba_list, List.append_assoc]
  rfl
theorem more_line (A : List ByteArray) (l : ByteArray) (h : isNote l = false) : textB A ++ (⟨#[35, 32, 114, 101, 109, 97, 114, 107, 10, 32, 32, 10]⟩ : ByteArray) ++ wideB (wordsOf l) ++ (⟨#[32, 32, 10]⟩ : ByteArray) = textB (A ++ threeL l) := by
  have e : threeL l = [remL, twoB, wideB (wordsOf l) ++ twoB] := by unfold threeL bodyL; rw [h]; rfl
  rw [e, show A ++ [remL, twoB, wideB (wordsOf l) ++ twoB] = ((A ++ [remL]) ++ [twoB]) ++ [wideB (wordsOf l) ++ twoB] by simp, textB_snoc, textB_snoc, textB_snoc]
  apply ba_ext
  simp only [ba_list, List.append_assoc]
  rfl
theorem note_of {l : ByteArray} (h : 0 < l.size) : isNote l = decide (l[0]'h = 35) := by
  unfold isNote
  have := bytes_at h
  have e : l.data.toList.head? = some (l[0]'h) := by rw [← this]; exact List.head?_eq_getElem?
  rw [e, Bool.eq_iff_iff, decide_eq_true_iff, decide_eq_true_iff]
  exact ⟨fun k => Option.some.inj k, fun k => by rw [k]⟩
theorem note_empty {l : ByteArray} (h : ¬ 0 < l.size) : isNote l = false := by
  unfold isNote
  have : l.data.toList = [] := List.eq_nil_of_length_eq_zero (by have := data_len l; omega)
  rw [this]
  rfl
end Go.Proofs.YtfmdmeokbbpmlaaGreat
