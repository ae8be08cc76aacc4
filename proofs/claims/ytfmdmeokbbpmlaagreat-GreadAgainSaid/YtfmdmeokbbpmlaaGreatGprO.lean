/-
  law19.knows; the lines of a grammar's text.
-/
import Derived.Test.YtfmdmeokbbpmlaaGreatGprL
import Derived.Test.YtfmdmeokbbpmlaaGreatGprK
import Derived.Test.YtfmdmeokbbpmlaaGreatGprN
import Derived.Test.YtfmdmeokbbpmlaaGreatLineR
namespace Go.Proofs.YtfmdmeokbbpmlaaGreat
open Go.RowKit Go.Shelf

theorem spans_text {s : ByteArray} : ∀ (L : List ByteArray) (pre : List UInt8), bytes s = pre ++ tl L → (∀ l ∈ L, (10 : UInt8) ∉ l.data.toList) → (lineSpans pre.length (tl L)).map (cutTo s) = L := by
  intro L
  induction L with
  | nil => intro pre _ _; rw [tl, lineSpans_nil]; rfl
  | cons l L ih =>
    intro pre h hn
    have hu : upTo 10 (l.data.toList ++ 10 :: tl L) = l.data.toList.length := by
      refine upTo_eq (by simp) (fun i hi x hx => ?_) (.inr (by rw [List.getElem?_append_right (Nat.le_refl _), Nat.sub_self]; rfl))
      rw [List.getElem?_append_left hi] at hx
      intro e
      exact hn l List.mem_cons_self (e ▸ List.mem_of_getElem? hx)
    rw [tl, lineSpans_step (by simp), hu, List.map_cons]
    have e1 : cutTo s (pre.length, pre.length + l.data.toList.length) = l := by
      apply ba_ext
      unfold cutTo
      rw [Lib.extract_data]
      have : s.data.toList = pre ++ (l.data.toList ++ 10 :: tl L) := h
      rw [this, List.drop_left, Nat.add_sub_cancel_left, List.take_left]
    have e2 := ih (pre ++ l.data.toList ++ [10]) (by rw [h, tl]; simp) (fun x hx => hn x (List.mem_cons_of_mem _ hx))
    rw [List.length_append, List.length_append, List.length_singleton] at e2
    rw [e1, show (l.data.toList ++ 10 :: tl L).drop (l.data.toList.length + 1) = tl L by rw [← List.drop_drop, List.drop_left]; rfl, e2]
theorem lines_text {L : List ByteArray} (h : ∀ l ∈ L, (10 : UInt8) ∉ l.data.toList) : linesOf (textB L) = L := by
  unfold linesOf linesAt
  have h1 : bytes (textB L) = tl L := textB_list L
  rw [h1, List.drop_zero]
  exact spans_text L [] h1 h
theorem lines_of {g : Gram} (h : rightB g = true) : linesOf (gramT g) = linesG g := by
  unfold gramT
  rw [if_pos h]
  exact lines_text (lines_free h)
theorem tl_last : ∀ {L : List ByteArray}, L ≠ [] → ∃ pre, tl L = pre ++ [10] := by
  intro L
  induction L with
  | nil => intro h; exact absurd rfl h
  | cons l L ih =>
    intro _
    cases L with
    | nil => exact ⟨l.data.toList, rfl⟩
    | cons m L =>
      obtain ⟨pre, h1⟩ := ih (by simp)
      exact ⟨l.data.toList ++ 10 :: pre, by rw [tl, h1]; simp⟩
theorem text_end {L : List ByteArray} (h : L ≠ []) : ∃ m : Nat, (textB L).size = m + 1 ∧ ∀ hm : m < (textB L).size, (textB L)[m] = 10 := by
  obtain ⟨pre, hp⟩ := tl_last h
  have h1 : bytes (textB L) = pre ++ [10] := (textB_list L).trans hp
  refine ⟨pre.length, ?_, fun hm => ?_⟩
  · rw [← bytes_len, h1, List.length_append]; rfl
  · have h2 := bytes_at hm
    rw [h1, List.getElem?_append_right (Nat.le_refl _), Nat.sub_self] at h2
    exact (Option.some.inj h2).symm
theorem lines_len (g : Gram) : (linesG g).length = 6 + g.toks.length + g.prods.length := by
  rw [lines_flat]
  simp only [List.length_cons, List.length_append, List.length_map]
  omega
theorem lines_tok {g : Gram} {i : Nat} (h : i < g.toks.length) : (linesG g)[4 + i]? = some (tokT g.toks[i]) := by
  rw [lines_flat, show 4 + i = i + 1 + 1 + 1 + 1 by omega]
  simp only [List.getElem?_cons_succ]
  rw [List.getElem?_append_left (by rw [List.length_map]; exact h), List.getElem?_map, List.getElem?_eq_getElem h]
  rfl

theorem k19_prod : showProd g1 ⟨0, []⟩ = ⟨#[114, 117, 108, 101, 32, 115]⟩ := by
  unfold showProd
  rw [g1_right, if_pos rfl]
  have e : prodT g1 ⟨0, []⟩ = ⟨#[114, 117, 108, 101, 32, 115]⟩ := by kernel_rfl
  exact e
theorem k19_item : showItem g1 ⟨true, 0, 1, 2⟩ = ⟨#[126, 115, 43, 50]⟩ := by
  have e : showI 2 = [50] := by
    unfold showI
    rw [if_neg (by decide), show (2 : Int).toNat = 2 from rfl, digs_lt (by decide)]
    rfl
  unfold showItem
  rw [g1_right, if_pos rfl]
  have hk : itemOk g1 ⟨true, 0, 1, 2⟩ = true := by kernel_rfl
  unfold itemT inW
  dsimp only
  rw [if_pos hk, if_pos (show (0 : Int) < 2 by decide), e]
  rfl
theorem g1_named : Named g1 := by intro s h; simp [allNames, tokNames, g1] at h; subst h; decide

end Go.Proofs.YtfmdmeokbbpmlaaGreat
