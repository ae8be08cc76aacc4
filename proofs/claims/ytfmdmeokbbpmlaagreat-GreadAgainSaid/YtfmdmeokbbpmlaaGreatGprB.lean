/-
  gprint: an item as a word.
-/
import Derived.Test.YtfmdmeokbbpmlaaGreatGprA
import Derived.Test.YtfmdmeokbbpmlaaGreatG4
namespace Go.Proofs.YtfmdmeokbbpmlaaGreat
open Go.RowKit Go.Shelf

theorem ba_beq (a b : ByteArray) : (a == b) = true ↔ a = b := by
  obtain ⟨x⟩ := a
  obtain ⟨y⟩ := b
  constructor
  · intro h
    have e : x = y := by simpa using (show (x == y) = true from h)
    rw [e]
  · intro h
    cases h
    show (x == x) = true
    simp
theorem ba_ne {a b : ByteArray} (h : a ≠ b) : (a == b) = false := by
  cases e : a == b with
  | false => rfl
  | true => exact absurd ((ba_beq a b).1 e) h
theorem ba_same (a : ByteArray) : (a == a) = true := (ba_beq a a).2 rfl
theorem ba_size0 {s : ByteArray} (h : s.size = 0) : s = ByteArray.empty := by
  obtain ⟨⟨l⟩⟩ := s
  have : l = [] := List.eq_nil_of_length_eq_zero h
  rw [this]
  rfl
theorem ba_nil (s : ByteArray) : s ++ ByteArray.empty = s := by
  obtain ⟨⟨l⟩⟩ := s
  have h := bytes_app l []
  rw [List.append_nil] at h
  exact h
theorem name_size {g : Gram} (hz : ∀ s ∈ allNames g, s.size ≤ 1000) (x : Item) : (nameOf g x).size ≤ 1000 := by
  unfold nameOf
  split
  · decide
  · split
    · cases h : g.rules[x.n.toNat]? with
      | none => decide
      | some s => exact hz s (List.mem_append_right _ (List.mem_of_getElem? h))
    · cases h : g.toks[x.n.toNat]? with
      | none => decide
      | some t => exact hz t.name (List.mem_append_left _ (List.mem_map_of_mem (List.mem_of_getElem? h)))
theorem show_small {n : Int} (h0 : 0 ≤ n) (h1 : n ≤ 8) : (⟨(showI n).toArray⟩ : ByteArray).size = 1 := by
  rw [bytes_size]
  unfold showI
  rw [if_neg (by omega), digs_lt (by omega)]
  rfl
theorem gapW_size (c : Int) : (gapW c).size ≤ 1 := by unfold gapW; split <;> (try split) <;> decide
theorem gcells {w : World} {q : Nat} {t : TypeId} {a b c d e f g h : Value} (H : Holds w q t #[a, b, c, d, e, f, g, h]) : w.cell? ⟨q, 0, none⟩ = some a ∧ w.cell? ⟨q, 1, none⟩ = some b ∧ w.cell? ⟨q, 2, none⟩ = some c ∧ w.cell? ⟨q, 3, none⟩ = some d ∧ w.cell? ⟨q, 4, none⟩ = some e ∧ w.cell? ⟨q, 5, none⟩ = some f ∧ w.cell? ⟨q, 6, none⟩ = some g ∧ w.cell? ⟨q, 7, none⟩ = some h :=
  ⟨H.cell 0, H.cell 1, H.cell 2, H.cell 3, H.cell 4, H.cell 5, H.cell 6, H.cell 7⟩
end Go.Proofs.YtfmdmeokbbpmlaaGreat
