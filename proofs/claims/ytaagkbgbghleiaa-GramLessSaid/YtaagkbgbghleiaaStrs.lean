/-
  Layer 6: names; lists of texts: where one stands, whether two are the same.
-/
import Derived.Test.YtaagkbgbghleiaaRead
import Derived.Test.YtaagkbgbghleiaaRows
import Derived.Laws.StructEq
import Derived.Laws.RangeAny
namespace Go.Proofs.Ytaagkbgbghleiaa
open Go.RowKit Go.Shelf

noncomputable def eqB {α : Type} (a b : α) : Bool := @decide (a = b) (Classical.propDecidable _)
theorem eqB_iff {α : Type} {a b : α} : eqB a b = true ↔ a = b := by unfold eqB; exact @decide_eq_true_iff _ (Classical.propDecidable _)
theorem eqB_true {α : Type} {a b : α} (h : a = b) : eqB a b = true := eqB_iff.2 h
theorem eqB_false {α : Type} {a b : α} (h : a ≠ b) : eqB a b = false := by rw [Bool.eq_false_iff]; exact fun e => h (eqB_iff.1 e)
theorem eqB_self {α : Type} (a : α) : eqB a a = true := eqB_true rfl
noncomputable def holdsB (p : Prop) : Bool := @decide p (Classical.propDecidable _)
theorem holdsB_iff {p : Prop} : holdsB p = true ↔ p := by unfold holdsB; exact @decide_eq_true_iff _ (Classical.propDecidable _)
theorem holdsB_true {p : Prop} (h : p) : holdsB p = true := holdsB_iff.2 h
theorem holdsB_false {p : Prop} (h : ¬ p) : holdsB p = false := by rw [Bool.eq_false_iff]; exact fun e => h (holdsB_iff.1 e)

theorem toList_inj {a b : ByteArray} (h : a.toList = b.toList) : a = b := by
  rw [ByteArray.toList_eq, ByteArray.toList_eq] at h
  cases a; cases b
  simp only [ByteArray.mk.injEq]
  exact Array.toList_inj.1 h
theorem strs_eql (a b : ByteArray) : (a.toList == b.toList) = eqB a b := by
  rw [Bool.eq_iff_iff, eqB_iff, beq_iff_eq]
  exact ⟨toList_inj, fun h => by rw [h]⟩
theorem list_ext_of {α : Type} {L M : List α} (hl : L.length = M.length) (h : ∀ k, k < L.length → L[k]? = M[k]?) : L = M := by
  apply List.ext_getElem?
  intro k
  by_cases hk : k < L.length
  · exact h k hk
  · rw [List.getElem?_eq_none (by omega), List.getElem?_eq_none (by omega)]

/-! ### Names -/
/-- What a sign may be in a name. -/
def partOf (c : Int) : Int := if 97 ≤ c ∧ c ≤ 122 ∨ 65 ≤ c ∧ c ≤ 90 ∨ c = 95 then 2 else if 48 ≤ c ∧ c ≤ 57 then 1 else 0
def okAt (c : Int) (i : Nat) : Prop := partOf c = 2 ∨ partOf c = 1 ∧ i ≠ 0
def IsName (s : ByteArray) : Prop := 1 ≤ s.size ∧ s.size ≤ 32 ∧ ∀ i (h : i < s.size), okAt ((s[i]'h).toNat : Int) i
noncomputable def nameB (s : ByteArray) : Bool := holdsB (IsName s)
theorem part_cases (c : Int) : (c < 48 ∧ partOf c = 0) ∨ (48 ≤ c ∧ c ≤ 57 ∧ partOf c = 1) ∨ (58 ≤ c ∧ c ≤ 64 ∧ partOf c = 0) ∨ (65 ≤ c ∧ c ≤ 90 ∧ partOf c = 2) ∨ (91 ≤ c ∧ c ≤ 94 ∧ partOf c = 0) ∨ (c = 95 ∧ partOf c = 2) ∨ (c = 96 ∧ partOf c = 0) ∨ (97 ≤ c ∧ c ≤ 122 ∧ partOf c = 2) ∨ (123 ≤ c ∧ partOf c = 0) := by
  unfold partOf
  rcases (show c < 48 ∨ 48 ≤ c by omega) with h | h
  · exact .inl ⟨h, by rw [if_neg (by omega), if_neg (by omega)]⟩
  rcases (show c < 58 ∨ 58 ≤ c by omega) with h2 | h2
  · exact .inr (.inl ⟨h, by omega, by rw [if_neg (by omega), if_pos (by omega)]⟩)
  rcases (show c < 65 ∨ 65 ≤ c by omega) with h3 | h3
  · exact .inr (.inr (.inl ⟨h2, by omega, by rw [if_neg (by omega), if_neg (by omega)]⟩))
  rcases (show c < 91 ∨ 91 ≤ c by omega) with h4 | h4
  · exact .inr (.inr (.inr (.inl ⟨h3, by omega, by rw [if_pos (by omega)]⟩)))
  rcases (show c < 95 ∨ 95 ≤ c by omega) with h5 | h5
  · exact .inr (.inr (.inr (.inr (.inl ⟨h4, by omega, by rw [if_neg (by omega), if_neg (by omega)]⟩))))
  rcases (show c < 96 ∨ 96 ≤ c by omega) with h6 | h6
  · exact .inr (.inr (.inr (.inr (.inr (.inl ⟨by omega, by rw [if_pos (by omega)]⟩)))))
  rcases (show c < 97 ∨ 97 ≤ c by omega) with h7 | h7
  · exact .inr (.inr (.inr (.inr (.inr (.inr (.inl ⟨by omega, by rw [if_neg (by omega), if_neg (by omega)]⟩))))))
  rcases (show c < 123 ∨ 123 ≤ c by omega) with h8 | h8
  · exact .inr (.inr (.inr (.inr (.inr (.inr (.inr (.inl ⟨h7, by omega, by rw [if_pos (by omega)]⟩)))))))
  · exact .inr (.inr (.inr (.inr (.inr (.inr (.inr (.inr ⟨h8, by rw [if_neg (by omega), if_neg (by omega)]⟩)))))))

set_option maxRecDepth 20000 in
theorem word_part (c : Int) (w : World) : Calls Try.prog 64 #[.int .i32 c] w fun r w' => r = .returned (.int .i64 (partOf c)) ∧ w = w' := by
  rcases part_cases c with ⟨h, e⟩ | ⟨h, h', e⟩ | ⟨h, h', e⟩ | ⟨h, h', e⟩ | ⟨h, h', e⟩ | ⟨h, e⟩ | ⟨h, e⟩ | ⟨h, h', e⟩ | ⟨h, e⟩
  all_goals
    have HE := hidden e
    rw [e]
    clear e
    try subst h
    try (have q : (c == 95) = false := by simp; omega)
    go_enter Try.func64, Try.ntmps64
    go_wp2
    go_ret
    exact ⟨rfl, rfl⟩

theorem name_bad {s : ByteArray} {i : Nat} (h : i < s.size) (hb : ¬ okAt ((s[i]'h).toNat : Int) i) : nameB s = false := holdsB_false fun hn => hb (hn.2.2 i h)

set_option maxRecDepth 20000 in
set_option maxHeartbeats 4000000 in
theorem ref_name (s : ByteArray) (w : World) (hs : s.size ≤ maxLen) : Calls Try.prog 25 #[.string s] w fun r w' => r = .returned (.bool (nameB s)) ∧ w = w' := by
  unfold maxLen at hs
  have HB : Hid (∀ (i : Nat) (h : i < s.size), ¬ okAt ((s[i]'h).toNat : Int) i → nameB s = false) := hidden (fun i h hb => name_bad h hb)
  have HG : Hid ((∀ i (h : i < s.size), okAt ((s[i]'h).toNat : Int) i) → nameB s = (decide (1 ≤ (s.size : Int)) && decide ((s.size : Int) ≤ 32))) := hidden (fun h => by
    rw [Bool.eq_iff_iff]
    unfold nameB
    rw [holdsB_iff]
    unfold IsName
    simp only [Bool.and_eq_true, decide_eq_true_eq]
    exact ⟨fun h => ⟨by omega, by omega⟩, fun h' => ⟨by omega, by omega, h⟩⟩)
  generalize nameB s = r at *
  go_enter Try.func25, Try.ntmps25
  go_wp2
  go_loop [3] (fun ii => ∃ k : Nat, k ≤ s.size ∧ ii = .int .i64 k ∧ Hid (∀ i (h : i < s.size), i < k → okAt ((s[i]'h).toNat : Int) i)) (fun ii => s.size - (intOf ii).toNat)
  case atStart => exact ⟨0, by omega, rfl, hidden (fun i h h' => by omega)⟩
  case round =>
    obtain ⟨k, hk, rfl, HO⟩ := hrel
    by_cases hlt : k < s.size
    · have HB2 := hidden (HB.out k hlt)
      have HO2 : Hid (okAt ((s[k]'hlt).toNat : Int) k → ∀ i (h : i < s.size), i < k + 1 → okAt ((s[i]'h).toNat : Int) i) := hidden (fun hk i h h' => by
        by_cases e : i = k
        · subst e; exact hk
        · exact HO.out i h (by omega))
      have hc := (s[k]'hlt).toNat_lt
      have hcc : (0 : Int) ≤ ((s[k]'hlt).toNat : Int) := by omega
      rcases part_cases ((s[k]'hlt).toNat : Int) with ⟨h, e⟩ | ⟨h, h', e⟩ | ⟨h, h', e⟩ | ⟨h, h', e⟩ | ⟨h, h', e⟩ | ⟨h, e⟩ | ⟨h, e⟩ | ⟨h, h', e⟩ | ⟨h, e⟩
      case inr.inl =>
        have q : (((s[k]'hlt).toNat : Int) == 95) = false := by simp; omega
        by_cases h0 : k = 0
        · have HE := hidden (HB2.out (by unfold okAt; rw [e]; omega))
          clear e HB HB2 HO HO2 HG
          subst h0
          go_wp2
          go_ret
          exact ⟨by rw [HE.out]; rfl, rfl⟩
        · have HN := hidden (HO2.out (by unfold okAt; rw [e]; omega))
          have q0 : ((k : Int) == 0) = false := by simp; omega
          clear e HB2 HO2
          go_wp2
          go_round
          case rel => exact ⟨k + 1, by omega, by go_num, HN⟩
          case measure => simp [intOf]; omega
      case inr.inr.inr.inl | inr.inr.inr.inr.inr.inl | inr.inr.inr.inr.inr.inr.inr.inl =>
        all_goals
          have HN := hidden (HO2.out (by unfold okAt; rw [e]; omega))
          have q0 : (∃ b : Bool, ((k : Int) == 0) = b) := ⟨_, rfl⟩
          obtain ⟨b, q0⟩ := q0
          have q5 : decide (((s[k]'hlt).toNat : Int) ≤ 57) = false := by simp; omega
          have q6 : ∃ b : Bool, (((s[k]'hlt).toNat : Int) == 95) = b := ⟨_, rfl⟩
          obtain ⟨b6, q6⟩ := q6
          clear e HB2 HO2
          cases b <;> cases b6
          all_goals
            first
            | (exfalso; simp at q6; omega)
            | (go_wp2
               go_round
               case rel => exact ⟨k + 1, by omega, by go_num, HN⟩
               case measure => simp [intOf]; omega)
      all_goals
        have HE := hidden (HB2.out (by unfold okAt; rw [e]; omega))
        have q : (((s[k]'hlt).toNat : Int) == 95) = false := by simp; omega
        clear e HB HB2 HO HO2 HG
        go_wp2
        go_ret
        exact ⟨by rw [HE.out]; rfl, rfl⟩
    · obtain rfl : k = s.size := by omega
      have HE := hidden (HG.out (fun i h => HO.out i h h))
      by_cases h1 : 1 ≤ s.size
      · by_cases h2 : s.size ≤ 32
        · go_wp2
          go_ret
          exact ⟨by rw [HE.out]; simp; omega, rfl⟩
        · go_wp2
          go_ret
          exact ⟨by rw [HE.out]; simp; omega, rfl⟩
      · go_wp2
        go_ret
        exact ⟨by rw [HE.out]; simp; omega, rfl⟩
end Go.Proofs.Ytaagkbgbghleiaa
