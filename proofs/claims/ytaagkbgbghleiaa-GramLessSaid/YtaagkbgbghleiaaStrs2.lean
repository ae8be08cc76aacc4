/-
  Layer 6: word.Name; where texts stand among others.
-/
import Derived.Test.YtaagkbgbghleiaaStrs
namespace Go.Proofs.Ytaagkbgbghleiaa
open Go.RowKit Go.Shelf

set_option maxRecDepth 20000 in
set_option maxHeartbeats 4000000 in
theorem word_name (s : ByteArray) (w : World) (hs : s.size ≤ maxLen) : Calls Try.prog 24 #[.string s] w fun r w' => r = .returned (.bool (nameB s)) ∧ Below w.heap.size w w' := by
  unfold maxLen at hs
  have HB : Hid (∀ (i : Nat) (h : i < s.size), ¬ okAt ((s[i]'h).toNat : Int) i → nameB s = false) := hidden (fun i h hb => name_bad h hb)
  have HG : Hid ((∀ i (h : i < s.size), okAt ((s[i]'h).toNat : Int) i) → nameB s = (decide (1 ≤ s.size) && decide ((s.size : Int) ≤ 32))) := hidden (fun h => by
    rw [Bool.eq_iff_iff]
    unfold nameB
    rw [holdsB_iff]
    unfold IsName
    simp only [Bool.and_eq_true, decide_eq_true_eq]
    exact ⟨fun h => ⟨h.1, by omega⟩, fun h' => ⟨h'.1, by omega, h⟩⟩)
  generalize nameB s = r at *
  have hbi : ∀ pos, Below w.heap.size w (w.iter s pos) := fun pos => (Below.refl _ _).alloc (Nat.le_refl _) _
  have HBI := hidden hbi
  clear hbi
  go_enter Try.func24, Try.ntmps24
  go_wp2
  go_loopw [3] (fun _ wr => ∃ k : Nat, k ≤ s.size ∧ wr = w.iter s k ∧ Hid (∀ i (h : i < s.size), i < k → okAt ((s[i]'h).toNat : Int) i)) (fun _ wr => s.size - wr.iterPos w.heap.size)
  case atStart => exact ⟨0, by omega, rfl, hidden (fun i h h' => by omega)⟩
  case round =>
    obtain ⟨k, hk, rfl, HO⟩ := hrel
    by_cases hlt : k < s.size
    · have HB2 := hidden (HB.out k hlt)
      have HO2 : Hid (okAt ((s[k]'hlt).toNat : Int) k → ∀ i (h : i < s.size), i < k + 1 → okAt ((s[i]'h).toNat : Int) i) := hidden (fun hk i h h' => by
        by_cases e : i = k
        · subst e; exact hk
        · exact HO.out i h (by omega))
      have hc := (s[k]'hlt).toNat_lt
      by_cases ha : (s[k]'hlt).toNat < 128
      · have hnx := fun ty => run_next_ascii (P := Try.prog) w s k ty hlt ha
        have HP := hidden (fun w' => word_part ((s[k]'hlt).toNat : Int) w')
        have hp : Hid (okAt ((s[k]'hlt).toNat : Int) k ↔ partOf ((s[k]'hlt).toNat : Int) = 2 ∨ partOf ((s[k]'hlt).toNat : Int) = 1 ∧ k ≠ 0) := hidden Iff.rfl
        have hpc : partOf ((s[k]'hlt).toNat : Int) = 0 ∨ partOf ((s[k]'hlt).toNat : Int) = 1 ∨ partOf ((s[k]'hlt).toNat : Int) = 2 := by unfold partOf; split <;> (try split) <;> simp
        generalize partOf ((s[k]'hlt).toNat : Int) = p at *
        go_wp2_with fail
        refine (HP.out _).mono ?_
        rintro e w' ⟨rfl, rfl⟩
        clear HP hnx
        rcases hpc with rfl | rfl | rfl
        · have HE := hidden (HB2.out (by rw [hp.out]; omega))
          go_wp2
          go_ret
          exact ⟨by rw [HE.out]; rfl, HBI.out _⟩
        · by_cases h0 : k = 0
          · have HE := hidden (HB2.out (by rw [hp.out]; omega))
            have q0 : ((k : Int) == 0) = true := by simp; omega
            go_wp2
            go_ret
            exact ⟨by rw [HE.out]; rfl, HBI.out _⟩
          · have HN := hidden (HO2.out (by rw [hp.out]; omega))
            have q0 : ((k : Int) == 0) = false := by simp; omega
            go_wp2
            go_roundw
            case rel => exact ⟨k + 1, by omega, rfl, HN⟩
            case measure => simp; omega
        · have HN := hidden (HO2.out (by rw [hp.out]; omega))
          go_wp2
          go_roundw
          case rel => exact ⟨k + 1, by omega, rfl, HN⟩
          case measure => simp; omega
      · have hnx : ∀ ty, (Instr.next (.pointer (some ⟨w.heap.size, 0, none⟩)) true ty).run Try.prog (w.iter s k) = _ := fun ty => run_next_any w s k ty hlt
        have hd := (decode_high s k hlt (by omega)).1
        have HE := hidden (HB2.out (by
          unfold okAt
          rcases part_cases ((s[k]'hlt).toNat : Int) with ⟨h, e⟩ | ⟨h, h', e⟩ | ⟨h, h', e⟩ | ⟨h, h', e⟩ | ⟨h, h', e⟩ | ⟨h, e⟩ | ⟨h, e⟩ | ⟨h, h', e⟩ | ⟨h, e⟩ <;> omega))
        have HP := hidden (fun w' => word_part ((Utf8.decode s k).1 : Int) w')
        have hpz : partOf ((Utf8.decode s k).1 : Int) = 0 := by
          rcases part_cases ((Utf8.decode s k).1 : Int) with ⟨h, e⟩ | ⟨h, h', e⟩ | ⟨h, h', e⟩ | ⟨h, h', e⟩ | ⟨h, h', e⟩ | ⟨h, e⟩ | ⟨h, e⟩ | ⟨h, h', e⟩ | ⟨h, e⟩ <;> omega
        rw [hpz] at HP
        clear hpz
        go_wp2_with fail
        refine (HP.out _).mono ?_
        rintro e w' ⟨rfl, rfl⟩
        clear HP hnx
        go_wp2
        go_ret
        exact ⟨by rw [HE.out]; rfl, HBI.out _⟩
    · obtain rfl : k = s.size := by omega
      have HE := hidden (HG.out (fun i h => HO.out i h h))
      have hnx : ∀ ty, (Instr.next (.pointer (some ⟨w.heap.size, 0, none⟩)) true ty).run Try.prog (w.iter s s.size) = _ := fun ty => run_next_end w s s.size ty hlt
      have he : s.toList.isEmpty = decide (s.size < 1) := by
        rw [Bool.eq_iff_iff, decide_eq_true_iff, List.isEmpty_iff, ← List.length_eq_zero_iff]
        rw [ByteArray.toList_eq, Array.length_toList]
        show s.size = 0 ↔ _
        omega
      have HEm := hidden he
      clear he
      by_cases h1 : 1 ≤ s.size
      · have q1 : s.toList.isEmpty = false := by rw [HEm.out]; exact decide_eq_false (by omega)
        have q2 : s.toList ≠ [] := by intro e; rw [e] at q1; cases q1
        go_wp2
        go_ret
        exact ⟨by rw [HE.out, decide_eq_true h1, Bool.true_and]; rfl, HBI.out _⟩
      · have q1 : s.toList.isEmpty = true := by rw [HEm.out]; exact decide_eq_true (by omega)
        have q2 : s.toList = [] := List.isEmpty_iff.1 q1
        go_wp2
        go_ret
        exact ⟨by rw [HE.out, decide_eq_false h1]; rfl, HBI.out _⟩
end Go.Proofs.Ytaagkbgbghleiaa
