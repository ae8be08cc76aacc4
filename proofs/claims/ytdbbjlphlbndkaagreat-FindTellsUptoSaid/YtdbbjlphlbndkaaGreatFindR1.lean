/-
  The document's selectors: facsimileref41.step.
-/
import Derived.Test.YtdbbjlphlbndkaaGreatFindS
import Derived.Deep.Quiet
namespace Go.Proofs.YtdbbjlphlbndkaaGreat
open Go.RowKit Go.Shelf

theorem endOf_consR (x : UInt8) (l : List UInt8) : endOf (x :: l) = if x = 47 then 0 else endOf l + 1 := by
  unfold endOf
  rw [Lib.indexByte]
  by_cases h : x = 47
  · subst h
    simp
  · have hx : (x == 47) = false := by simpa using h
    rw [hx]
    simp only [Bool.false_eq_true, if_false]
    rw [if_neg h]
    have hg := Lib.indexByte_ge l 47
    by_cases h2 : Lib.indexByte l 47 = -1
    · rw [h2]
      rfl
    · have h3 : (Lib.indexByte l 47 == -1) = false := by simpa using h2
      rw [h3]
      simp only [Bool.false_eq_true, if_false]
      rw [if_neg (by omega), if_neg h2]
      omega
theorem endOf_is : ∀ (t : List UInt8) (e : Nat), e ≤ t.length → (∀ j, j < e → t[j]? ≠ some 47) → (e = t.length ∨ t[e]? = some 47) → endOf t = e := by
  intro t
  induction t with
  | nil => intro e h _ _; have : e = 0 := by simpa using h
           subst this
           rfl
  | cons x t ih =>
    intro e h1 h2 h3
    rw [endOf_consR]
    cases e with
    | zero =>
      rcases h3 with h3 | h3
      · simp at h3
      · simp at h3; rw [if_pos h3]
    | succ e =>
      have hx : x ≠ 47 := fun e' => h2 0 (by omega) (by rw [e']; rfl)
      rw [if_neg hx, ih e (by simpa using h1) (fun j hj => by have := h2 (j + 1) (by omega); simpa using this) (by simpa using h3)]
theorem goes_iff {l : List UInt8} : goesAll l = true ↔ l[1]? = some 47 := by
  unfold goesAll
  cases l with
  | nil => simp [Lib.hasPrefix]
  | cons x l =>
    cases l with
    | nil => simp [Lib.hasPrefix]
    | cons y l => simp [Lib.hasPrefix, List.isPrefixOf]; exact eq_comm
theorem drewN_belowR {B : Nat} {a w : World} (h : Below B a w) (n : Nat) : Below B a (w.drewN n) := ⟨h.os, h.tape, h.output, h.size, h.block⟩
/-- Where a step's name begins. -/
def fromR (l : List UInt8) : Nat := if goesAll l = true then 2 else 1
theorem tail_from (l : List UInt8) : tailOf l = l.drop (fromR l) := by
  unfold tailOf fromR
  split
  · rw [List.drop_drop]
  · rfl

set_option maxRecDepth 20000 in
set_option maxHeartbeats 4000000 in
theorem ref_step41 (s : ByteArray) (h0 : 1 ≤ s.size) (hs : s.size ≤ 1000000) (w : World) : Calls Tryz.prog 25 #[.string s] w fun r w' =>
    r = .returned (.tuple #[.bool (goesAll s.data.toList), .string ⟨((tailOf s.data.toList).take (endOf (tailOf s.data.toList))).toArray⟩, .string ⟨((tailOf s.data.toList).drop (endOf (tailOf s.data.toList))).toArray⟩]) ∧ Below w.heap.size w w' := by
  have hat : ∀ (i : Nat) (h : i < s.size), s.data.toList[i]? = some (s[i]'h) := fun i h => List.getElem?_eq_getElem (by rw [dataL]; exact h)
  have hcut : Hid (∀ e, fromR s.data.toList ≤ e → e ≤ s.size → (∀ j (h : j < s.size), fromR s.data.toList ≤ j → j < e → s[j]'h ≠ 47) → (e = s.size ∨ ∃ h : e < s.size, s[e]'h = 47) →
      s.extract (fromR s.data.toList) e = ⟨((tailOf s.data.toList).take (endOf (tailOf s.data.toList))).toArray⟩ ∧ s.extract e s.size = ⟨((tailOf s.data.toList).drop (endOf (tailOf s.data.toList))).toArray⟩) := hidden (fun e h1 h2 h3 h4 => by
    have he : endOf (tailOf s.data.toList) = e - fromR s.data.toList := by
      rw [tail_from]
      refine endOf_is _ _ (by rw [List.length_drop, dataL]; omega) (fun j hj => ?_) ?_
      · rw [List.getElem?_drop, hat _ (by omega)]
        exact fun e' => h3 _ (by omega) (by omega) (by omega) (Option.some.inj e')
      · rcases h4 with h4 | ⟨h4, h5⟩
        · left; rw [List.length_drop, dataL]; omega
        · right
          rw [List.getElem?_drop, show fromR s.data.toList + (e - fromR s.data.toList) = e by omega, hat _ h4, h5]
    rw [he, tail_from]
    refine ⟨by rw [cutL], ?_⟩
    rw [cutL, List.drop_drop, show fromR s.data.toList + (e - fromR s.data.toList) = e by omega, List.take_of_length_le (by rw [List.length_drop, dataL]; exact Nat.le_refl _)])
  have hgo : (goesAll s.data.toList = true ∧ ∃ h : 1 < s.size, s[1]'h = 47) ∨ (goesAll s.data.toList = false ∧ (¬ 1 < s.size ∨ ∃ h : 1 < s.size, s[1]'h ≠ 47)) := by
    by_cases h1 : 1 < s.size
    · by_cases h2 : s[1]'h1 = 47
      · left; exact ⟨goes_iff.2 (by rw [hat 1 h1, h2]), h1, h2⟩
      · right; refine ⟨?_, .inr ⟨h1, h2⟩⟩
        rw [Bool.eq_false_iff]
        intro e
        have := goes_iff.1 e
        rw [hat 1 h1] at this
        exact h2 (Option.some.inj this)
    · right; refine ⟨?_, .inl h1⟩
      rw [Bool.eq_false_iff]
      intro e
      have := goes_iff.1 e
      rw [List.getElem?_eq_none (by rw [dataL]; omega)] at this
      cases this
  have hfr : Hid (fromR s.data.toList = if goesAll s.data.toList = true then 2 else 1) := hidden rfl
  generalize fromR s.data.toList = fr at *
  generalize (⟨((tailOf s.data.toList).take (endOf (tailOf s.data.toList))).toArray⟩ : ByteArray) = nm at *
  generalize (⟨((tailOf s.data.toList).drop (endOf (tailOf s.data.toList))).toArray⟩ : ByteArray) = rs at *
  generalize goesAll s.data.toList = al at *
  clear hat
  have hF : (al = true ∧ fr = 2 ∧ ∃ h : 1 < s.size, s[1]'h = 47) ∨ (al = false ∧ fr = 1 ∧ ¬ 1 < s.size) ∨ (al = false ∧ fr = 1 ∧ ∃ h : 1 < s.size, s[1]'h ≠ 47) := by
    have := hfr.out
    rcases hgo with ⟨h1, h2⟩ | ⟨h1, h2 | h2⟩
    · rw [h1, if_pos rfl] at this; exact .inl ⟨h1, this, h2⟩
    · rw [h1, if_neg (by decide)] at this; exact .inr (.inl ⟨h1, this, h2⟩)
    · rw [h1, if_neg (by decide)] at this; exact .inr (.inr ⟨h1, this, h2⟩)
  clear hgo hfr
  have hfz : fr ≤ s.size ∧ fr ≤ 2 := by rcases hF with ⟨_, h, h2, _⟩ | ⟨_, h, _⟩ | ⟨_, h, _⟩ <;> omega
  rcases hF with ⟨rfl, rfl, hb, he⟩ | ⟨rfl, rfl, hb⟩ | ⟨rfl, rfl, hb, he⟩
  · have q1 : (((s[1]'hb).toNat : Int) == 47) = true := by rw [he]; rfl
    have q0 : (1 : Int) < (s.size : Int) := by omega
    go_enter Tryz.func25, Tryz.ntmps25
    go_wp2
    go_loopw [7] (fun ee wr => ∃ e : Nat, ee = .int .i64 e ∧ 2 ≤ e ∧ e ≤ s.size ∧ Hid (∀ j (h : j < s.size), 2 ≤ j → j < e → s[j]'h ≠ 47) ∧ wr = w) (fun ee wr => s.size - (intOf ee).toNat)
    case atStart => exact ⟨2, by go_num, Nat.le_refl _, hfz.1, hidden (fun j _ h1 h2 => by omega), rfl⟩
    case round =>
      obtain ⟨e, rfl, h1, h2, HN, rfl⟩ := hrel
      by_cases hlt : e < s.size
      · have p1 : (e : Int) < (s.size : Int) := by omega
        by_cases h47 : s[e]'hlt = 47
        · have p2 : (((s[e]'hlt).toNat : Int) != 47) = false := by rw [h47]; rfl
          obtain ⟨c1, c2⟩ := hcut.out e h1 h2 HN.out (.inr ⟨hlt, h47⟩)
          clear hcut HN
          have b1 : (0 : Int) ≤ (e : Int) := by omega
          have b2 : (e : Int) ≤ (s.size : Int) := by omega
          have b3 : (2 : Int) ≤ (e : Int) := by omega
          go_wp2_with fail
          go_quiet (fail)
          go_wp2
          refine bodyPost_ret (v := .tuple #[.bool true, .string nm, .string rs]) (by simp [results, Tryz.results25, go_sem]) rfl ⟨rfl, drewN_belowR (Below.refl _ _) _⟩
        · have p2 : (((s[e]'hlt).toNat : Int) != 47) = true := by
            rw [bne_iff_ne]
            intro e'
            exact h47 (UInt8.toNat_inj.1 (by show (s[e]'hlt).toNat = 47; omega))
          have HN2 : Hid (∀ j (h : j < s.size), 2 ≤ j → j < e + 1 → s[j]'h ≠ 47) := hidden (fun j h h3 h4 => by
            by_cases e' : j = e
            · subst e'; exact h47
            · exact HN.out j h h3 (by omega))
          clear HN hcut
          go_wp2
          go_roundw
          case rel => exact ⟨e + 1, by go_num, by omega, by omega, HN2, by simp⟩
          case measure => simp [intOf]; omega
      · have p1 : ¬ (e : Int) < (s.size : Int) := by omega
        obtain ⟨c1, c2⟩ := hcut.out e h1 h2 HN.out (.inl (by omega))
        have hee : e = s.size := by omega
        clear hcut HN
        subst hee
        have c3 : ByteArray.empty = rs := by rw [← c2]; simp
        have b3 : (2 : Int) ≤ (s.size : Int) := by omega
        go_wp2_with fail
        go_quiet (fail)
        go_wp2
        refine bodyPost_ret (v := .tuple #[.bool true, .string nm, .string rs]) (by simp [results, Tryz.results25, go_sem]) rfl ⟨rfl, drewN_belowR (Below.refl _ _) _⟩
  · have q0 : ¬ (1 : Int) < (s.size : Int) := by omega
    go_enter Tryz.func25, Tryz.ntmps25
    go_wp2
    go_loopw [7] (fun ee wr => ∃ e : Nat, ee = .int .i64 e ∧ 1 ≤ e ∧ e ≤ s.size ∧ Hid (∀ j (h : j < s.size), 1 ≤ j → j < e → s[j]'h ≠ 47) ∧ wr = w) (fun ee wr => s.size - (intOf ee).toNat)
    case atStart => exact ⟨1, by go_num, Nat.le_refl _, hfz.1, hidden (fun j _ h1 h2 => by omega), rfl⟩
    case round =>
      obtain ⟨e, rfl, h1, h2, HN, rfl⟩ := hrel
      by_cases hlt : e < s.size
      · have p1 : (e : Int) < (s.size : Int) := by omega
        by_cases h47 : s[e]'hlt = 47
        · have p2 : (((s[e]'hlt).toNat : Int) != 47) = false := by rw [h47]; rfl
          obtain ⟨c1, c2⟩ := hcut.out e h1 h2 HN.out (.inr ⟨hlt, h47⟩)
          clear hcut HN
          have b1 : (0 : Int) ≤ (e : Int) := by omega
          have b2 : (e : Int) ≤ (s.size : Int) := by omega
          have b3 : (1 : Int) ≤ (e : Int) := by omega
          go_wp2_with fail
          go_quiet (fail)
          go_wp2
          refine bodyPost_ret (v := .tuple #[.bool false, .string nm, .string rs]) (by simp [results, Tryz.results25, go_sem]) rfl ⟨rfl, drewN_belowR (Below.refl _ _) _⟩
        · have p2 : (((s[e]'hlt).toNat : Int) != 47) = true := by
            rw [bne_iff_ne]
            intro e'
            exact h47 (UInt8.toNat_inj.1 (by show (s[e]'hlt).toNat = 47; omega))
          have HN2 : Hid (∀ j (h : j < s.size), 1 ≤ j → j < e + 1 → s[j]'h ≠ 47) := hidden (fun j h h3 h4 => by
            by_cases e' : j = e
            · subst e'; exact h47
            · exact HN.out j h h3 (by omega))
          clear HN hcut
          go_wp2
          go_roundw
          case rel => exact ⟨e + 1, by go_num, by omega, by omega, HN2, by simp⟩
          case measure => simp [intOf]; omega
      · have p1 : ¬ (e : Int) < (s.size : Int) := by omega
        obtain ⟨c1, c2⟩ := hcut.out e h1 h2 HN.out (.inl (by omega))
        have hee : e = s.size := by omega
        clear hcut HN
        subst hee
        have c3 : ByteArray.empty = rs := by rw [← c2]; simp
        have b3 : (1 : Int) ≤ (s.size : Int) := by omega
        go_wp2_with fail
        go_quiet (fail)
        go_wp2
        refine bodyPost_ret (v := .tuple #[.bool false, .string nm, .string rs]) (by simp [results, Tryz.results25, go_sem]) rfl ⟨rfl, drewN_belowR (Below.refl _ _) _⟩
  · have q1 : (((s[1]'hb).toNat : Int) == 47) = false := by
      rw [beq_eq_false_iff_ne]
      intro e
      exact he (UInt8.toNat_inj.1 (by show (s[1]'hb).toNat = 47; omega))
    have q0 : (1 : Int) < (s.size : Int) := by omega
    go_enter Tryz.func25, Tryz.ntmps25
    go_wp2
    go_loopw [7] (fun ee wr => ∃ e : Nat, ee = .int .i64 e ∧ 1 ≤ e ∧ e ≤ s.size ∧ Hid (∀ j (h : j < s.size), 1 ≤ j → j < e → s[j]'h ≠ 47) ∧ wr = w) (fun ee wr => s.size - (intOf ee).toNat)
    case atStart => exact ⟨1, by go_num, Nat.le_refl _, hfz.1, hidden (fun j _ h1 h2 => by omega), rfl⟩
    case round =>
      obtain ⟨e, rfl, h1, h2, HN, rfl⟩ := hrel
      by_cases hlt : e < s.size
      · have p1 : (e : Int) < (s.size : Int) := by omega
        by_cases h47 : s[e]'hlt = 47
        · have p2 : (((s[e]'hlt).toNat : Int) != 47) = false := by rw [h47]; rfl
          obtain ⟨c1, c2⟩ := hcut.out e h1 h2 HN.out (.inr ⟨hlt, h47⟩)
          clear hcut HN
          have b1 : (0 : Int) ≤ (e : Int) := by omega
          have b2 : (e : Int) ≤ (s.size : Int) := by omega
          have b3 : (1 : Int) ≤ (e : Int) := by omega
          go_wp2_with fail
          go_quiet (fail)
          go_wp2
          refine bodyPost_ret (v := .tuple #[.bool false, .string nm, .string rs]) (by simp [results, Tryz.results25, go_sem]) rfl ⟨rfl, drewN_belowR (Below.refl _ _) _⟩
        · have p2 : (((s[e]'hlt).toNat : Int) != 47) = true := by
            rw [bne_iff_ne]
            intro e'
            exact h47 (UInt8.toNat_inj.1 (by show (s[e]'hlt).toNat = 47; omega))
          have HN2 : Hid (∀ j (h : j < s.size), 1 ≤ j → j < e + 1 → s[j]'h ≠ 47) := hidden (fun j h h3 h4 => by
            by_cases e' : j = e
            · subst e'; exact h47
            · exact HN.out j h h3 (by omega))
          clear HN hcut
          go_wp2
          go_roundw
          case rel => exact ⟨e + 1, by go_num, by omega, by omega, HN2, by simp⟩
          case measure => simp [intOf]; omega
      · have p1 : ¬ (e : Int) < (s.size : Int) := by omega
        obtain ⟨c1, c2⟩ := hcut.out e h1 h2 HN.out (.inl (by omega))
        have hee : e = s.size := by omega
        clear hcut HN
        subst hee
        have c3 : ByteArray.empty = rs := by rw [← c2]; simp
        have b3 : (1 : Int) ≤ (s.size : Int) := by omega
        go_wp2_with fail
        go_quiet (fail)
        go_wp2
        refine bodyPost_ret (v := .tuple #[.bool false, .string nm, .string rs]) (by simp [results, Tryz.results25, go_sem]) rfl ⟨rfl, drewN_belowR (Below.refl _ _) _⟩
end Go.Proofs.YtdbbjlphlbndkaaGreat
