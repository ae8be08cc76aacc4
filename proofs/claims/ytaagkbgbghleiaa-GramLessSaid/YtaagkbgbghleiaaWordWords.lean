/-
  The words of a text, of the document.
-/
import Derived.Test.YtaagkbgbghleiaaWordLines2
namespace Go.Proofs.Ytaagkbgbghleiaa
open Go.RowKit Go.Shelf

theorem byte_ne {x : UInt8} {c : UInt8} (h : x ≠ c) : ((x.toNat : Int) == (c.toNat : Int)) = false := by
  rw [beq_eq_false_iff_ne]
  intro e
  exact h (UInt8.toNat_inj.1 (by omega))

set_option maxRecDepth 20000 in
set_option maxHeartbeats 4000000 in
theorem ref_words (s : ByteArray) (w : World) (hs : s.size ≤ 1000000) :
    Calls Try.prog 22 #[.string s] w fun r w' => (∃ u, r = .returned u ∧ Hid (StrsM w' w.heap.size u (wordsOf s))) ∧ Below w.heap.size w w' := by
  have HI := str_info
  have hb := (Below.refl w.heap.size w).alloc (Nat.le_refl _) (.cells #[] 9)
  have HSt : Hid (∀ b e, b < e → e ≤ s.size → (∀ j (h : j < s.size), b ≤ j → j < e → s[j] ≠ 32) → (∀ h : e < s.size, s[e] = 32) → wordsAt s b = (b, e) :: wordsAt s (e + 1)) := hidden (fun b e h1 h2 h3 h4 => wordsAt_step h1 h2 h3 h4)
  have HBl : Hid (∀ k (h : k < s.size), s[k] = 32 → wordsAt s k = wordsAt s (k + 1)) := hidden (fun k h hc => wordsAt_blank h hc)
  have HPast : Hid (∀ k, s.size ≤ k → wordsAt s k = []) := hidden (fun k h => wordsAt_past h)
  have HEmp : Hid (∀ k, ⟨#[]⟩ = s.extract k k) := hidden (fun k => (extract_empty s k).symm)
  have HCat : Hid (∀ b k, b ≤ k → s.extract b k ++ s.extract k (k + 1) = s.extract b (k + 1)) := hidden (fun b k h => extract_append s h (by omega))
  have HSz : Hid (∀ b k, k ≤ s.size → (s.extract b k).size = k - b) := hidden (fun b k h => extract_size s h)
  go_enter Try.func22, Try.ntmps22
  go_wp2
  go_loopw [3, 4, 5] (fun vv ww kk wr => ∃ (k b : Nat) (cur : ByteArray) (pre : List (Nat × Nat)), kk = .int .i64 k ∧ ww = .string cur ∧ Hid (cur = s.extract b k) ∧ b ≤ k ∧ k ≤ s.size ∧ pre.length ≤ b ∧ Hid (∀ j (h : j < s.size), b ≤ j → j < k → s[j] ≠ 32) ∧ Hid (wordsAt s 0 = pre ++ wordsAt s b) ∧ Hid (StrsM wr w.heap.size vv (pre.map (cutTo s))) ∧ Below w.heap.size w wr)
    (fun _ _ kk _ => s.size - (intOf kk).toNat)
  case atStart => exact ⟨0, 0, ⟨#[]⟩, [], rfl, rfl, hidden (HEmp.out 0), by omega, by omega, by simp, hidden (fun j h h1 h2 => by omega), hidden rfl, hidden (Mine.fresh_nil _ _ _ _ _), hb⟩
  case round =>
    clear hb
    obtain ⟨k, b, cur, pre, rfl, rfl, HCu, hbk, hk, hpl, HN, HL, HM, hb⟩ := hrel
    have hbz := hb.size
    have hpl2 : (pre.map (cutTo s)).length ≤ b := by simpa using hpl
    have hcs := HSz.out b k hk
    rw [← HCu.out] at hcs
    have hem := isEmpty_size cur
    by_cases hlt : k < s.size
    · have hcl := (s[k]'hlt).toNat_lt
      by_cases hc : s[k]'hlt = 32
      · have q : (((s[k]'hlt).toNat : Int) != 32) = false := by rw [hc]; rfl
        by_cases hbk2 : b < k
        · have q1 : cur.toList.isEmpty = false := by rw [hem]; exact decide_eq_false (by omega)
          have q2 : cur.toList ≠ [] := by intro e; rw [e] at q1; cases q1
          have HE3 := hidden (HSt.out b k hbk2 hk HN.out (fun _ => hc))
          have HM2 := hidden (Mine.alloc HM.out (.cells #[.string cur] 9))
          have HX := hidden (Rd.single wr 9 (.string cur) wr.heap.size rfl)
          have H1 := one_str cur
          have hb2 := hb.alloc hbz (.cells #[.string cur] 9)
          have hbz2 := hb2.size
          have HCu2 : Hid (cutTo s (b, k) = cur) := hidden HCu.out.symm
          clear hc hem hcs HCu
          go_wp2_with (at_builtin; refine wpList_append_all rfl _ _ 26 9 rfl (by kernel_rfl) HI rfl (by decide) w.heap.size _ _ _ HM2 _ _ _ HX H1 rfl rfl (by omega) (by decide) hbz2 ?_; intro v' w' hA)
          go_roundw
          case rel =>
            refine ⟨k + 1, k + 1, ⟨#[]⟩, pre ++ [(b, k)], by go_num, rfl, hidden (HEmp.out _), Nat.le_refl _, by omega, by simp; omega, hidden (fun j h h1 h2 => by omega), hidden (by rw [HL.out, HE3.out]; simp), ?_, hb2.trans hA.out.below⟩
            rw [List.map_append, List.map_cons, List.map_nil, HCu2.out]
            exact hidden (StrsM.snoc hA.out)
          case measure => simp [intOf]; omega
        · obtain rfl : b = k := by omega
          have q1 : cur.toList.isEmpty = true := by rw [hem]; exact decide_eq_true (by omega)
          have q2 : cur.toList = [] := List.isEmpty_iff.1 q1
          have HB3 := hidden (HBl.out b hlt hc)
          clear hc hem hcs HCu
          go_wp2
          go_roundw
          case rel => exact ⟨b + 1, b + 1, ⟨#[]⟩, pre, by go_num, rfl, hidden (HEmp.out _), Nat.le_refl _, by omega, by omega, hidden (fun j h h1 h2 => by omega), hidden (by rw [HL.out, HB3.out]), HM, hb⟩
          case measure => simp [intOf]; omega
      · have q0 := byte_ne hc
        have q : (((s[k]'hlt).toNat : Int) != 32) = true := by rw [bne, show (32 : Int) = ((32 : UInt8).toNat : Int) from rfl, q0]; rfl
        have HN2 : Hid (∀ j (h : j < s.size), b ≤ j → j < k + 1 → s[j] ≠ 32) := hidden (fun j h h1 h2 => by
          by_cases e : j = k
          · subst e; exact hc
          · exact HN.out j h h1 (by omega))
        have HCu2 : Hid (cur ++ s.extract k (k + 1) = s.extract b (k + 1)) := hidden (by rw [HCu.out, HCat.out b k hbk])
        clear hc q0 hem
        go_wp2
        go_roundw
        case rel => exact ⟨k + 1, b, _, pre, by go_num, rfl, HCu2, by omega, by omega, hpl, HN2, HL, HM, hb⟩
        case measure => simp [intOf]; omega
    · obtain rfl : k = s.size := by omega
      by_cases hbs : b < s.size
      · have q1 : cur.toList.isEmpty = false := by rw [hem]; exact decide_eq_false (by omega)
        have q2 : cur.toList ≠ [] := by intro e; rw [e] at q1; cases q1
        have HE3 := hidden (HSt.out b s.size hbs (Nat.le_refl _) HN.out (fun h => absurd h (Nat.lt_irrefl _)))
        have HR : Hid (pre.map (cutTo s) ++ [cur] = wordsOf s) := hidden (by
          unfold wordsOf; rw [HL.out, HE3.out, HPast.out _ (by omega), HCu.out]; simp [cutTo])
        have HM2 := hidden (Mine.alloc HM.out (.cells #[.string cur] 9))
        have HX := hidden (Rd.single wr 9 (.string cur) wr.heap.size rfl)
        have H1 := one_str cur
        have hb2 := hb.alloc hbz (.cells #[.string cur] 9)
        have hbz2 := hb2.size
        clear hem hcs HCu
        go_wp2_with (at_builtin; refine wpList_append_all rfl _ _ 26 9 rfl (by kernel_rfl) HI rfl (by decide) w.heap.size _ _ _ HM2 _ _ _ HX H1 rfl rfl (by omega) (by decide) hbz2 ?_; intro v' w' hA)
        go_ret
        have hfin := hidden (StrsM.snoc hA.out)
        rw [HR.out] at hfin
        exact ⟨⟨_, rfl, hfin⟩, hb2.trans hA.out.below⟩
      · obtain rfl : b = s.size := by omega
        have q1 : cur.toList.isEmpty = true := by rw [hem]; exact decide_eq_true (by omega)
        have q2 : cur.toList = [] := List.isEmpty_iff.1 q1
        have HR : Hid (pre.map (cutTo s) = wordsOf s) := hidden (by
          unfold wordsOf; rw [HL.out, HPast.out _ (Nat.le_refl _), List.append_nil])
        rw [HR.out] at HM
        clear hem hcs HCu
        go_wp2
        go_ret
        exact ⟨⟨_, rfl, HM⟩, hb⟩
end Go.Proofs.Ytaagkbgbghleiaa
