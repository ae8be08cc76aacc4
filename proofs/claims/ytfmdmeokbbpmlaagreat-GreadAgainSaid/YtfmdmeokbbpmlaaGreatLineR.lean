/-
  The lines of a text, of the document.
-/
import Derived.Test.YtfmdmeokbbpmlaaGreatLineA
namespace Go.Proofs.YtfmdmeokbbpmlaaGreat
open Go.RowKit Go.Shelf

set_option maxRecDepth 20000 in
set_option maxHeartbeats 4000000 in
theorem ref_lines (s : ByteArray) (w : World) (hs : s.size ≤ 100000000000) :
    Calls Tryz.prog 14 #[.string s] w fun r w' => (∃ u, r = .returned u ∧ Hid (StrsM w' w.heap.size u (linesOf s))) ∧ Below w.heap.size w w' := by
  have HI := str_info
  have HE := hidden (linesAt_end s)
  have hb := (Below.refl w.heap.size w).alloc (Nat.le_refl _) (.cells #[] 9)
  have HSt : Hid (∀ b e, b < s.size → b ≤ e → e ≤ s.size → (∀ j (h : j < s.size), b ≤ j → j < e → s[j] ≠ 10) → (∀ h : e < s.size, s[e] = 10) → linesAt s b = (b, e) :: linesAt s (e + 1)) := hidden (fun b e h1 h2 h3 h4 h5 => linesAt_step h1 h2 h3 h4 h5)
  have HPast : Hid (∀ k, s.size ≤ k → linesAt s k = []) := hidden (fun k h => linesAt_past h)
  go_enter Tryz.func14, Tryz.ntmps14
  go_wp2
  go_loopw [3, 4, 5] (fun vv bb kk wr => ∃ (k b : Nat) (pre : List (Nat × Nat)), kk = .int .i64 k ∧ bb = .int .i64 b ∧ b ≤ k ∧ k ≤ s.size ∧ pre.length ≤ b ∧ Hid (∀ j (h : j < s.size), b ≤ j → j < k → s[j] ≠ 10) ∧ Hid (linesAt s 0 = pre ++ linesAt s b) ∧ Hid (StrsM wr w.heap.size vv (pre.map (cutTo s))) ∧ Below w.heap.size w wr)
    (fun _ _ kk _ => s.size - (intOf kk).toNat)
  case atStart => exact ⟨0, 0, [], rfl, rfl, by omega, by omega, by simp, hidden (fun j h h1 h2 => by omega), hidden rfl, hidden (Mine.fresh_nil _ _ _ _ _), hb⟩
  case round =>
    clear hb
    obtain ⟨k, b, pre, rfl, rfl, hbk, hk, hpl, HN, HL, HM, hb⟩ := hrel
    have hbz := hb.size
    have hpl2 : (pre.map (cutTo s)).length ≤ b := by simpa using hpl
    by_cases hlt : k < s.size
    · have hcl := (s[k]'hlt).toNat_lt
      by_cases hc : s[k]'hlt = 10
      · have q : (((s[k]'hlt).toNat : Int) == 10) = true := by rw [hc]; rfl
        have HE3 := hidden (HSt.out b k (by omega) hbk hk HN.out (fun _ => hc))
        have HM2 := hidden (Mine.alloc HM.out (.cells #[.string (s.extract b k)] 9))
        have HX := hidden (Rd.single wr 9 (.string (s.extract b k)) wr.heap.size rfl)
        have H1 := one_str (s.extract b k)
        have hb2 := hb.alloc hbz (.cells #[.string (s.extract b k)] 9)
        have hbz2 := hb2.size
        clear hc
        go_wp2_with (at_builtin; refine wpList_append_all rfl _ _ 24 9 rfl (by kernel_rfl) HI rfl (by decide) w.heap.size _ _ _ HM2 _ _ _ HX H1 rfl rfl (by omega) (by decide) hbz2 ?_; intro v' w' hA)
        go_roundw
        case rel =>
          refine ⟨k + 1, k + 1, pre ++ [(b, k)], by go_num, by go_num, Nat.le_refl _, by omega, by simp; omega, hidden (fun j h h1 h2 => by omega), hidden (by rw [HL.out, HE3.out]; simp), ?_, hb2.trans hA.out.below⟩
          rw [List.map_append, List.map_cons, List.map_nil]
          exact hidden (StrsM.snoc hA.out)
        case measure => simp [intOf]; omega
      · have q : (((s[k]'hlt).toNat : Int) == 10) = false := by
          rw [beq_eq_false_iff_ne]
          intro e
          exact hc (UInt8.toNat_inj.1 (by rw [show (10 : UInt8).toNat = 10 from rfl]; omega))
        have HN2 : Hid (∀ j (h : j < s.size), b ≤ j → j < k + 1 → s[j] ≠ 10) := hidden (fun j h h1 h2 => by
          by_cases e : j = k
          · subst e; exact hc
          · exact HN.out j h h1 (by omega))
        clear hc
        go_wp2
        go_roundw
        case rel => exact ⟨k + 1, b, pre, by go_num, rfl, by omega, by omega, hpl, HN2, HL, HM, hb⟩
        case measure => simp [intOf]; omega
    · obtain rfl : k = s.size := by omega
      by_cases hbs : b < s.size
      · have HE3 := hidden (HSt.out b s.size hbs hbk (Nat.le_refl _) HN.out (fun h => absurd h (Nat.lt_irrefl _)))
        have HR : Hid (pre.map (cutTo s) ++ [s.extract b s.size] = linesOf s) := hidden (by
          unfold linesOf; rw [HL.out, HE3.out, HPast.out _ (by omega)]; simp [cutTo])
        have HM2 := hidden (Mine.alloc HM.out (.cells #[.string (s.extract b s.size)] 9))
        have HX := hidden (Rd.single wr 9 (.string (s.extract b s.size)) wr.heap.size rfl)
        have H1 := one_str (s.extract b s.size)
        have hb2 := hb.alloc hbz (.cells #[.string (s.extract b s.size)] 9)
        have hbz2 := hb2.size
        go_wp2_with (at_builtin; refine wpList_append_all rfl _ _ 24 9 rfl (by kernel_rfl) HI rfl (by decide) w.heap.size _ _ _ HM2 _ _ _ HX H1 rfl rfl (by omega) (by decide) hbz2 ?_; intro v' w' hA)
        go_ret
        have hfin := hidden (StrsM.snoc hA.out)
        rw [HR.out] at hfin
        exact ⟨⟨_, rfl, hfin⟩, hb2.trans hA.out.below⟩
      · obtain rfl : b = s.size := by omega
        have HR : Hid (pre.map (cutTo s) = linesOf s) := hidden (by
          unfold linesOf; rw [HL.out, HE.out, List.append_nil])
        rw [HR.out] at HM
        go_wp2
        go_ret
        exact ⟨⟨_, rfl, HM⟩, hb⟩
end Go.Proofs.YtfmdmeokbbpmlaaGreat
