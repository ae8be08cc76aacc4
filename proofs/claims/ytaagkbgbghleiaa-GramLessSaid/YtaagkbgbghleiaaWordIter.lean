/-
  The iterator over the words of a text (word.stretches): what it hands to yield.
-/
import Derived.Test.YtaagkbgbghleiaaWordWords
import Derived.Sort.BigQuietIn
namespace Go.Proofs.Ytaagkbgbghleiaa
open Go.RowKit Go.Shelf
attribute [local go_sem] Oper.semAt_some

/-- A word's stretch. -/
abbrev Sw (s : ByteArray) := { p : Nat × Nat // p.1 < p.2 ∧ p.2 ≤ s.size }
abbrev encW {s : ByteArray} (p : Sw s) : Array Value := #[.int .i64 (p.1.1 : Int), .int .i64 (p.1.2 : Int)]

set_option maxRecDepth 20000 in
set_option maxHeartbeats 4000000 in
theorem words1_in (n : Nat) (hn : 1 ≤ n) (l Bs : Nat) (T : Nat → Prop) (s : ByteArray) (hs : s.size ≤ 1000000) (J Jx : List (Sw s) → World → Prop)
    (hY : ∀ pre x W, J pre W → pre.length < (wordsAt s 0).length → YieldAt Fence.wide (n - 1) Try.prog l (encW x) W fun e W' =>
      (e = .returned (.bool true) ∧ J (pre ++ [x]) W' ∧ Keeps T W W') ∨ (e = .returned (.bool false) ∧ Jx (pre ++ [x]) W'))
    (W : World) (hT : T Bs) (hc : W.cell? ⟨Bs, 0, none⟩ = some (.string s)) (h0 : J [] W) :
    CallsIn Fence.wide n Try.prog 103 #[.func (.yield l) #[] #[], .pointer (some ⟨Bs, 0, none⟩)] W fun e W' => (∃ v, e = .returned v) ∧
      ((∃ ys : List (Sw s), ys.map (·.1) = wordsAt s 0 ∧ J ys W') ∨ (∃ pre : List (Sw s), pre.map (·.1) <+: wordsAt s 0 ∧ Jx pre W')) := by
  have HSt : Hid (∀ b e, b < e → e ≤ s.size → (∀ j (h : j < s.size), b ≤ j → j < e → s[j] ≠ 32) → (∀ h : e < s.size, s[e] = 32) → wordsAt s b = (b, e) :: wordsAt s (e + 1)) := hidden (fun b e h1 h2 h3 h4 => wordsAt_step h1 h2 h3 h4)
  have HBl : Hid (∀ k (h : k < s.size), s[k] = 32 → wordsAt s k = wordsAt s (k + 1)) := hidden (fun k h hc => wordsAt_blank h hc)
  have HPast : Hid (∀ k, s.size ≤ k → wordsAt s k = []) := hidden (fun k h => wordsAt_past h)
  refine callsIn_of_wp Try.func103 rfl trivial ?_ rfl
  simp only [Try.ntmps103, List.size_toArray, List.length_cons, List.length_nil, Nat.reduceAdd, Nat.reduceSub, Array.replicate_succ, Array.replicate_zero, List.push_toArray, List.append_toArray, List.nil_append, List.cons_append]
  gi_wp2
  gi_loopw [3] (fun p wr => ∃ (k : Nat) (pre : List (Sw s)), p = .int .i64 k ∧ k ≤ s.size + 1 ∧ Hid (wordsAt s 0 = pre.map (·.1) ++ wordsAt s k) ∧ wr.cell? ⟨Bs, 0, none⟩ = some (.string s) ∧ Hid (J pre wr))
    (fun p _ => s.size + 1 - (intOf p).toNat)
  case atStart => exact ⟨0, [], rfl, by omega, hidden rfl, hc, hidden h0⟩
  case round =>
    clear hc h0
    obtain ⟨k, pre, rfl, hk, HL, hc, HJ⟩ := hrel
    by_cases hlt : k < s.size
    · have hcl := (s[k]'hlt).toNat_lt
      by_cases hc32 : s[k]'hlt = 32
      · have q : (((s[k]'hlt).toNat : Int) == 32) = true := by rw [hc32]; rfl
        have HL2 : Hid (wordsAt s 0 = pre.map (·.1) ++ wordsAt s (k + 1)) := hidden (by rw [HL.out, HBl.out k hlt hc32])
        clear hc32
        gi_wp2
        go_roundw
        case rel => exact ⟨k + 1, pre, by go_num, by omega, HL2, hc, HJ⟩
        case measure => simp [intOf]; omega
      · have q := byte_ne hc32
        rw [show ((32 : UInt8).toNat : Int) = 32 from rfl] at q
        have H0 : Hid (∀ j (h : j < s.size), k ≤ j → j < k → s[j] ≠ 32) := hidden (fun j h h1 h2 => by omega)
        have HN1 : Hid (s[k]'hlt ≠ 32) := hidden hc32
        clear hc32
        gi_wp2
        gi_loopw [4] (fun p wi => ∃ e : Nat, p = .int .i64 e ∧ k ≤ e ∧ e ≤ s.size ∧ Hid (∀ j (h : j < s.size), k ≤ j → j < e → s[j] ≠ 32) ∧ wi.cell? ⟨Bs, 0, none⟩ = some (.string s) ∧ Hid (J pre wi)) (fun p _ => s.size - (intOf p).toNat)
        case atStart => exact ⟨k, rfl, Nat.le_refl _, by omega, H0, hc, HJ⟩
        case round =>
          clear H0 hc HJ q hcl
          obtain ⟨e, rfl, hke, hes, HN, hc, HJ⟩ := hrel
          have hcont : ∀ (he : e = s.size ∨ ∃ h : e < s.size, s[e] = 32), k < e ∧ Hid (wordsAt s k = (k, e) :: wordsAt s (e + 1)) := fun he => by
            have hlt2 : k < e := by
              rcases Nat.lt_or_ge k e with h | h
              · exact h
              · obtain rfl : e = k := by omega
                rcases he with h | ⟨_, h⟩
                · omega
                · exact absurd h HN1.out
            exact ⟨hlt2, hidden (HSt.out k e hlt2 hes HN.out (fun h => by
              rcases he with h' | ⟨_, h'⟩
              · omega
              · exact h'))⟩
          have HCont := hidden hcont
          clear hcont
          by_cases hel : e < s.size
          · have hcl := (s[e]'hel).toNat_lt
            by_cases hc32 : s[e]'hel = 32
            · have q : (((s[e]'hel).toNat : Int) != 32) = false := by rw [hc32]; rfl
              obtain ⟨hlt2, HStep⟩ := HCont.out (.inr ⟨hel, hc32⟩)
              clear hc32
              have HL2 : Hid (wordsAt s 0 = pre.map (·.1) ++ ((k, e) :: wordsAt s (e + 1))) := hidden (by rw [HL.out, HStep.out])
              have hlen : pre.length < (wordsAt s 0).length := by rw [HL2.out]; simp
              obtain ⟨fn, tmps, assign, body, hy, hR⟩ := hY pre ⟨(k, e), hlt2, hes⟩ wr HJ.out hlen
              have HR := hidden hR
              dsimp only [encW] at hy
              clear hR hlen HCont HStep HN
              gi_wp2
              refine HR.out.mono ?_
              rintro r W3 (⟨rfl, hJ3, hk3⟩ | ⟨rfl, hJx3⟩)
              · have hc3 := hk3.cell (a := ⟨Bs, 0, none⟩) hT hc
                have HJ3 := hidden hJ3
                clear hJ3 hk3 hc
                gi_wp2
                go_roundw
                case rel => exact ⟨e + 1, pre ++ [⟨(k, e), hlt2, hes⟩], by go_num, by omega, hidden (by rw [HL2.out]; simp), hc3, HJ3⟩
                case measure => simp [intOf]; omega
              · gi_wp2
                refine bodyPost_ret (results_none rfl _ _ _) rfl ?_
                exact ⟨⟨_, rfl⟩, .inr ⟨_, by rw [HL2.out]; simp, hJx3⟩⟩
            · have q0 := byte_ne hc32
              have q : (((s[e]'hel).toNat : Int) != 32) = true := by rw [bne, show (32 : Int) = ((32 : UInt8).toNat : Int) from rfl, q0]; rfl
              have HN2 : Hid (∀ j (h : j < s.size), k ≤ j → j < e + 1 → s[j] ≠ 32) := hidden (fun j h h1 h2 => by
                by_cases ee : j = e
                · subst ee; exact hc32
                · exact HN.out j h h1 (by omega))
              clear hc32 q0
              gi_wp2
              go_roundw
              case rel => exact ⟨e + 1, by go_num, by omega, by omega, HN2, hc, HJ⟩
              case measure => simp [intOf]; omega
          · obtain rfl : e = s.size := by omega
            obtain ⟨hlt2, HStep⟩ := HCont.out (.inl rfl)
            have HL2 : Hid (wordsAt s 0 = pre.map (·.1) ++ ((k, s.size) :: wordsAt s (s.size + 1))) := hidden (by rw [HL.out, HStep.out])
            have hlen : pre.length < (wordsAt s 0).length := by rw [HL2.out]; simp
            obtain ⟨fn, tmps, assign, body, hy, hR⟩ := hY pre ⟨(k, s.size), hlt2, hes⟩ wr HJ.out hlen
            have HR := hidden hR
            dsimp only [encW] at hy
            clear hR hlen HCont HStep HN
            gi_wp2
            refine HR.out.mono ?_
            rintro r W3 (⟨rfl, hJ3, hk3⟩ | ⟨rfl, hJx3⟩)
            · have hc3 := hk3.cell (a := ⟨Bs, 0, none⟩) hT hc
              have HJ3 := hidden hJ3
              clear hJ3 hk3 hc
              gi_wp2
              go_roundw
              case rel => exact ⟨s.size + 1, pre ++ [⟨(k, s.size), hlt2, hes⟩], by go_num, by omega, hidden (by rw [HL2.out]; simp), hc3, HJ3⟩
              case measure => simp [intOf]; omega
            · gi_wp2
              refine bodyPost_ret (results_none rfl _ _ _) rfl ?_
              exact ⟨⟨_, rfl⟩, .inr ⟨_, by rw [HL2.out]; simp, hJx3⟩⟩
    · have HL2 := hidden (HL.out)
      rw [HPast.out k (by omega), List.append_nil] at HL2
      gi_wp2
      exact ⟨rfl, _, results_none rfl _ _ _, ⟨_, rfl⟩, .inl ⟨pre, HL2.out.symm, HJ.out⟩⟩
end Go.Proofs.Ytaagkbgbghleiaa
