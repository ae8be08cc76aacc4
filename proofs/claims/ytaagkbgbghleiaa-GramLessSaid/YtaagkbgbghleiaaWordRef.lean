/-
  Cut, of the document; are lists of texts the same; are there few.
-/
import Derived.Test.YtaagkbgbghleiaaWordCut
namespace Go.Proofs.Ytaagkbgbghleiaa
open Go.RowKit Go.Shelf

theorem head_start {s : ByteArray} {k a b : Nat} {r : List (Nat × Nat)} (hk : k < s.size) (hc : s[k] ≠ 32) (h : wordsAt s k = (a, b) :: r) : a = k := by
  unfold wordsAt at h
  have hk' : k < (bytes s).length := by rw [bytes_len]; exact hk
  rw [List.drop_eq_getElem_cons hk', wordSpans, if_neg (show ¬ (bytes s)[k] = 32 from hc)] at h
  simp at h
  exact h.1.1.symm
theorem nonempty_lt {s : ByteArray} {k : Nat} {p : Nat × Nat} {r : List (Nat × Nat)} (h : wordsAt s k = p :: r) : k < s.size := by
  rcases Nat.lt_or_ge k s.size with h' | h'
  · exact h'
  · rw [wordsAt_past h'] at h; cases h

set_option maxRecDepth 20000 in
set_option maxHeartbeats 4000000 in
theorem ref_cut (s : ByteArray) (w : World) (hs : s.size ≤ 1000000) :
    Calls Try.prog 17 #[.string s] w fun r w' => r = .returned (.tuple #[.string (cutOf s).1, .string (cutOf s).2]) ∧ Below w.heap.size w w' := by
  have HW := hidden (ref_words s w hs)
  have HBl : Hid (∀ k (h : k < s.size), s[k] = 32 → wordsAt s k = wordsAt s (k + 1)) := hidden (fun k h hc => wordsAt_blank h hc)
  unfold cutOf
  unfold wordsOf at HW
  cases hws : wordsAt s 0 with
  | nil =>
    rw [hws] at HW
    clear hws
    dsimp only
    go_enter Try.func17, Try.ntmps17
    go_wp2_with fail
    refine HW.out.mono ?_
    rintro r w2 ⟨⟨u, rfl, HM⟩, hb⟩
    obtain ⟨A, c, rfl⟩ := Mine.value HM.out
    have q0 : ((([] : List ByteArray).length : Int) == 0) = true := rfl
    go_wp2
    go_ret2
    exact ⟨rfl, hb⟩
  | cons p r0 =>
    obtain ⟨a, b⟩ := p
    have hbd := span_bounds_w s s.size 0 (by omega) (a, b) (by rw [hws]; exact List.mem_cons_self ..)
    dsimp only at hbd
    obtain ⟨_, hab, hbs⟩ := hbd
    have hne : ((((a, b) :: r0).map (cutTo s)).length : Int) = (r0.length : Int) + 1 := by simp
    rw [hws] at HW
    have H0 := hidden hws
    clear hws
    dsimp only
    have hls : a + (cutTo s (a, b)).size ≤ b ∧ b ≤ a + (cutTo s (a, b)).size := by
      have : (cutTo s (a, b)).size = b - a := extract_size s hbs
      omega
    obtain ⟨hl1, hl2⟩ := hls
    have HBe : Hid (b < s.size → s.extract (b + 1) s.size = behind s (a, b)) := hidden (fun h => by unfold behind; dsimp only; rw [Nat.min_eq_left (by omega)])
    have HBe2 : Hid (b = s.size → behind s (a, b) = ⟨#[]⟩) := hidden (fun h => by unfold behind; dsimp only; rw [Nat.min_eq_right (by omega), extract_empty])
    obtain ⟨L, hL⟩ : ∃ L, ((a, b) :: r0).map (cutTo s) = L := ⟨_, rfl⟩
    have hL0 : L[0]? = some (cutTo s (a, b)) := by rw [← hL]; rfl
    rw [hL] at HW hne
    have HL0 := hidden hL0
    have hLl : 1 ≤ L.length := by omega
    have q0 : ((L.length : Int) == 0) = false := by simp; intro e; rw [e] at hLl; simp at hLl
    have hhs := fun (k : Nat) (h1 : k < s.size) (h2 : s[k] ≠ 32) (h3 : wordsAt s k = (a, b) :: r0) => head_start h1 h2 h3
    have HHS := hidden hhs
    generalize cutTo s (a, b) = w0 at *
    generalize behind s (a, b) = be at *
    clear hL hL0 hhs hne
    go_enter Try.func17, Try.ntmps17
    go_wp2_with fail
    refine HW.out.mono ?_
    rintro r w2 ⟨⟨u, rfl, HM⟩, hb⟩
    have hR := StrsM.rd HM.out
    obtain ⟨A, c, rfl, hc1, hc2⟩ := hR.val
    obtain ⟨bb, off, rfl, _, x0⟩ := strs_at hR HL0.out
    rw [Nat.add_zero] at x0
    unfold maxLen at hc2
    clear HW hR HM
    go_wp2
    go_loopw [5] (fun kk wr => ∃ k : Nat, kk = .int .i64 k ∧ k ≤ s.size ∧ Hid (wordsAt s k = (a, b) :: r0) ∧ w2 = wr) (fun kk _ => s.size - (intOf kk).toNat)
    case atStart => exact ⟨0, rfl, by omega, H0, rfl⟩
    case round =>
      clear H0
      obtain ⟨k, rfl, hk, HK, rfl⟩ := hrel
      have hlt := nonempty_lt HK.out
      have hcl := (s[k]'hlt).toNat_lt
      by_cases hc : s[k]'hlt = 32
      · have q : (((s[k]'hlt).toNat : Int) == 32) = true := by rw [hc]; rfl
        have HK2 : Hid (wordsAt s (k + 1) = (a, b) :: r0) := hidden (by rw [← HBl.out k hlt hc]; exact HK.out)
        clear hc
        go_wp2
        go_roundw
        case rel => exact ⟨k + 1, by go_num, by omega, HK2, by trivial⟩
        case measure => simp [intOf]; omega
      · have q := byte_ne hc
        rw [show ((32 : UInt8).toNat : Int) = 32 from rfl] at q
        obtain rfl := HHS.out k hlt hc HK.out
        clear hc HK HHS HBl
        by_cases hbe : b < s.size
        · have qe : ((a : Int) + (w0.size : Int) == (s.size : Int)) = false := by rw [beq_eq_false_iff_ne]; omega
          have e1 : IntKind.i64.wrap ((a : Int) + (w0.size : Int) + 1) = (a : Int) + (w0.size : Int) + 1 := IntWalk.i64_in _ (by omega)
          have e2 : (0 : Int) ≤ (a : Int) + (w0.size : Int) + 1 := by omega
          have e3 : (a : Int) + (w0.size : Int) + 1 ≤ (s.size : Int) := by omega
          have HB := hidden (HBe.out hbe)
          go_wp2_with fail
          refine wp_region_ext (by kernel_rfl) (by kernel_rfl) ?_
          have x1 := Ext.cell x0
          repeat (go_big_quiet_step (fail))
          refine wpQuiet_nil ?_
          intro w3 hb3
          rw [show a + w0.size + 1 = b + 1 by omega]
          clear e1 x1 x0
          go_wp2
          go_ret2
          exact ⟨by rw [← HB.out]; rfl, hb.trans (hb3.mono hb.size)⟩
        · have qe : ((a : Int) + (w0.size : Int) == (s.size : Int)) = true := by rw [beq_iff_eq]; omega
          have HB := hidden (HBe2.out (by omega))
          go_wp2
          go_ret2
          exact ⟨by rw [HB.out]; rfl, hb⟩

set_option maxRecDepth 20000 in
set_option maxHeartbeats 2000000 in
theorem same_strs (a b : Value) (L M : List ByteArray) (w : World) (hA : Strs w (Old w) a L) (hB : Strs w (Old w) b M) :
    Calls Try.prog 18 #[a, b] w fun r w' => r = .returned (.bool (eqB L M)) ∧ Below w.heap.size w w' := by
  obtain ⟨A, c, rfl, hc1, hc2⟩ := hA.val
  obtain ⟨A2, c2, rfl, hd1, hd2⟩ := hB.val
  unfold maxLen at hc2 hd2
  have HA := hidden (fun (w' : World) (hw : Below w.heap.size w w') => Rd.old hA hw)
  have HB := hidden (fun (w' : World) (hw : Below w.heap.size w w') => Rd.old hB hw)
  clear hA hB
  by_cases hlen : L.length = M.length
  · have HT : Hid ((∀ k : Nat, k < L.length → L[k]? = M[k]?) → eqB L M = true) := hidden (fun h => eqB_true (list_ext_of hlen h))
    have HF : Hid ((∃ (k : Nat) (x y : ByteArray), L[k]? = some x ∧ M[k]? = some y ∧ x ≠ y) → eqB L M = false) := hidden (fun ⟨k, x, y, h1, h2, h3⟩ => eqB_false fun e => by
      subst e
      rw [h1] at h2
      exact h3 (Option.some.inj h2))
    generalize eqB L M = r at *
    have hlm : L.length ≤ M.length := by omega
    have q0 : ((L.length : Int) != (M.length : Int)) = false := by simp; omega
    clear hlen
    go_enter Try.func18, Try.ntmps18
    go_wp2
    go_loopw [5] (fun kk wr => ∃ k : Nat, k ≤ L.length ∧ kk = .int .i64 k ∧ Hid (∀ j : Nat, j < k → L[j]? = M[j]?) ∧ Below w.heap.size w wr) (fun kk _ => L.length - (intOf kk).toNat)
    case atStart => exact ⟨0, by omega, rfl, hidden (fun j h => by omega), Below.refl _ _⟩
    case round =>
      obtain ⟨k, hk, rfl, HN, hb⟩ := hrel
      by_cases hlt : k < L.length
      · have hk2 : k < M.length := by omega
        have hx := List.getElem?_eq_getElem hlt
        have hy := List.getElem?_eq_getElem hk2
        generalize L[k] = x at *
        generalize M[k] = y at *
        obtain ⟨b1, o1, rfl, _, x0⟩ := strs_at (HA.out _ hb) hx
        obtain ⟨b2, o2, rfl, _, y0⟩ := strs_at (HB.out _ hb) hy
        have HX := hidden hx
        have HY := hidden hy
        clear hx hy
        have z0 := Ext.cell x0; have z1 := Ext.cell y0
        have hs := strs_eql x y
        go_wp2_with fail
        refine wp_region_ext (by kernel_rfl) (by kernel_rfl) ?_
        repeat (go_big_quiet_step (fail))
        refine wpQuiet_nil ?_
        intro w2 hb2
        clear z0 z1 x0 y0
        replace hb := hb.trans (hb2.mono hb.size)
        by_cases hxy : x = y
        · have HN2 : Hid (∀ j : Nat, j < k + 1 → L[j]? = M[j]?) := hidden (fun j hj => by
            by_cases e : j = k
            · subst e; rw [HX.out, HY.out, hxy]
            · exact HN.out j (by omega))
          rw [eqB_true hxy]
          clear hxy HN HX HY hs
          go_wp2
          go_roundw
          case rel => exact ⟨k + 1, by omega, by go_num, HN2, hb⟩
          case measure => simp [intOf]; omega
        · have HE := hidden (HF.out ⟨k, _, _, HX.out, HY.out, hxy⟩)
          rw [eqB_false hxy]
          clear hxy hs
          go_wp2
          go_ret
          exact ⟨by rw [HE.out]; rfl, hb⟩
      · obtain rfl : k = L.length := by omega
        have HE := hidden (HT.out HN.out)
        go_wp2
        go_ret
        exact ⟨by rw [HE.out]; rfl, hb⟩
  · have q1 : (((L.length : Nat) : Int) != (M.length : Int)) = true := by rw [bne_iff_ne]; omega
    have HE : Hid (eqB L M = false) := hidden (eqB_false (by
      intro e; rw [e] at hlen; exact hlen rfl))
    generalize eqB L M = r at *
    clear hlen
    go_enter Try.func18, Try.ntmps18
    go_wp2
    go_ret
    exact ⟨by rw [HE.out]; rfl, Below.refl _ _⟩
end Go.Proofs.Ytaagkbgbghleiaa
