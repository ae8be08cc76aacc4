/-
  PlaceBack: the walk.
-/
import Derived.Test.YtmgpfldlngjekaaPlaceBack

namespace Go.Proofs.Ytmgpfldlngjekaa
open Go.RowKit Go.Shelf

def WasOk (s : ByteArray) (k L C : Nat) : Prop := (k = 0 ∧ L = 0 ∧ C = 0) ∨ ∃ j, k = j + 1 ∧ atFrom 0 (j : Int) (lineSpans s) = some ((L : Int), (C : Int))

/-- A next place's line and column against those of the one ahead. -/
theorem was_next (s : ByteArray) (k L C WL WC : Nat) (hk : k ≤ s.size) (h : WasOk s k WL WC) (hx : atFrom 0 (k : Int) (lineSpans s) = some ((L : Int), (C : Int))) :
    ¬ (L = WL ∧ C = WC) ∧ ¬ L < WL ∧ ¬ nls s.data.toList + 1 < L := by
  obtain ⟨L', C', h1, h2, h3⟩ := spot_of s k hk
  rw [hx] at h1
  simp only [Option.some.injEq, Prod.mk.injEq] at h1
  have hL : L = L' := by omega
  have hC : C = C' := by omega
  subst hL hC
  have htop := nls_top s.data.toList k
  refine ⟨?_, ?_, by omega⟩
  · rintro ⟨rfl, rfl⟩
    rcases h with ⟨_, h, _⟩ | ⟨j, rfl, hj⟩
    · omega
    · have := placeNo_some hj
      rw [h2] at this
      simp at this
      omega
  · rcases h with ⟨_, h, _⟩ | ⟨j, rfl, hj⟩
    · omega
    · obtain ⟨L', C', g1, g2, g3⟩ := spot_of s j (by omega)
      rw [hj] at g1
      simp only [Option.some.injEq, Prod.mk.injEq] at g1
      have := nls_mono s.data.toList j (j + 1) (by omega)
      omega

theorem cat_list (a b : ByteArray) : (a ++ b).data.toList = a.data.toList ++ b.data.toList := by rw [ByteArray.data_append, Array.toList_append]
theorem same_list {a b : ByteArray} (h : a.data.toList = b.data.toList) : a = b := by
  obtain ⟨⟨la⟩⟩ := a; obtain ⟨⟨lb⟩⟩ := b
  simp at h; subst h; rfl

theorem back_long (s : ByteArray) (w : World) (h : 200 < s.size) :
    Calls Try.prog 7 #[.string s] w fun e w' => e = .returned (.bool true) ∧ Below w.heap.size w w' := by
  go_enter Try.func7, Try.ntmps7
  go_wp2_with (go_at_call 10; refine (knows _).mono ?_; rintro e w3 ⟨rfl, hb3⟩)
  go_ret
  exact ⟨rfl, hb3⟩

set_option maxHeartbeats 4000000 in
theorem back_short (s : ByteArray) (w : World) (h : ¬ 200 < s.size) :
    Calls Try.prog 7 #[.string s] w fun e w' => e = .returned (.bool true) ∧ Below w.heap.size w w' := by
  have hs : s.size ≤ 140737488355328 := by omega
  have hnl : nls s.data.toList ≤ s.size := by rw [Lib.size_eq]; exact nls_le _
  obtain ⟨N, hN⟩ : ∃ N, nls s.data.toList + 1 = N := ⟨_, rfl⟩
  have HLn := hidden (fun w => place_LinesB s w hs (N : Int) (by omega))
  have HN := hidden hN
  have hN1 : 1 ≤ N ∧ N ≤ 201 := by omega
  clear hN hnl
  go_enter Try.func7, Try.ntmps7
  go_wp2_with fail
  have q0 := Holds.new w 35 #[.int .i64 0, .int .i64 0]
  have hb := (Below.refl w.heap.size w).alloc (Nat.le_refl _) (.cells #[.int .i64 0, .int .i64 0] 35)
  generalize w.alloc (.cells #[.int .i64 0, .int .i64 0] 35) = W0 at *
  go_loopw [4] (fun i wr => ∃ k WL WC : Nat, k ≤ s.size + 1 ∧ i = .int .i64 k ∧ Holds wr w.heap.size 35 #[.int .i64 WL, .int .i64 WC] ∧ Below w.heap.size w wr ∧ Hid (WasOk s k WL WC))
    (fun i _ => s.size + 1 - (intOf i).toNat)
  case atStart => exact ⟨0, 0, 0, by omega, rfl, q0, hb, hidden (.inl ⟨rfl, rfl, rfl⟩)⟩
  case round =>
    clear q0 hb
    obtain ⟨k, WL, WC, hk, rfl, q0, hb, hw⟩ := hrel
    by_cases hlt : k ≤ s.size
    · obtain ⟨L, C, h1, h2, h3⟩ := spot_of s k hlt
      obtain ⟨n1, n2, n3⟩ := was_next s k L C WL WC hlt hw.out h1
      rw [HN.out] at n3
      have HX := hidden h1
      have HA := hidden (fun w => congrArg spotV h1 ▸ place_At s k w hs)
      have HO := hidden (fun w => congrArg intOkV h2 ▸ place_Of s L C w hs (by omega) (by have := nls_top s.data.toList k; have := HN.out; omega))
      simp only [spotV, intOkV] at HA HO
      have hL : L ≤ 9223372036854775807 := by have := nls_top s.data.toList k; have := HN.out; omega
      clear h1 h2 h3
      go_wp2_with fail
      refine (HA.out _).mono ?_
      rintro e w1 ⟨rfl, hb_w1⟩
      replace hb := hb.trans (hb_w1.mono hb.size)
      replace q0 := q0.below hb_w1 q0.lt
      clear hb_w1
      go_wp2_with fail
      have q1 := Holds.new w1 35 #[.int .i64 L, .int .i64 C]
      replace q0 := q0.alloc (.cells #[.int .i64 L, .int .i64 C] 35)
      replace hb := hb.alloc hb.size (.cells #[.int .i64 L, .int .i64 C] 35)
      generalize hw1 : w1.alloc (.cells #[.int .i64 L, .int .i64 C] 35) = W1 at *
      have c0 := q1.c20; have c1 := q1.c21
      refine (HO.out _).mono ?_
      rintro e w2 ⟨rfl, hb2⟩
      replace hb := hb.trans (hb2.mono hb.size)
      replace q0 := q0.below hb2 q0.lt; replace q1 := q1.below hb2 q1.lt
      clear hb2 c0 c1 hw1
      go_wp2_with fail
      have x0 := Ext.cell q0.c20; have x1 := Ext.cell q0.c21; have x2 := Ext.cell q1.c20; have x3 := Ext.cell q1.c21
      have k1 : decide (L < WL) = false := by simp; omega
      have k2 : decide (N < L) = false := by simp; omega
      have HW := hidden n1
      by_cases hLW : L = WL
      · have k3 : ((C : Int) == (WC : Int)) = false := by rw [beq_eq_false_iff_ne]; intro e; exact HW.out ⟨hLW, by omega⟩
        have k4 : (C == WC) = false := by rw [beq_eq_false_iff_ne]; intro e; exact HW.out ⟨hLW, e⟩
        subst hLW
        clear n1 n2 n3
        refine wp_region_ext (by kernel_rfl) (by kernel_rfl) ?_
        repeat (go_big_quiet_step ((go_at_call 25; exact Ext.call (HLn.out _))))
        refine wpQuiet_nil ?_
        intro w3 hb3
        clear x0 x1 x2 x3 k1 k2 k3 k4 HLn HW
        replace hb := hb.trans (hb3.mono hb.size)
        replace q0 := q0.below hb3 q0.lt; replace q1 := q1.below hb3 q1.lt
        clear hb3
        have c0 := q0.c20; have c1 := q0.c21; have c2 := q1.c20; have c3 := q1.c21
        have f0 := q0.frozen 0; have f1 := q0.frozen 1
        go_wp2
        refine ⟨⟨k + 1, L, C, by omega, by go_num, ?_, (by repeat (first | (with_reducible exact Below.refl _ _) | (with_reducible assumption) | (with_reducible refine Below.drew ?_) | ((with_reducible refine below_alloc ?_ ?_); (focus (first | omega | (simp; done) | (simp; omega)))) | ((with_reducible refine below_set ?_ ?_); (focus (first | omega | (simp; done) | (simp; omega)))))), hidden (.inr ⟨k, rfl, HX.out⟩)⟩, by simp [intOf]; omega⟩
        (apply Holds.of_eq; focus (repeat (first | (with_reducible assumption) | ((with_reducible apply holds_new); (focus (first | rfl | (simp; done)))) | (with_reducible apply holds_set) | ((with_reducible apply holds_far); (focus (first | omega | (simp; done) | (simp; omega)))) | (with_reducible apply Holds.alloc) | (with_reducible apply Holds.drew))))
        rfl
      · have k3 : ((L : Int) == (WL : Int)) = false := by rw [beq_eq_false_iff_ne]; omega
        have k4 : (L == WL) = false := by rw [beq_eq_false_iff_ne]; exact hLW
        clear n1 n2 n3
        refine wp_region_ext (by kernel_rfl) (by kernel_rfl) ?_
        repeat (go_big_quiet_step ((go_at_call 25; exact Ext.call (HLn.out _))))
        refine wpQuiet_nil ?_
        intro w3 hb3
        clear x0 x1 x2 x3 k1 k2 k3 k4 HLn HW
        replace hb := hb.trans (hb3.mono hb.size)
        replace q0 := q0.below hb3 q0.lt; replace q1 := q1.below hb3 q1.lt
        clear hb3
        have c0 := q0.c20; have c1 := q0.c21; have c2 := q1.c20; have c3 := q1.c21
        have f0 := q0.frozen 0; have f1 := q0.frozen 1
        go_wp2
        refine ⟨⟨k + 1, L, C, by omega, by go_num, ?_, (by repeat (first | (with_reducible exact Below.refl _ _) | (with_reducible assumption) | (with_reducible refine Below.drew ?_) | ((with_reducible refine below_alloc ?_ ?_); (focus (first | omega | (simp; done) | (simp; omega)))) | ((with_reducible refine below_set ?_ ?_); (focus (first | omega | (simp; done) | (simp; omega)))))), hidden (.inr ⟨k, rfl, HX.out⟩)⟩, by simp [intOf]; omega⟩
        (apply Holds.of_eq; focus (repeat (first | (with_reducible assumption) | ((with_reducible apply holds_new); (focus (first | rfl | (simp; done)))) | (with_reducible apply holds_set) | ((with_reducible apply holds_far); (focus (first | omega | (simp; done) | (simp; omega)))) | (with_reducible apply Holds.alloc) | (with_reducible apply Holds.drew))))
        rfl
    · have hkd : decide (k ≤ s.size) = false := by simp; omega
      clear hw q0
      obtain ⟨K, hK⟩ : ∃ K, K = k := ⟨_, rfl⟩
      have HKK := hidden hK
      clear hK
      go_wp2_with fail
      go_loopw [9, 10] (fun all i wr => ∃ (k : Nat) (A : ByteArray), k < N + 1 ∧ i = .int .i64 ((k + 1 : Nat) : Int) ∧ all = .string A ∧ A.size ≤ s.size ∧ Hid (A.data.toList = joined s k) ∧ Below w.heap.size w wr)
        (fun _ i _ => N + 1 - (intOf i).toNat)
      case atStart => exact ⟨0, ⟨#[]⟩, by omega, rfl, rfl, Nat.zero_le _, hidden rfl, hb⟩
      case round =>
        clear hb
        obtain ⟨k, A, hk, rfl, rfl, hA, HA, hb⟩ := hrel
        have hb0 := hidden hb
        by_cases hlt : k < N
        · obtain ⟨f, t, e1, hft, hts, e2⟩ := joined_succ s k (by rw [HN.out]; exact hlt)
          have HI := hidden (fun w => congrArg (lineV s) e1 ▸ place_Line s ((k + 1 : Nat) : Int) w hs (by omega) (by omega))
          simp only [lineV] at HI
          have hl := joined_len s (k + 1) (by rw [HN.out]; omega)
          have E2 := hidden e2
          have HJ := hidden hl
          clear e1 e2 hl hb
          go_wp2_with fail
          refine (HLn.out _).mono ?_
          rintro e w1 ⟨rfl, hb1⟩
          have hb := hb0.out.trans (hb1.mono hb0.out.size)
          clear hb1 hb0
          have k1 : k + 1 ≤ N := by omega
          go_wp2_with fail
          refine (HI.out _).mono ?_
          rintro e w2 ⟨rfl, hb2⟩
          replace hb := hb.trans (hb2.mono hb.size)
          clear hb2 HI
          have hext : (s.extract f t).size ≤ s.size := by rw [Lib.size_eq, Lib.extract_data, List.length_take, List.length_drop, ← Lib.size_eq]; omega
          generalize s.extract f t = x at *
          by_cases hk0 : k = 0
          · subst hk0
            go_wp2
            have hA0 : A = ⟨#[]⟩ := same_list (by rw [HA.out]; rfl)
            subst hA0
            have hx : ((⟨#[]⟩ : ByteArray) ++ x).data.toList = x.data.toList := by rw [cat_list]; rfl
            go_roundw
            case rel =>
              refine ⟨1, _, by omega, by go_num, rfl, ?_, hidden ?_, hb⟩
              · rw [Lib.size_eq, hx, ← Lib.size_eq]; exact hext
              · rw [hx, E2.out]; simp
            case measure => simp [intOf]; omega
          · have k2 : 1 < k + 1 := by omega
            go_wp2
            have e3 := E2.out
            rw [if_neg hk0, ← HA.out] at e3
            have hx : (A ++ (⟨#[10]⟩ : ByteArray) ++ x).data.toList = joined s (k + 1) := by rw [cat_list, cat_list, e3]; simp
            go_roundw
            case rel =>
              refine ⟨k + 1, _, by omega, by go_num, rfl, ?_, hidden hx, hb⟩
              rw [Lib.size_eq, hx]
              exact HJ.out
            case measure => simp [intOf]; omega
        · obtain rfl : k = N := by omega
          have hAs : A = s := same_list (by rw [HA.out, ← HN.out]; exact joined_all s)
          have k1 : ¬ k + 1 ≤ k := by omega
          clear HN
          go_wp2_with fail
          refine (HLn.out _).mono ?_
          rintro e w1 ⟨rfl, hb1⟩
          replace hb := hb.trans (hb1.mono hb.size)
          clear hb1 hb0
          go_wp2_with (go_at_call 10; refine (knows _).mono ?_; rintro e w3 ⟨rfl, hb3⟩)
          go_ret
          exact ⟨rfl, hb.trans (hb3.mono hb.size)⟩

theorem law_back (s : ByteArray) (w : World) :
    Calls Try.prog 7 #[.string s] w fun e w' => e = .returned (.bool true) ∧ Below w.heap.size w w' := by
  by_cases h : 200 < s.size
  · exact back_long s w h
  · exact back_short s w h
end Go.Proofs.Ytmgpfldlngjekaa
