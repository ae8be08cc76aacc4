/-
  Law TrailBack.
-/
import Derived.Test.YtdbbjlphlbndkaaDoorTrailM
import Derived.Test.YtdbbjlphlbndkaaDoorRows2
namespace Go.Proofs.YtdbbjlphlbndkaaDoor.T
open Go.RowKit Go.Shelf

def pathI (t : List Node) (i : Nat) : List Int := intL (pathN t i)
def pathsTo (t : List Node) (n : Nat) : List (List Int) := (List.range n).map (pathI t)
theorem pathsTo_succ (t : List Node) (n : Nat) : pathsTo t (n + 1) = pathsTo t n ++ [pathI t n] := by
  unfold pathsTo
  rw [List.range_succ, List.map_append]
  rfl
theorem pathsTo_len (t : List Node) (n : Nat) : (pathsTo t n).length = n := by simp [pathsTo]
theorem pathsTo_at (t : List Node) {n i : Nat} (h : i < n) : (pathsTo t n)[i]? = some (pathI t i) := by
  unfold pathsTo
  rw [List.getElem?_map, List.getElem?_range h]
  rfl
theorem path_small {t : List Node} {i : Nat} (ht : Tree t) (hi : i < t.length) : ∀ x ∈ pathN t i, x < t.length := by
  induction i using Nat.strongRecOn with
  | _ i ih =>
    intro x hx
    by_cases h0 : i = 0
    · subst h0; rw [path_zero] at hx; cases hx
    · obtain ⟨a, n, hu, ha, hn⟩ := up_kid ht (by omega) hi
      rw [path_kid ht (by omega) hn] at hx
      rcases List.mem_append.1 hx with hx | hx
      · exact ih a ha (by omega) x hx
      · simp at hx
        subst hx
        have h1 := (List.getElem?_eq_some_iff.1 hn).1
        have h2 := kidsL_len (t := t) a
        have h3 := (tree_node ht (show a < t.length by omega)).2.1
        omega
theorem under_paths {t : List Node} (ht : Tree t) {i k : Nat} (hi : i < t.length) (hk : k < t.length) : underB (pathI t k) (pathI t i) = (decide (i ≤ k) && decide (k < i + sz t i)) := by
  rw [Bool.eq_iff_iff]
  unfold underB pathI
  rw [holdsB_iff, intL_prefix, Bool.and_eq_true, decide_eq_true_eq, decide_eq_true_eq]
  exact ⟨fun h => under_path ht hi k hk h, fun h => path_under ht k hk h.1 h.2⟩
theorem read_path {t : List Node} (ht : Tree t) {i : Nat} (hi : i < t.length) (hl : t.length ≤ 60) : readPath (showPath (pathI t i)) = (pathI t i, 0) :=
  read_show (pathN t i) (fun x hx => by have := path_small ht hi x hx; omega)
theorem showPath_len (l : List Int) (hx : ∀ x ∈ l, x ≤ 9223372036854775807) (hl : l.length ≤ 1000) : (showPath l).length ≤ 21000 := by
  unfold showPath
  split
  · simp
  · split
    · simp
    · have := slashed_len l hx; omega

set_option maxRecDepth 20000 in
set_option maxHeartbeats 16000000 in
theorem law_back (v : Value) (t : List Node) (mx : Int) (w : World) (hN : Nds w (Old w) v t) (hm : w.cell? ⟨0, 0, none⟩ = some (.int .i64 mx)) :
    Calls Tryd.prog 5 #[v] w fun r w' => r = .returned (.bool true) ∧ Below w.heap.size w w' := by
  have HF := hidden (few_any v t w hN)
  have HKn := hidden (fun (w' : World) (hb : Below w.heap.size w w') => knows32 mx w' (Ext.cell hm ⟨w', hb⟩))
  have HRd := hidden (fun (s : ByteArray) (w' : World) (hb : Below w.heap.size w w') (hs : s.size ≤ 1000000) => trail_Read s mx w' hs (Ext.cell hm ⟨w', hb⟩))
  have HN := hidden (fun (w' : World) (hw : Below w.heap.size w w') => hN.old hw)
  obtain ⟨A0, c0, rfl, hc1, hc2⟩ := hN.value
  unfold maxLen at hc2
  have hb0 := Below.refl w.heap.size w
  clear hm
  cases hf : fewB t with
  | false =>
    rw [hf] at HF
    clear hf hN
    go_enter Tryd.func5, Tryd.ntmps5
    go_wp2_with fail
    refine HF.out.mono ?_
    rintro r w2 ⟨rfl, hb⟩
    go_wp2_with fail
    refine (HKn.out w2 hb).mono ?_
    rintro r w3 ⟨rfl, hb3⟩
    go_wp2
    go_ret
    exact ⟨rfl, hb.trans (hb3.mono hb.size)⟩
  | true =>
    rw [hf] at HF
    clear hf
    by_cases h1 : t.length ≤ 60
    · have q1 : decide (60 < (t.length : Int)) = false := decide_eq_false (by omega)
      have h4 : t.length ≤ 140737488355 := by omega
      have HTr := hidden (fun (w' : World) (hw : Below w.heap.size w w') => ref_right _ t w' (by omega) (HN.out w' hw))
      cases ht : treeB t with
      | false =>
        rw [ht] at HTr
        clear hN
        go_enter Tryd.func5, Tryd.ntmps5
        go_wp2_with fail
        refine HF.out.mono ?_
        rintro r w2 ⟨rfl, hb⟩
        go_wp2_with fail
        refine (HTr.out _ hb).mono ?_
        rintro r w3 ⟨rfl, hb3⟩
        replace hb := hb.trans (hb3.mono hb.size)
        go_wp2_with fail
        refine (HKn.out _ hb).mono ?_
        rintro r w3 ⟨rfl, hb3⟩
        go_wp2
        go_ret
        exact ⟨rfl, hb.trans (hb3.mono hb.size)⟩
      | true =>
        rw [ht] at HTr
        have hT := treeB_iff.1 ht
        have HT := hidden hT
        obtain ⟨nb, noff, nc, hv, _, _, hnT, _⟩ := hN.open_ (by intro e; subst e; exact absurd (tree_len hT) (by simp))
        simp only [Value.slice.injEq] at hv
        obtain ⟨rfl, _, rfl⟩ := hv
        have HSz := hidden (fun (w' : World) (hb : Below w.heap.size w w') (k : Nat) (hk : k < t.length) => (HN.out w' hb).size_cell hT hk)
        have HOf := hidden (fun (w' : World) (hw : Below w.heap.size w w') (i : Nat) => trail_Of _ t (i : Int) w' h4 (HN.out w' hw))
        have HFi := hidden (fun (w' : World) (hw : Below w.heap.size w w') (u : Value) (l : List Int) (hu : Ints w' (Old w') u l) => trail_Find _ u t l w' h4 (HN.out w' hw) hu)
        have hpt := hidden (fun (i : Nat) (hi : i < t.length) => (by unfold pathOf; rw [if_pos (placeB_iff.2 ⟨by omega, by omega, hT⟩), Int.toNat_natCast] : pathOf t (i : Int) = pathN t i))
        have hFt := hidden (fun (i : Nat) (hi : i < t.length) => (show findT t (pathI t i) = ((i : Int), true) from findT_path hT hi))
        have hPl := hidden (fun (i : Nat) (hi : i < t.length) => (placeB_iff.2 ⟨by omega, by omega, hT⟩ : placeB t (i : Int) = true))
        have hRP := hidden (fun (i : Nat) (hi : i < t.length) => read_path hT hi h1)
        have hBd := hidden (fun (i : Nat) (hi : i < t.length) => (fun x hx => by
          obtain ⟨y, hy, rfl⟩ := List.mem_map.1 hx
          have := path_small hT hi y hy
          omega : ∀ x ∈ pathI t i, x ≤ 9223372036854775807))
        have hLn := hidden (fun (i : Nat) (hi : i < t.length) => (by
          have := path_len (t := t) i
          show (intL (pathN t i)).length ≤ 60
          simp [intL]; omega : (pathI t i).length ≤ 60))
        have hUn := hidden (fun (i k : Nat) (hi : i < t.length) (hk : k < t.length) => under_paths hT hi hk)
        have hSzl := hidden (fun (i : Nat) (hi : i < t.length) => (tree_node hT hi).2.1)
        clear hT ht hN
        go_enter Tryd.func5, Tryd.ntmps5
        go_wp2_with fail
        refine HF.out.mono ?_
        rintro r w2 ⟨rfl, hb⟩
        go_wp2_with fail
        refine (HTr.out _ hb).mono ?_
        rintro r w3 ⟨rfl, hb3⟩
        replace hb := hb.trans (hb3.mono hb.size)
        clear hb3 HF HTr
        have HM0 : Hid (Rows2M (fun _ => False) (w3.alloc (.cells #[] 22)) w.heap.size (.slice (some ⟨w3.heap.size, 0, none⟩) 0 0) (pathsTo t 0)) := hidden (Rows2M.empty _ _ _ (fun q hq => by simp [Value.ownBlock] at hq; subst hq; exact ⟨id, by simp⟩))
        replace hb := hb.alloc hb.size (.cells #[] 22)
        go_wp2
        go_loopg [3, 4] t.length (fun gh pp ii wr => ∃ i : Nat, i ≤ t.length ∧ gh = t.length - i ∧ ii = .int .i64 i ∧ Hid (Rows2M (fun _ => False) wr w.heap.size pp (pathsTo t i)) ∧ Below w.heap.size w wr)
        case atStart => exact ⟨0, by omega, by omega, rfl, HM0, hb⟩
        case round =>
          clear HM0 hb
          obtain ⟨i, hi, rfl, rfl, HM, hb⟩ := hrel
          have hbz := hb.size
          obtain ⟨Ao, co, hov⟩ := HM.out.value
          rw [pathsTo_len] at hov
          subst hov
          by_cases hlt : i < t.length
          · have HC1 := hidden (HOf.out _ hb i)
            rw [hpt.out i hlt, hPl.out i hlt] at HC1
            have hln := hLn.out i hlt
            have hFti := hFt.out i hlt
            have hRPi := hidden (hRP.out i hlt)
            have hBdi := hidden (hBd.out i hlt)
            have hSl := showPath_len _ hBdi.out (by omega)
            have hPs := hidden (pathsTo_succ t i)
            have hPln := pathsTo_len t i
            go_wp2_with fail
            refine HC1.out.mono ?_
            rintro r w5 ⟨⟨u5, rfl, hu5⟩, hb5⟩
            have HU : Hid (Rd w5 (fun k => wr.heap.size ≤ k ∧ k < w5.heap.size) 1 u5 (pathI t i).length ((pathI t i).flatMap (one1 intV))) := hidden (by
              have h := hu5.out.rd (T := fun k => wr.heap.size ≤ k ∧ k < w5.heap.size) (fun g _ h1 h2 => ⟨h1, h2⟩)
              rw [ints_intL] at h
              rw [show (pathI t i).length = (pathN t i).length by simp [pathI, intL]]
              exact h)
            have HB5 := hidden (hb.trans (hb5.mono hb.size))
            have HBr := hidden hb5
            have HUi := hidden (HU.out.mono (fun k hk => hk.2) : Ints w5 (Old w5) u5 (pathI t i))
            have HC2 := hidden (HFi.out _ HB5.out u5 (pathI t i) HUi.out)
            rw [hFti] at HC2
            clear HC1 hu5 hFti hb5
            go_wp2_with fail
            refine HC2.out.mono ?_
            rintro r w6 ⟨rfl, hb6⟩
            replace HB5 := hidden (HB5.out.trans (hb6.mono HB5.out.size))
            replace HBr := hidden (HBr.out.trans (hb6.mono HBr.out.size))
            replace HUi := hidden (Rd.old HUi.out hb6)
            replace HU := hidden (Rd.keeps HU.out (Keeps.of_below hb6))
            have hz6 := hb6.size
            have HC3 := hidden (trail_Show u5 (pathI t i) w6 HUi.out (by omega) hBdi.out)
            generalize pathI t i = PI at *
            have HSB := hidden (rfl : (⟨(showPath PI).toArray⟩ : ByteArray).data.toList = showPath PI)
            have HC4 := hidden (fun (w' : World) (hw : Below w.heap.size w w') => HRd.out ⟨(showPath PI).toArray⟩ w' hw (by rw [bytes_size]; omega))
            rw [HSB.out, hRPi.out] at HC4
            generalize (⟨(showPath PI).toArray⟩ : ByteArray) = sp at *
            clear HC2 hb6 HSB hSl hRPi
            go_wp2_with fail
            refine HC3.out.mono ?_
            rintro r w7 ⟨rfl, hb7⟩
            replace HB5 := hidden (HB5.out.trans (hb7.mono HB5.out.size))
            replace HBr := hidden (HBr.out.trans (hb7.mono HBr.out.size))
            replace HUi := hidden (Rd.old HUi.out hb7)
            replace HU := hidden (Rd.keeps HU.out (Keeps.of_below hb7))
            have hz7 := hb7.size
            clear HC3 hb7
            go_wp2_with fail
            refine (HC4.out _ HB5.out).mono ?_
            rintro r w8 ⟨⟨u8, rfl, hu8⟩, hb8⟩
            replace HB5 := hidden (HB5.out.trans (hb8.mono HB5.out.size))
            replace HBr := hidden (HBr.out.trans (hb8.mono HBr.out.size))
            replace HUi := hidden (Rd.old HUi.out hb8)
            replace HU := hidden (Rd.keeps HU.out (Keeps.of_below hb8))
            have hz8 := hb8.size
            have HC5 := hidden (Go.Proofs.YtdbbjlphlbndkaaDoor.same_ints _ _ _ _ _ HUi.out hu8.out)
            rw [Go.Proofs.YtdbbjlphlbndkaaDoor.eqB_self] at HC5
            have q5 : ((i : Int) != (i : Int)) = false := by simp
            clear HC4 hb8 hu8
            go_wp2_with fail
            refine HC5.out.mono ?_
            rintro r w9 ⟨rfl, hb9⟩
            have hB9 := HB5.out.trans (hb9.mono HB5.out.size)
            have hBr9 := HBr.out.trans (hb9.mono HBr.out.size)
            have HM9 := hidden (Rows2M.below HM.out hBr9)
            have hz9 := hb9.size
            have HU9 : Hid (Ints w9 (fun b => b < w9.heap.size ∧ (Value.slice Ao i co).ownBlock ≠ some b ∧ ¬ False) u5 PI) := hidden ((Rd.keeps HU.out (Keeps.of_below hb9)).mono (fun k hk => by
              refine ⟨by omega, fun e => ?_, id⟩
              obtain ⟨_, _, _, h3, _⟩ := HM.out
              have := (h3 k e).2
              omega))
            have hbz9 := hB9.size
            obtain ⟨A5, c5, rfl, _, _⟩ := HUi.out.val
            clear HC5 hb9 HB5 HBr HUi HM HU hz6 hz7 hz8 hz9 hBr9
            go_wp2_with (at_builtin; refine wpList_append_ii (X := fun _ => False) rfl _ _ rfl w.heap.size _ _ HM9 _ PI HU9 rfl rfl rfl (by first | rfl | simp) (by omega) hbz9 (fun k h => h.elim) ?_; intro v' w' hA hb10 hK)
            go_roundg (t.length - (i + 1))
            case measure => omega
            case rel => exact ⟨i + 1, by omega, rfl, by go_num, by rw [hPs.out]; exact hA, hB9.trans hb10⟩
          · obtain rfl : i = t.length := by omega
            have hAt := hidden (fun (k : Nat) (hk : k < t.length) => pathsTo_at t hk)
            have HRw := hidden (Rows2M.old HM.out)
            obtain ⟨W, hW⟩ : ∃ W, W = wr := ⟨_, rfl⟩
            rw [← hW] at HRw hb ⊢
            clear HM hbz hW HOf HFi HRd hpt hFt hPl hRP hBd hLn
            generalize pathsTo t t.length = F at *
            have hb0' := Below.refl W.heap.size W
            go_wp2
            go_loopg [11] t.length (fun gh ii wx => ∃ r : Nat, r ≤ t.length ∧ gh = t.length - r ∧ ii = .int .i64 r ∧ Below W.heap.size W wx)
            case atStart => exact ⟨0, by omega, by omega, rfl, hb0'⟩
            case round =>
              clear hb0'
              obtain ⟨r, hr, rfl, rfl, hbx⟩ := hrel
              by_cases hltr : r < t.length
              · have hb1 := hbx
                obtain ⟨W1, hW1⟩ : ∃ W1, W1 = wr := ⟨_, rfl⟩
                rw [← hW1] at hb1 hbx ⊢
                clear hW1
                go_wp2
                go_loopg [12] t.length (fun gh ii wx => ∃ k : Nat, k ≤ t.length ∧ gh = t.length - k ∧ ii = .int .i64 k ∧ Below W.heap.size W wx)
                case atStart => exact ⟨0, by omega, by omega, rfl, hb1⟩
                case round =>
                  clear hb1
                  obtain ⟨k, hk, rfl, rfl, hbk⟩ := hrel
                  by_cases hltk : k < t.length
                  · have hbw := hb.trans (hbk.mono hb.size)
                    obtain ⟨b1, o1, uk, hbe, _, x0, RK⟩ := Rows2.row (Recs.old HRw.out hbk) (hAt.out k hltk)
                    obtain ⟨b2, o2, ur, hbe2, _, y0, RR⟩ := Rows2.row (Recs.old HRw.out hbk) (hAt.out r hltr)
                    subst hbe
                    cases hbe2
                    have s0 := HSz.out _ hbw r hltr
                    have hU := hUn.out r k hltr hltk
                    have HC := hidden (fun (x : Ext wr) => trail_Under uk ur _ _ x.w (Rd.old RK x.below) (Rd.old RR x.below))
                    have hszl := hSzl.out r hltr
                    have z0 := Ext.cell x0; have z1 := Ext.cell y0; have z2 := Ext.cell s0
                    by_cases hrk : r ≤ k
                    · have q5 : decide ((r : Int) ≤ (k : Int)) = true := decide_eq_true (by omega)
                      have hU2 : underB (pathI t k) (pathI t r) = decide ((k : Int) < (r : Int) + (sz t r : Int)) := by
                        rw [hU, decide_eq_true hrk, Bool.true_and]
                        rw [Bool.eq_iff_iff, decide_eq_true_eq, decide_eq_true_eq]
                        omega
                      rw [hU2] at HC
                      have hbb : ((decide ((k : Int) < (r : Int) + (sz t r : Int))) != (decide ((k : Int) < (r : Int) + (sz t r : Int)))) = false := by simp
                      clear hU hU2 RK RR
                      go_wp2_with fail
                      refine wp_region_ext (by kernel_rfl) (by kernel_rfl) ?_
                      repeat (go_big_quiet_step ((go_at_call 13; exact Ext.call (HC.out _))))
                      refine wpQuiet_nil ?_
                      intro w2 hb2
                      clear z0 z1 z2 x0 y0 s0 HC
                      replace hbk := hbk.trans (hb2.mono hbk.size)
                      clear hb2
                      go_wp2
                      go_roundg (t.length - (k + 1))
                      case measure => omega
                      case rel => exact ⟨k + 1, by omega, rfl, by go_num, hbk⟩
                    · have q5 : decide ((r : Int) ≤ (k : Int)) = false := decide_eq_false (by omega)
                      have hU2 : underB (pathI t k) (pathI t r) = false := by
                        rw [hU, decide_eq_false hrk, Bool.false_and]
                      rw [hU2] at HC
                      clear hU hU2 RK RR z2
                      go_wp2_with fail
                      refine wp_region_ext (by kernel_rfl) (by kernel_rfl) ?_
                      repeat (go_big_quiet_step ((go_at_call 13; exact Ext.call (HC.out _))))
                      refine wpQuiet_nil ?_
                      intro w2 hb2
                      clear z0 z1 x0 y0 s0 HC
                      replace hbk := hbk.trans (hb2.mono hbk.size)
                      clear hb2
                      go_wp2
                      go_roundg (t.length - (k + 1))
                      case measure => omega
                      case rel => exact ⟨k + 1, by omega, rfl, by go_num, hbk⟩
                  · obtain rfl : k = t.length := by omega
                    go_wp2
                    go_roundg (t.length - (r + 1))
                    case measure => omega
                    case rel => exact ⟨r + 1, by omega, rfl, by go_num, hbk⟩
              · obtain rfl : r = t.length := by omega
                have hbw := hb.trans (hbx.mono hb.size)
                go_wp2_with fail
                refine (HKn.out _ hbw).mono ?_
                rintro r w3 ⟨rfl, hb3⟩
                go_wp2
                go_ret
                exact ⟨rfl, hbw.trans (hb3.mono hbw.size)⟩
    · have q1 : decide (60 < (t.length : Int)) = true := decide_eq_true (by omega)
      clear hN
      go_enter Tryd.func5, Tryd.ntmps5
      go_wp2_with fail
      refine HF.out.mono ?_
      rintro r w2 ⟨rfl, hb⟩
      go_wp2_with fail
      refine (HKn.out _ hb).mono ?_
      rintro r w3 ⟨rfl, hb3⟩
      go_wp2
      go_ret
      exact ⟨rfl, hb.trans (hb3.mono hb.size)⟩
end Go.Proofs.YtdbbjlphlbndkaaDoor.T
