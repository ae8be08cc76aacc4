/-
  The document's Count.
-/
import Derived.Test.YtbjheaiiajpifaaSameF
namespace Go.Proofs.Ytbjheaiiajpifaa.T
open Go.RowKit Go.Shelf

theorem changed_three (ts : List Token) (a b : List Node) (i : Nat) : changedD a b i = (diffD ts a b 3 i || (diffD ts a b 2 i || diffD ts a b 1 i)) := by
  show (textsD a b i || blanksD a b i) = (textsD a b i || (notesD ts a b i || blanksD a b i))
  congr 1
  unfold notesD blanksD
  split
  · rename_i x y _ _
    by_cases h : x.lead = y.lead
    · rw [h, eqB_self, eqB_self]; rfl
    · rw [eqB_false h]; simp
  · rfl

set_option maxRecDepth 20000 in
set_option maxHeartbeats 8000000 in
theorem ref_Count40 (va vb a' b' c' : Value) (g : Gram) (a b : List Node) (w : World) (HG : GramIs w (Old w) a' b' c' g) (hA : Nds w (Old w) va a) (hB : Nds w (Old w) vb b) (ka : NdsOk a) (kb : NdsOk b) :
    Calls Try.prog 19 #[.agg (gramCells a' b' c' g), va, vb] w fun r w' => r = .returned (.int .i64 (dCount g.toks a b)) ∧ Below w.heap.size w w' := by
  have k1 := ka.len
  have k2 := kb.len
  have HR1 := hidden (fun (w' : World) (hb : Below w.heap.size w w') => ref_right va a w' (by omega) (hA.old hb))
  have HR2 := hidden (fun (w' : World) (hb : Below w.heap.size w w') => ref_right vb b w' (by omega) (hB.old hb))
  have HDi := hidden (fun (w' : World) (hb : Below w.heap.size w w') => ref_Diff40 va vb a' b' c' g a b w' (HG.later hb) (hA.old hb) (hB.old hb) ka kb)
  have HDf := hidden (fun (w' : World) (how i : Nat) (hb : Below w.heap.size w w') (h1 : i < min a.length b.length) (hh : 1 ≤ how ∧ how ≤ 4) => ref_differ va vb a' b' c' g a b how i w' (HG.later hb) (hA.old hb) (hB.old hb) ka kb (by omega) (by omega) hh)
  obtain ⟨A0, c0, rfl, _, _⟩ := HG.1.value
  obtain ⟨A8, c8, rfl, _, _⟩ := HG.2.1.val
  obtain ⟨A9, c9, rfl, _, _⟩ := HG.2.2.value
  obtain ⟨A1, c1, rfl, d1, e1⟩ := hA.value
  obtain ⟨A2, c2, rfl, d2, e2⟩ := hB.value
  unfold maxLen at e1 e2
  have HCs : Hid (∀ n, countN (changedD a b) (n + 1) = countN (changedD a b) n + if changedD a b n = true then 1 else 0) := hidden (fun n => rfl)
  have HCh := hidden (changed_three g.toks a b)
  have HCl := hidden (countN_le (changedD a b))
  have hmin : ((b.length : Int) < (a.length : Int) ∧ min a.length b.length = b.length) ∨ (¬ ((b.length : Int) < (a.length : Int)) ∧ min a.length b.length = a.length) := by omega
  have hb0 : Below w.heap.size w (w.alloc (.cells #[.slice A0 g.toks.length c0, .slice A8 g.rules.length c8, .slice A9 g.prods.length c9, .int .i64 g.start, .int .i64 g.states, .int .i64 g.text, .int .i64 g.nodes, .int .i64 g.pairs] 26)) := (by repeat (first | (with_reducible exact Below.refl _ _) | (with_reducible assumption) | (with_reducible refine Below.drew ?_) | (with_reducible refine below_drewN ?_ _) | ((with_reducible refine below_alloc ?_ ?_); (focus (first | omega | (simp; done) | (simp; omega)))) | ((with_reducible refine below_set ?_ ?_); (focus (first | omega | (simp; done) | (simp; omega))))))
  have HB0 := hidden (Holds.new w 26 #[.slice A0 g.toks.length c0, .slice A8 g.rules.length c8, .slice A9 g.prods.length c9, .int .i64 g.start, .int .i64 g.states, .int .i64 g.text, .int .i64 g.nodes, .int .i64 g.pairs])
  unfold gramCells at HDf HDi ⊢
  unfold dHow dPath bothB at HDi
  unfold dCount bothB
  generalize firstD40 g.toks a b = R at *
  generalize diffD g.toks a b = D at *
  generalize changedD a b = Dc at *
  generalize min a.length b.length = n at *
  clear HG hA hB
  cases ha : treeB a with
  | false =>
    rw [ha] at HR1
    rw [Bool.false_and, if_neg (by decide)]
    clear HR2 HDf HDi
    go_enter Try.func19, Try.ntmps19
    go_wp2_with fail
    refine (HR1.out _ hb0).mono ?_
    rintro r w2 ⟨rfl, hb2⟩
    replace hb0 := below_more hb0 hb2
    go_wp2
    go_ret
    exact ⟨rfl, hb0⟩
  | true =>
    rw [ha] at HR1 HDi
    cases hbb : treeB b with
    | false =>
      rw [hbb] at HR2
      rw [Bool.and_false, if_neg (by decide)]
      clear HDf HDi
      go_enter Try.func19, Try.ntmps19
      go_wp2_with fail
      refine (HR1.out _ hb0).mono ?_
      rintro r w2 ⟨rfl, hb2⟩
      replace hb0 := below_more hb0 hb2
      go_wp2_with fail
      refine (HR2.out _ hb0).mono ?_
      rintro r w3 ⟨rfl, hb3⟩
      replace hb0 := below_more hb0 hb3
      go_wp2
      go_ret
      exact ⟨rfl, hb0⟩
    | true =>
      rw [hbb] at HR2 HDi
      rw [Bool.and_true, if_pos rfl]
      simp only [Bool.and_true, if_true] at HDi
      obtain ⟨hw, at_⟩ := R
      dsimp only at HDi ⊢
      by_cases h4 : hw = 4
      · subst h4
        rw [if_pos rfl]
        clear HDf
        go_enter Try.func19, Try.ntmps19
        go_wp2_with fail
        refine (HR1.out _ hb0).mono ?_
        rintro r w2 ⟨rfl, hb2⟩
        replace HB0 := hidden (HB0.out.below hb2 (by simp))
        replace hb0 := below_more hb0 hb2
        clear hb2
        go_wp2_with fail
        refine (HR2.out _ hb0).mono ?_
        rintro r w3 ⟨rfl, hb3⟩
        replace HB0 := hidden (HB0.out.below hb3 HB0.out.lt)
        replace hb0 := below_more hb0 hb3
        clear hb3 HR1 HR2
        obtain ⟨s0, s1, s2, s3, s4, s5, s6, s7⟩ := eight HB0.out
        go_wp2_with fail
        refine (HDi.out _ hb0).mono ?_
        rintro r w4 ⟨⟨u, rfl, _⟩, hb4⟩
        replace hb0 := below_more hb0 hb4
        clear hb4 HDi s0 s1 s2 s3 s4 s5 s6 s7
        go_wp2
        go_ret
        exact ⟨rfl, hb0⟩
      · rw [if_neg h4]
        have q4 : (hw == 4) = false := by simp [h4]
        rcases hmin with ⟨hab, rfl⟩ | ⟨hab, rfl⟩
        · go_enter Try.func19, Try.ntmps19
          go_wp2_with fail
          refine (HR1.out _ hb0).mono ?_
          rintro r w2 ⟨rfl, hb2⟩
          replace HB0 := hidden (HB0.out.below hb2 (by simp))
          replace hb0 := below_more hb0 hb2
          clear hb2
          go_wp2_with fail
          refine (HR2.out _ hb0).mono ?_
          rintro r w3 ⟨rfl, hb3⟩
          replace HB0 := hidden (HB0.out.below hb3 HB0.out.lt)
          replace hb0 := below_more hb0 hb3
          clear hb3 HR1 HR2
          obtain ⟨s0, s1, s2, s3, s4, s5, s6, s7⟩ := eight HB0.out
          go_wp2_with fail
          refine (HDi.out _ hb0).mono ?_
          rintro r w4 ⟨⟨u, rfl, _⟩, hb4⟩
          replace HB0 := hidden (HB0.out.below hb4 HB0.out.lt)
          replace hb0 := below_more hb0 hb4
          clear hb4 HDi s0 s1 s2 s3 s4 s5 s6 s7
          go_wp2
          go_loopg [9, 10] b.length (fun gh cc jj wr => ∃ j : Nat, j ≤ b.length ∧ gh = b.length - j ∧ cc = .int .i64 (countN Dc j : Nat) ∧ jj = .int .i64 j ∧ Hid (Holds wr w.heap.size 26 #[.slice A0 g.toks.length c0, .slice A8 g.rules.length c8, .slice A9 g.prods.length c9, .int .i64 g.start, .int .i64 g.states, .int .i64 g.text, .int .i64 g.nodes, .int .i64 g.pairs]) ∧ Below w.heap.size w wr)
          case atStart => exact ⟨0, by omega, rfl, by go_num, by go_num, HB0, hb0⟩
          case round =>
            clear HB0 hb0
            obtain ⟨j, hj, rfl, rfl, rfl, HB, hb⟩ := hrel
            by_cases hlt : j < b.length
            · have H3 := hidden (fun (w' : World) (hb : Below w.heap.size w w') => HDf.out w' 3 j hb hlt (by omega))
              have H2 := hidden (fun (w' : World) (hb : Below w.heap.size w w') => HDf.out w' 2 j hb hlt (by omega))
              have H1 := hidden (fun (w' : World) (hb : Below w.heap.size w w') => HDf.out w' 1 j hb hlt (by omega))
              have HS := hidden (HCs.out j)
              rw [HCh.out j] at HS
              have hcl := HCl.out j
              obtain ⟨s0, s1, s2, s3, s4, s5, s6, s7⟩ := eight HB.out
              clear HDf HCs HCh
              generalize D 3 j = t3 at *
              generalize D 2 j = t2 at *
              generalize D 1 j = t1 at *
              generalize countN Dc j = cj at *
              go_wp2_with fail
              refine (H3.out _ hb).mono ?_
              rintro r w5 ⟨rfl, hb5⟩
              have HB5 := hidden (HB.out.below hb5 HB.out.lt)
              replace hb := below_more hb hb5
              clear hb5 H3 HB s0 s1 s2 s3 s4 s5 s6 s7
              cases t3 with
              | true =>
                have HS2 : Hid (countN Dc (j + 1) = cj + 1) := hidden (by rw [HS.out]; rfl)
                clear HS H2 H1
                go_wp2
                go_roundg (b.length - (j + 1))
                case measure => omega
                case rel => exact ⟨j + 1, by omega, rfl, by rw [HS2.out]; go_num, by go_num, HB5, hb⟩
              | false =>
                obtain ⟨s0, s1, s2, s3, s4, s5, s6, s7⟩ := eight HB5.out
                go_wp2_with fail
                refine (H2.out _ hb).mono ?_
                rintro r w6 ⟨rfl, hb6⟩
                have HB6 := hidden (HB5.out.below hb6 HB5.out.lt)
                replace hb := below_more hb hb6
                clear hb6 H2 HB5 s0 s1 s2 s3 s4 s5 s6 s7
                cases t2 with
                | true =>
                  have HS2 : Hid (countN Dc (j + 1) = cj + 1) := hidden (by rw [HS.out]; rfl)
                  clear HS H1
                  go_wp2
                  go_roundg (b.length - (j + 1))
                  case measure => omega
                  case rel => exact ⟨j + 1, by omega, rfl, by rw [HS2.out]; go_num, by go_num, HB6, hb⟩
                | false =>
                  obtain ⟨s0, s1, s2, s3, s4, s5, s6, s7⟩ := eight HB6.out
                  go_wp2_with fail
                  refine (H1.out _ hb).mono ?_
                  rintro r w7 ⟨rfl, hb7⟩
                  have HB7 := hidden (HB6.out.below hb7 HB6.out.lt)
                  replace hb := below_more hb hb7
                  clear hb7 H1 HB6 s0 s1 s2 s3 s4 s5 s6 s7
                  cases t1 with
                  | true =>
                    have HS2 : Hid (countN Dc (j + 1) = cj + 1) := hidden (by rw [HS.out]; rfl)
                    clear HS
                    go_wp2
                    go_roundg (b.length - (j + 1))
                    case measure => omega
                    case rel => exact ⟨j + 1, by omega, rfl, by rw [HS2.out]; go_num, by go_num, HB7, hb⟩
                  | false =>
                    have HS2 : Hid (countN Dc (j + 1) = cj) := hidden (by rw [HS.out]; rfl)
                    clear HS
                    go_wp2
                    go_roundg (b.length - (j + 1))
                    case measure => omega
                    case rel => exact ⟨j + 1, by omega, rfl, by rw [HS2.out], by go_num, HB7, hb⟩
            · obtain rfl : j = b.length := by omega
              go_wp2
              go_ret
              exact ⟨rfl, hb⟩
        · go_enter Try.func19, Try.ntmps19
          go_wp2_with fail
          refine (HR1.out _ hb0).mono ?_
          rintro r w2 ⟨rfl, hb2⟩
          replace HB0 := hidden (HB0.out.below hb2 (by simp))
          replace hb0 := below_more hb0 hb2
          clear hb2
          go_wp2_with fail
          refine (HR2.out _ hb0).mono ?_
          rintro r w3 ⟨rfl, hb3⟩
          replace HB0 := hidden (HB0.out.below hb3 HB0.out.lt)
          replace hb0 := below_more hb0 hb3
          clear hb3 HR1 HR2
          obtain ⟨s0, s1, s2, s3, s4, s5, s6, s7⟩ := eight HB0.out
          go_wp2_with fail
          refine (HDi.out _ hb0).mono ?_
          rintro r w4 ⟨⟨u, rfl, _⟩, hb4⟩
          replace HB0 := hidden (HB0.out.below hb4 HB0.out.lt)
          replace hb0 := below_more hb0 hb4
          clear hb4 HDi s0 s1 s2 s3 s4 s5 s6 s7
          go_wp2
          go_loopg [9, 10] a.length (fun gh cc jj wr => ∃ j : Nat, j ≤ a.length ∧ gh = a.length - j ∧ cc = .int .i64 (countN Dc j : Nat) ∧ jj = .int .i64 j ∧ Hid (Holds wr w.heap.size 26 #[.slice A0 g.toks.length c0, .slice A8 g.rules.length c8, .slice A9 g.prods.length c9, .int .i64 g.start, .int .i64 g.states, .int .i64 g.text, .int .i64 g.nodes, .int .i64 g.pairs]) ∧ Below w.heap.size w wr)
          case atStart => exact ⟨0, by omega, rfl, by go_num, by go_num, HB0, hb0⟩
          case round =>
            clear HB0 hb0
            obtain ⟨j, hj, rfl, rfl, rfl, HB, hb⟩ := hrel
            by_cases hlt : j < a.length
            · have H3 := hidden (fun (w' : World) (hb : Below w.heap.size w w') => HDf.out w' 3 j hb hlt (by omega))
              have H2 := hidden (fun (w' : World) (hb : Below w.heap.size w w') => HDf.out w' 2 j hb hlt (by omega))
              have H1 := hidden (fun (w' : World) (hb : Below w.heap.size w w') => HDf.out w' 1 j hb hlt (by omega))
              have HS := hidden (HCs.out j)
              rw [HCh.out j] at HS
              have hcl := HCl.out j
              obtain ⟨s0, s1, s2, s3, s4, s5, s6, s7⟩ := eight HB.out
              clear HDf HCs HCh
              generalize D 3 j = t3 at *
              generalize D 2 j = t2 at *
              generalize D 1 j = t1 at *
              generalize countN Dc j = cj at *
              go_wp2_with fail
              refine (H3.out _ hb).mono ?_
              rintro r w5 ⟨rfl, hb5⟩
              have HB5 := hidden (HB.out.below hb5 HB.out.lt)
              replace hb := below_more hb hb5
              clear hb5 H3 HB s0 s1 s2 s3 s4 s5 s6 s7
              cases t3 with
              | true =>
                have HS2 : Hid (countN Dc (j + 1) = cj + 1) := hidden (by rw [HS.out]; rfl)
                clear HS H2 H1
                go_wp2
                go_roundg (a.length - (j + 1))
                case measure => omega
                case rel => exact ⟨j + 1, by omega, rfl, by rw [HS2.out]; go_num, by go_num, HB5, hb⟩
              | false =>
                obtain ⟨s0, s1, s2, s3, s4, s5, s6, s7⟩ := eight HB5.out
                go_wp2_with fail
                refine (H2.out _ hb).mono ?_
                rintro r w6 ⟨rfl, hb6⟩
                have HB6 := hidden (HB5.out.below hb6 HB5.out.lt)
                replace hb := below_more hb hb6
                clear hb6 H2 HB5 s0 s1 s2 s3 s4 s5 s6 s7
                cases t2 with
                | true =>
                  have HS2 : Hid (countN Dc (j + 1) = cj + 1) := hidden (by rw [HS.out]; rfl)
                  clear HS H1
                  go_wp2
                  go_roundg (a.length - (j + 1))
                  case measure => omega
                  case rel => exact ⟨j + 1, by omega, rfl, by rw [HS2.out]; go_num, by go_num, HB6, hb⟩
                | false =>
                  obtain ⟨s0, s1, s2, s3, s4, s5, s6, s7⟩ := eight HB6.out
                  go_wp2_with fail
                  refine (H1.out _ hb).mono ?_
                  rintro r w7 ⟨rfl, hb7⟩
                  have HB7 := hidden (HB6.out.below hb7 HB6.out.lt)
                  replace hb := below_more hb hb7
                  clear hb7 H1 HB6 s0 s1 s2 s3 s4 s5 s6 s7
                  cases t1 with
                  | true =>
                    have HS2 : Hid (countN Dc (j + 1) = cj + 1) := hidden (by rw [HS.out]; rfl)
                    clear HS
                    go_wp2
                    go_roundg (a.length - (j + 1))
                    case measure => omega
                    case rel => exact ⟨j + 1, by omega, rfl, by rw [HS2.out]; go_num, by go_num, HB7, hb⟩
                  | false =>
                    have HS2 : Hid (countN Dc (j + 1) = cj) := hidden (by rw [HS.out]; rfl)
                    clear HS
                    go_wp2
                    go_roundg (a.length - (j + 1))
                    case measure => omega
                    case rel => exact ⟨j + 1, by omega, rfl, by rw [HS2.out], by go_num, HB7, hb⟩
            · obtain rfl : j = a.length := by omega
              go_wp2
              go_ret
              exact ⟨rfl, hb⟩
end Go.Proofs.Ytbjheaiiajpifaa.T
