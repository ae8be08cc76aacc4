/-
  The document's Diff.
-/
import Derived.Test.YtbjheaiiajpifaaSameE
namespace Go.Proofs.Ytbjheaiiajpifaa.T
open Go.RowKit Go.Shelf

set_option maxRecDepth 20000 in
set_option maxHeartbeats 8000000 in
theorem ref_Diff40 (va vb a' b' c' : Value) (g : Gram) (a b : List Node) (w : World) (HG : GramIs w (Old w) a' b' c' g) (hA : Nds w (Old w) va a) (hB : Nds w (Old w) vb b) (ka : NdsOk a) (kb : NdsOk b) :
    Calls Try.prog 15 #[.agg (gramCells a' b' c' g), va, vb] w fun r w' => (∃ u, r = .returned (.tuple #[.int .i64 (dHow g.toks a b), u]) ∧ Hid (NatsM w' w.heap.size u (dPath g.toks a b))) ∧ Below w.heap.size w w' := by
  have k1 := ka.len
  have k2 := kb.len
  have HR1 := hidden (fun (w' : World) (hb : Below w.heap.size w w') => ref_right va a w' (by omega) (hA.old hb))
  have HR2 := hidden (fun (w' : World) (hb : Below w.heap.size w w') => ref_right vb b w' (by omega) (hB.old hb))
  have HDf := hidden (fun (w' : World) (how i : Nat) (hb : Below w.heap.size w w') (h1 : i < min a.length b.length) (hh : 1 ≤ how ∧ how ≤ 4) => ref_differ va vb a' b' c' g a b how i w' (HG.later hb) (hA.old hb) (hB.old hb) ka kb (by omega) (by omega) hh)
  have HPt := hidden (fun (w' : World) (i : Int) (hb : Below w.heap.size w w') => ref_Of32 va a i w' ka.len (hA.old hb))
  obtain ⟨A0, c0, rfl, _, _⟩ := HG.1.value
  obtain ⟨A8, c8, rfl, _, _⟩ := HG.2.1.val
  obtain ⟨A9, c9, rfl, _, _⟩ := HG.2.2.value
  obtain ⟨A1, c1, rfl, d1, e1⟩ := hA.value
  obtain ⟨A2, c2, rfl, d2, e2⟩ := hB.value
  unfold maxLen at e1 e2
  have HH := hidden (fun h j => @firstFrom_hit g.toks a b h j)
  have HMs := hidden (fun h => @firstFrom_miss g.toks a b h)
  have HF : Hid (firstD40 g.toks a b = firstFrom g.toks a b 4) := hidden rfl
  have HZ : Hid (firstFrom g.toks a b 0 = (0, -1)) := hidden rfl
  have hmin : ((b.length : Int) < (a.length : Int) ∧ min a.length b.length = b.length) ∨ (¬ ((b.length : Int) < (a.length : Int)) ∧ min a.length b.length = a.length) := by omega
  have hnn : min a.length b.length ≤ 140737488355 := by omega
  have HPn : Hid (pathOf a (-1) = []) := hidden (by unfold pathOf placeB; simp)
  have hb0 : Below w.heap.size w (w.alloc (.cells #[.slice A0 g.toks.length c0, .slice A8 g.rules.length c8, .slice A9 g.prods.length c9, .int .i64 g.start, .int .i64 g.states, .int .i64 g.text, .int .i64 g.nodes, .int .i64 g.pairs] 26)) := (by repeat (first | (with_reducible exact Below.refl _ _) | (with_reducible assumption) | (with_reducible refine Below.drew ?_) | (with_reducible refine below_drewN ?_ _) | ((with_reducible refine below_alloc ?_ ?_); (focus (first | omega | (simp; done) | (simp; omega)))) | ((with_reducible refine below_set ?_ ?_); (focus (first | omega | (simp; done) | (simp; omega))))))
  have HB0 := hidden (Holds.new w 26 #[.slice A0 g.toks.length c0, .slice A8 g.rules.length c8, .slice A9 g.prods.length c9, .int .i64 g.start, .int .i64 g.states, .int .i64 g.text, .int .i64 g.nodes, .int .i64 g.pairs])
  unfold gramCells at HDf ⊢
  unfold dHow dPath bothB
  generalize firstD40 g.toks a b = R at *
  generalize diffD g.toks a b = D at *
  generalize firstFrom g.toks a b = F at *
  generalize min a.length b.length = n at *
  clear HG hA hB
  cases ha : treeB a with
  | false =>
    rw [ha] at HR1
    rw [Bool.false_and, if_neg (by decide), if_neg (by decide)]
    clear HR2 HDf HPt HF HH HMs HZ
    go_enter Try.func15, Try.ntmps15
    go_wp2_with fail
    refine (HR1.out _ hb0).mono ?_
    rintro r w2 ⟨rfl, hb2⟩
    replace hb0 := below_more hb0 hb2
    go_wp2
    go_ret2
    exact ⟨⟨_, rfl, hidden (Mine.nil _ _ _ _)⟩, hb0⟩
  | true =>
    rw [ha] at HR1
    cases hbb : treeB b with
    | false =>
      rw [hbb] at HR2
      rw [Bool.and_false, if_neg (by decide), if_neg (by decide)]
      clear HDf HPt HF HH HMs HZ
      go_enter Try.func15, Try.ntmps15
      go_wp2_with fail
      refine (HR1.out _ hb0).mono ?_
      rintro r w2 ⟨rfl, hb2⟩
      replace hb0 := below_more hb0 hb2
      go_wp2_with fail
      refine (HR2.out _ hb0).mono ?_
      rintro r w3 ⟨rfl, hb3⟩
      replace hb0 := below_more hb0 hb3
      go_wp2
      go_ret2
      exact ⟨⟨_, rfl, hidden (Mine.nil _ _ _ _)⟩, hb0⟩
    | true =>
      rw [hbb] at HR2
      rw [Bool.and_true, if_pos rfl, if_pos rfl]
      rcases hmin with ⟨hab, rfl⟩ | ⟨hab, rfl⟩
      · go_enter Try.func15, Try.ntmps15
        go_wp2_with fail
        refine (HR1.out _ hb0).mono ?_
        rintro r w2 ⟨rfl, hb2⟩
        have hl2 := hb2.size
        replace HB0 := hidden (HB0.out.below hb2 (by simp))
        replace hb0 := below_more hb0 hb2
        clear hb2
        go_wp2_with fail
        refine (HR2.out _ hb0).mono ?_
        rintro r w3 ⟨rfl, hb3⟩
        replace HB0 := hidden (HB0.out.below hb3 HB0.out.lt)
        replace hb0 := below_more hb0 hb3
        clear hb3 HR1 HR2
        go_wp2
        go_loopg [8] 4 (fun gh hh wr => ∃ h : Nat, h ≤ 4 ∧ gh = 0 + h ∧ hh = .int .i64 h ∧ Hid (R = F h) ∧ Hid (Holds wr w.heap.size 26 #[.slice A0 g.toks.length c0, .slice A8 g.rules.length c8, .slice A9 g.prods.length c9, .int .i64 g.start, .int .i64 g.states, .int .i64 g.text, .int .i64 g.nodes, .int .i64 g.pairs]) ∧ Below w.heap.size w wr)
        case atStart => exact ⟨4, by omega, by omega, by go_num, HF, HB0, hb0⟩
        case round =>
          clear HB0 hb0 HF
          obtain ⟨h, hh4, rfl, rfl, HF, HB, hb⟩ := hrel
          by_cases h0 : h = 0
          · subst h0
            have HE : Hid (R = (0, -1)) := hidden (by rw [HF.out, ← HZ.out])
            clear HDf HPt HH HMs
            go_wp2
            go_ret2
            exact ⟨⟨_, by rw [HE.out]; rfl, hidden (by rw [HE.out]; dsimp only; rw [HPn.out]; exact Mine.nil _ _ _ _)⟩, hb⟩
          · obtain ⟨m, rfl⟩ : ∃ m, h = m + 1 := ⟨h - 1, by omega⟩
            have HHm := hidden (HH.out m)
            have HMm := hidden (HMs.out m)
            have HDm := hidden (fun (w' : World) (i : Nat) (hb : Below w.heap.size w w') (h1 : i < b.length) => HDf.out w' (m + 1) i hb h1 (by omega))
            generalize D (m + 1) = d at *
            clear HDf HH HMs
            go_wp2
            go_loopg [9] b.length (fun gj jj wx => ∃ j : Nat, j ≤ b.length ∧ gj = b.length - j ∧ jj = .int .i64 j ∧ Hid (∀ i, i < j → d i = false) ∧ Hid (Holds wx w.heap.size 26 #[.slice A0 g.toks.length c0, .slice A8 g.rules.length c8, .slice A9 g.prods.length c9, .int .i64 g.start, .int .i64 g.states, .int .i64 g.text, .int .i64 g.nodes, .int .i64 g.pairs]) ∧ Below w.heap.size w wx)
            case atStart => exact ⟨0, by omega, rfl, by go_num, hidden (fun i h => by omega), HB, hb⟩
            case round =>
              clear HB hb
              obtain ⟨j, hj, rfl, rfl, HN, HB, hb⟩ := hrel
              by_cases hlt : j < b.length
              · have HC := hidden (HDm.out _ j hb hlt)
                have HHj := hidden (fun h => HHm.out j hlt h HN.out)
                have HNj : Hid (d j = false → ∀ i, i < j + 1 → d i = false) := hidden (fun h i hi => by
                  by_cases e : i = j
                  · subst e; exact h
                  · exact HN.out i (by omega))
                obtain ⟨s0, s1, s2, s3, s4, s5, s6, s7⟩ := eight HB.out
                clear HHm HN HMm HDm
                generalize d j = dj at *
                go_wp2_with fail
                refine HC.out.mono ?_
                rintro r w6 ⟨rfl, hb6⟩
                have HB6 := hidden (HB.out.below hb6 HB.out.lt)
                replace hb := below_more hb hb6
                clear hb6 HC HB s0 s1 s2 s3 s4 s5 s6 s7
                cases dj
                · have HN2 := hidden (HNj.out rfl)
                  clear HNj HHj HPt
                  go_wp2
                  go_roundg (b.length - (j + 1))
                  case measure => omega
                  case rel => exact ⟨j + 1, by omega, rfl, by go_num, HN2, HB6, hb⟩
                · have HE : Hid (R = (((m + 1 : Nat) : Int), (j : Int))) := hidden (by rw [HF.out, HHj.out rfl])
                  clear HNj HHj
                  go_wp2_with fail
                  refine (HPt.out _ (j : Int) hb).mono ?_
                  rintro r w7 ⟨⟨u, rfl, HM⟩, hb7⟩
                  have HM2 := hidden (HM.out.base hb.size)
                  replace hb := below_more hb hb7
                  clear hb7 HM HPt
                  go_wp2
                  go_ret2
                  exact ⟨⟨_, by rw [HE.out]; rfl, hidden (by rw [HE.out]; exact HM2.out)⟩, hb⟩
              · obtain rfl : j = b.length := by omega
                have HF2 : Hid (R = F m) := hidden (by rw [HF.out, HMm.out HN.out])
                clear HHm HMm HN HF HDm HPt
                go_wp2
                go_roundg m
                case measure => omega
                case rel => exact ⟨m, by omega, by omega, by go_num, HF2, HB, hb⟩
      · go_enter Try.func15, Try.ntmps15
        go_wp2_with fail
        refine (HR1.out _ hb0).mono ?_
        rintro r w2 ⟨rfl, hb2⟩
        have hl2 := hb2.size
        replace HB0 := hidden (HB0.out.below hb2 (by simp))
        replace hb0 := below_more hb0 hb2
        clear hb2
        go_wp2_with fail
        refine (HR2.out _ hb0).mono ?_
        rintro r w3 ⟨rfl, hb3⟩
        replace HB0 := hidden (HB0.out.below hb3 HB0.out.lt)
        replace hb0 := below_more hb0 hb3
        clear hb3 HR1 HR2
        go_wp2
        go_loopg [8] 4 (fun gh hh wr => ∃ h : Nat, h ≤ 4 ∧ gh = 0 + h ∧ hh = .int .i64 h ∧ Hid (R = F h) ∧ Hid (Holds wr w.heap.size 26 #[.slice A0 g.toks.length c0, .slice A8 g.rules.length c8, .slice A9 g.prods.length c9, .int .i64 g.start, .int .i64 g.states, .int .i64 g.text, .int .i64 g.nodes, .int .i64 g.pairs]) ∧ Below w.heap.size w wr)
        case atStart => exact ⟨4, by omega, by omega, by go_num, HF, HB0, hb0⟩
        case round =>
          clear HB0 hb0 HF
          obtain ⟨h, hh4, rfl, rfl, HF, HB, hb⟩ := hrel
          by_cases h0 : h = 0
          · subst h0
            have HE : Hid (R = (0, -1)) := hidden (by rw [HF.out, ← HZ.out])
            clear HDf HPt HH HMs
            go_wp2
            go_ret2
            exact ⟨⟨_, by rw [HE.out]; rfl, hidden (by rw [HE.out]; dsimp only; rw [HPn.out]; exact Mine.nil _ _ _ _)⟩, hb⟩
          · obtain ⟨m, rfl⟩ : ∃ m, h = m + 1 := ⟨h - 1, by omega⟩
            have HHm := hidden (HH.out m)
            have HMm := hidden (HMs.out m)
            have HDm := hidden (fun (w' : World) (i : Nat) (hb : Below w.heap.size w w') (h1 : i < a.length) => HDf.out w' (m + 1) i hb h1 (by omega))
            generalize D (m + 1) = d at *
            clear HDf HH HMs
            go_wp2
            go_loopg [9] a.length (fun gj jj wx => ∃ j : Nat, j ≤ a.length ∧ gj = a.length - j ∧ jj = .int .i64 j ∧ Hid (∀ i, i < j → d i = false) ∧ Hid (Holds wx w.heap.size 26 #[.slice A0 g.toks.length c0, .slice A8 g.rules.length c8, .slice A9 g.prods.length c9, .int .i64 g.start, .int .i64 g.states, .int .i64 g.text, .int .i64 g.nodes, .int .i64 g.pairs]) ∧ Below w.heap.size w wx)
            case atStart => exact ⟨0, by omega, rfl, by go_num, hidden (fun i h => by omega), HB, hb⟩
            case round =>
              clear HB hb
              obtain ⟨j, hj, rfl, rfl, HN, HB, hb⟩ := hrel
              by_cases hlt : j < a.length
              · have HC := hidden (HDm.out _ j hb hlt)
                have HHj := hidden (fun h => HHm.out j hlt h HN.out)
                have HNj : Hid (d j = false → ∀ i, i < j + 1 → d i = false) := hidden (fun h i hi => by
                  by_cases e : i = j
                  · subst e; exact h
                  · exact HN.out i (by omega))
                obtain ⟨s0, s1, s2, s3, s4, s5, s6, s7⟩ := eight HB.out
                clear HHm HN HMm HDm
                generalize d j = dj at *
                go_wp2_with fail
                refine HC.out.mono ?_
                rintro r w6 ⟨rfl, hb6⟩
                have HB6 := hidden (HB.out.below hb6 HB.out.lt)
                replace hb := below_more hb hb6
                clear hb6 HC HB s0 s1 s2 s3 s4 s5 s6 s7
                cases dj
                · have HN2 := hidden (HNj.out rfl)
                  clear HNj HHj HPt
                  go_wp2
                  go_roundg (a.length - (j + 1))
                  case measure => omega
                  case rel => exact ⟨j + 1, by omega, rfl, by go_num, HN2, HB6, hb⟩
                · have HE : Hid (R = (((m + 1 : Nat) : Int), (j : Int))) := hidden (by rw [HF.out, HHj.out rfl])
                  clear HNj HHj
                  go_wp2_with fail
                  refine (HPt.out _ (j : Int) hb).mono ?_
                  rintro r w7 ⟨⟨u, rfl, HM⟩, hb7⟩
                  have HM2 := hidden (HM.out.base hb.size)
                  replace hb := below_more hb hb7
                  clear hb7 HM HPt
                  go_wp2
                  go_ret2
                  exact ⟨⟨_, by rw [HE.out]; rfl, hidden (by rw [HE.out]; exact HM2.out)⟩, hb⟩
              · obtain rfl : j = a.length := by omega
                have HF2 : Hid (R = F m) := hidden (by rw [HF.out, HMm.out HN.out])
                clear HHm HMm HN HF HDm HPt
                go_wp2
                go_roundg m
                case measure => omega
                case rel => exact ⟨m, by omega, by omega, by go_num, HF2, HB, hb⟩
end Go.Proofs.Ytbjheaiiajpifaa.T
