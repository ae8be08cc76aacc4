/-
  same.of, Diff, Of, Count.
-/
import Derived.Test.YtbjheaiiajpifaaSameC
import Derived.Test.YtbjheaiiajpifaaLangN
namespace Go.Proofs.Ytbjheaiiajpifaa.T
open Go.RowKit Go.Shelf

/-- How many numbers below n there are of which f holds. -/
def countN (f : Nat → Bool) : Nat → Nat
  | 0 => 0
  | n + 1 => countN f n + if f n = true then 1 else 0
theorem countN_le (f : Nat → Bool) (n : Nat) : countN f n ≤ n := by
  induction n with
  | zero => exact Nat.le_refl _
  | succ n ih => unfold countN; split <;> omega
noncomputable def bothB (a b : List Node) : Bool := treeB a && treeB b
noncomputable def dHow (ts : List Token) (a b : List Node) : Int := if bothB a b = true then (firstD40 ts a b).1 else 4
noncomputable def dPath (ts : List Token) (a b : List Node) : List Nat := if bothB a b = true then pathOf a (firstD40 ts a b).2 else []
noncomputable def changedD (a b : List Node) (i : Nat) : Bool := textsD a b i || blanksD a b i
noncomputable def dCount (ts : List Token) (a b : List Node) : Int := if bothB a b = true then (if (firstD40 ts a b).1 = 4 then -1 else (countN (changedD a b) (min a.length b.length) : Nat)) else 0

/-- What holds of two nodes' lists that are asked for. -/
structure NdsOk (a : List Node) : Prop where
  len : a.length ≤ 140737488355
  lead : ∀ x ∈ a, x.lead.length * 24 ≤ 140737488355328

set_option maxRecDepth 20000 in
set_option maxHeartbeats 4000000 in
theorem same_of (v va vb : Value) (g : Gram) (a b : List Node) (w : World) (HL : LangV w v g) (hC : Copied g) (hA : Nds w (Old w) va a) (hB : Nds w (Old w) vb b) (ka : NdsOk a) (kb : NdsOk b) :
    Calls Try.prog 41 #[v, va, vb] w fun r w' => ((bothB a b = true ∧ ∃ p vt, r = .returned (.pointer (some ⟨p, 0, none⟩)) ∧ Hid (TwoAt w' p vt va vb g.toks a b)) ∨ (bothB a b = false ∧ r = .returned (.pointer none))) ∧ Below w.heap.size w w' := by
  have HR1 := hidden (arena_right va a w ka.len hA)
  have HR2 := hidden (fun (w' : World) (hb : Below w.heap.size w w') => arena_right vb b w' kb.len (hB.old hb))
  have HGr := hidden (fun (w' : World) (hb : Below w.heap.size w w') => lang_Grammar v g w' (HL.below hb) hC)
  have HA := hidden (fun (w' : World) (hb : Below w.heap.size w w') => hA.old hb)
  have HB := hidden (fun (w' : World) (hb : Below w.heap.size w w') => hB.old hb)
  obtain ⟨A1, c1, rfl, d1, e1⟩ := hA.value
  obtain ⟨A2, c2, rfl, d2, e2⟩ := hB.value
  unfold bothB
  have hv : ∃ q, v = .pointer q := by
    rcases HL with ⟨rfl, _⟩ | ⟨q, rfl, _⟩
    · exact ⟨_, rfl⟩
    · exact ⟨_, rfl⟩
  obtain ⟨q, rfl⟩ := hv
  clear HL hA hB
  cases ha : treeB a with
  | false =>
    rw [ha] at HR1
    clear HGr HR2
    go_enter Try.func41, Try.ntmps41
    go_wp2_with fail
    refine HR1.out.mono ?_
    rintro r w2 ⟨rfl, hb⟩
    go_wp2
    go_ret
    exact ⟨.inr ⟨rfl, rfl⟩, hb⟩
  | true =>
    rw [ha] at HR1
    cases hb2 : treeB b with
    | false =>
      rw [hb2] at HR2
      clear HGr
      go_enter Try.func41, Try.ntmps41
      go_wp2_with fail
      refine HR1.out.mono ?_
      rintro r w2 ⟨rfl, hb⟩
      go_wp2_with fail
      refine (HR2.out _ hb).mono ?_
      rintro r w3 ⟨rfl, hb3⟩
      replace hb := hb.trans (hb3.mono hb.size)
      go_wp2
      go_ret
      exact ⟨.inr ⟨rfl, rfl⟩, hb⟩
    | true =>
      rw [hb2] at HR2
      go_enter Try.func41, Try.ntmps41
      go_wp2_with fail
      refine HR1.out.mono ?_
      rintro r w2 ⟨rfl, hb⟩
      go_wp2_with fail
      refine (HR2.out _ hb).mono ?_
      rintro r w3 ⟨rfl, hb3⟩
      replace hb := hb.trans (hb3.mono hb.size)
      clear hb3 HR1 HR2
      go_wp2_with fail
      refine (HGr.out _ hb).mono ?_
      rintro r w4 ⟨⟨a', b', c', rfl, HG⟩, hb4⟩
      replace hb := hb.trans (hb4.mono hb.size)
      clear hb4 HGr
      obtain ⟨A3, c3, rfl, _, _⟩ := HG.out.1.value
      unfold gramCells
      have hf : (Instr.field 26 (.agg #[.slice A3 g.toks.length c3, b', c', .int .i64 g.start, .int .i64 g.states, .int .i64 g.text, .int .i64 g.nodes, .int .i64 g.pairs]) 0).run Try.prog w4 = .ok (.slice A3 g.toks.length c3) w4 := by kernel_rfl
      have HTk := hidden HG.out.1
      clear HG
      go_wp2
      go_ret
      refine ⟨.inl ⟨rfl, _, _, rfl, hidden ⟨Holds.new w4 _ _, (HTk.out.alloc _).mono (fun k hk => Nat.lt_of_lt_of_le hk (by simp)), ?_, ?_⟩⟩, hb.alloc hb.size _⟩
      · exact (HA.out _ (hb.alloc hb.size _))
      · exact (HB.out _ (hb.alloc hb.size _))

/-- The same, by cases. -/
theorem same_of_yes (v va vb : Value) (g : Gram) (a b : List Node) (w : World) (HL : LangV w v g) (hC : Copied g) (hA : Nds w (Old w) va a) (hB : Nds w (Old w) vb b) (ka : NdsOk a) (kb : NdsOk b) (h : bothB a b = true) :
    Calls Try.prog 41 #[v, va, vb] w fun r w' => (∃ p vt, r = .returned (.pointer (some ⟨p, 0, none⟩)) ∧ Hid (TwoAt w' p vt va vb g.toks a b)) ∧ Below w.heap.size w w' := by
  refine (same_of v va vb g a b w HL hC hA hB ka kb).mono ?_
  rintro r w' ⟨⟨_, h1⟩ | ⟨h1, _⟩, hb⟩
  · exact ⟨h1, hb⟩
  · rw [h] at h1; cases h1
theorem same_of_no (v va vb : Value) (g : Gram) (a b : List Node) (w : World) (HL : LangV w v g) (hC : Copied g) (hA : Nds w (Old w) va a) (hB : Nds w (Old w) vb b) (ka : NdsOk a) (kb : NdsOk b) (h : bothB a b = false) :
    Calls Try.prog 41 #[v, va, vb] w fun r w' => r = .returned (.pointer none) ∧ Below w.heap.size w w' := by
  refine (same_of v va vb g a b w HL hC hA hB ka kb).mono ?_
  rintro r w' ⟨⟨h1, _⟩ | ⟨_, h1⟩, hb⟩
  · rw [h] at h1; cases h1
  · exact ⟨h1, hb⟩

set_option maxRecDepth 20000 in
set_option maxHeartbeats 8000000 in
theorem same_Diff (v va vb : Value) (g : Gram) (a b : List Node) (w : World) (HL : LangV w v g) (hC : Copied g) (hA : Nds w (Old w) va a) (hB : Nds w (Old w) vb b) (ka : NdsOk a) (kb : NdsOk b) :
    Calls Try.prog 14 #[v, va, vb] w fun r w' => (∃ u, r = .returned (.tuple #[.int .i64 (dHow g.toks a b), u]) ∧ Hid (NatsM w' w.heap.size u (dPath g.toks a b))) ∧ Below w.heap.size w w' := by
  have HY := hidden (same_of_yes v va vb g a b w HL hC hA hB ka kb)
  have HNo := hidden (same_of_no v va vb g a b w HL hC hA hB ka kb)
  have HPt := hidden (fun (w' : World) (i : Int) (hb : Below w.heap.size w w') => trail_Of va a i w' ka.len (hA.old hb))
  have HFi := hidden (fun (w' : World) (p : Nat) (vt : Value) (h : TwoAt w' p vt va vb g.toks a b) => two_first p vt va vb g.toks a b w' h ka.len kb.len ka.lead kb.lead)
  obtain ⟨A1, c1, rfl, d1, e1⟩ := hA.value
  obtain ⟨A2, c2, rfl, d2, e2⟩ := hB.value
  have hv : ∃ q, v = .pointer q := by
    rcases HL with ⟨rfl, _⟩ | ⟨q, rfl, _⟩
    · exact ⟨_, rfl⟩
    · exact ⟨_, rfl⟩
  obtain ⟨q, rfl⟩ := hv
  clear HL hA hB
  unfold dHow dPath
  generalize firstD40 g.toks a b = R at *
  obtain ⟨hw, at_⟩ := R
  cases hbo : bothB a b with
  | true =>
    rw [if_pos rfl, if_pos rfl]
    have HO := hidden (HY.out hbo)
    clear HY HNo
    go_enter Try.func14, Try.ntmps14
    go_wp2_with fail
    refine HO.out.mono ?_
    rintro r w2 ⟨⟨p, vt, rfl, HTw⟩, hb⟩
    have HF2 := hidden (HFi.out w2 p vt HTw.out)
    clear HO HFi HTw
    go_wp2_with fail
    refine HF2.out.mono ?_
    rintro r w3 ⟨rfl, hb3⟩
    replace hb := hb.trans (hb3.mono hb.size)
    clear hb3 HF2
    dsimp only
    go_wp2_with fail
    refine (HPt.out _ at_ hb).mono ?_
    rintro r w4 ⟨⟨u, rfl, HM⟩, hb4⟩
    have HM2 := hidden (HM.out.base hb.size)
    replace hb := hb.trans (hb4.mono hb.size)
    go_wp2
    go_ret2
    exact ⟨⟨_, rfl, HM2⟩, hb⟩
  | false =>
    rw [if_neg (by decide), if_neg (by decide)]
    have HO := hidden (HNo.out hbo)
    clear HY HNo HFi HPt
    go_enter Try.func14, Try.ntmps14
    go_wp2_with fail
    refine HO.out.mono ?_
    rintro r w2 ⟨rfl, hb⟩
    go_wp2
    go_ret2
    exact ⟨⟨_, rfl, hidden (Mine.nil _ _ _ _)⟩, hb⟩

set_option maxRecDepth 20000 in
set_option maxHeartbeats 4000000 in
theorem same_Of (v va vb : Value) (g : Gram) (a b : List Node) (w : World) (HL : LangV w v g) (hC : Copied g) (hA : Nds w (Old w) va a) (hB : Nds w (Old w) vb b) (ka : NdsOk a) (kb : NdsOk b) :
    Calls Try.prog 16 #[v, va, vb] w fun r w' => r = .returned (.int .i64 (dHow g.toks a b)) ∧ Below w.heap.size w w' := by
  have HO := hidden (same_Diff v va vb g a b w HL hC hA hB ka kb)
  clear HL hA hB
  go_enter Try.func16, Try.ntmps16
  go_wp2_with fail
  refine HO.out.mono ?_
  rintro r w2 ⟨⟨u, rfl, HM⟩, hb⟩
  go_wp2
  go_ret
  exact ⟨rfl, hb⟩

set_option maxRecDepth 20000 in
set_option maxHeartbeats 8000000 in
theorem same_Count (v va vb : Value) (g : Gram) (a b : List Node) (w : World) (HL : LangV w v g) (hC : Copied g) (hA : Nds w (Old w) va a) (hB : Nds w (Old w) vb b) (ka : NdsOk a) (kb : NdsOk b) :
    Calls Try.prog 18 #[v, va, vb] w fun r w' => r = .returned (.int .i64 (dCount g.toks a b)) ∧ Below w.heap.size w w' := by
  have HY := hidden (same_of_yes v va vb g a b w HL hC hA hB ka kb)
  have HNo := hidden (same_of_no v va vb g a b w HL hC hA hB ka kb)
  have HPt := hidden (fun (w' : World) (i : Int) (hb : Below w.heap.size w w') => trail_Of va a i w' ka.len (hA.old hb))
  have HFi := hidden (fun (w' : World) (p : Nat) (vt : Value) (h : TwoAt w' p vt va vb g.toks a b) => two_first p vt va vb g.toks a b w' h ka.len kb.len ka.lead kb.lead)
  obtain ⟨A1, c1, rfl, d1, e1⟩ := hA.value
  obtain ⟨A2, c2, rfl, d2, e2⟩ := hB.value
  have hv : ∃ q, v = .pointer q := by
    rcases HL with ⟨rfl, _⟩ | ⟨q, rfl, _⟩
    · exact ⟨_, rfl⟩
    · exact ⟨_, rfl⟩
  obtain ⟨q, rfl⟩ := hv
  clear HL hA hB
  clear HPt
  have HTx := hidden (fun (w' : World) (p : Nat) (vt : Value) (i : Nat) (h : TwoAt w' p vt (.slice A1 a.length c1) (.slice A2 b.length c2) g.toks a b) (h1 : i < min a.length b.length) => two_texts p vt _ _ g.toks a b i w' h (by omega) (by omega))
  have HBl := hidden (fun (w' : World) (p : Nat) (vt : Value) (i : Nat) (h : TwoAt w' p vt (.slice A1 a.length c1) (.slice A2 b.length c2) g.toks a b) (h1 : i < min a.length b.length) => two_blanks p vt _ _ g.toks a b i w' h (by omega) (by omega))
  have HPl := hidden (fun (w' : World) (p : Nat) (vt : Value) (h : TwoAt w' p vt (.slice A1 a.length c1) (.slice A2 b.length c2) g.toks a b) => two_places p vt _ _ g.toks a b w' h)
  have HCh : Hid (∀ i, changedD a b i = (textsD a b i || blanksD a b i)) := hidden (fun i => rfl)
  have HCs : Hid (∀ n, countN (changedD a b) (n + 1) = countN (changedD a b) n + if changedD a b n = true then 1 else 0) := hidden (fun n => rfl)
  have HCl := hidden (countN_le (changedD a b))
  have hnn : min a.length b.length ≤ 140737488355 := by have := ka.len; omega
  unfold dCount
  generalize firstD40 g.toks a b = R at *
  obtain ⟨hw, at_⟩ := R
  generalize textsD a b = Dt at *
  generalize blanksD a b = Db at *
  generalize changedD a b = Dc at *
  generalize min a.length b.length = n at *
  cases hbo : bothB a b with
  | true =>
    rw [if_pos rfl]
    have HO := hidden (HY.out hbo)
    clear HY HNo
    dsimp only at HFi ⊢
    by_cases h4 : hw = 4
    · rw [if_pos h4]
      subst h4
      go_enter Try.func18, Try.ntmps18
      go_wp2_with fail
      refine HO.out.mono ?_
      rintro r w2 ⟨⟨p, vt, rfl, HTw⟩, hb⟩
      have HF2 := hidden (HFi.out w2 p vt HTw.out)
      clear HO HFi HTw
      go_wp2_with fail
      refine HF2.out.mono ?_
      rintro r w3 ⟨rfl, hb3⟩
      replace hb := hb.trans (hb3.mono hb.size)
      clear hb3 HF2
      go_wp2
      go_ret
      exact ⟨rfl, hb⟩
    · rw [if_neg h4]
      have q4 : (hw == 4) = false := by simp [h4]
      go_enter Try.func18, Try.ntmps18
      go_wp2_with fail
      refine HO.out.mono ?_
      rintro r w2 ⟨⟨p, vt, rfl, HTw⟩, hb⟩
      have HF2 := hidden (HFi.out w2 p vt HTw.out)
      clear HO HFi
      go_wp2_with fail
      refine HF2.out.mono ?_
      rintro r w3 ⟨rfl, hb3⟩
      replace HTw := hidden (HTw.out.below hb3)
      replace hb := hb.trans (hb3.mono hb.size)
      clear hb3 HF2
      have HP2 := hidden (HPl.out _ p vt HTw.out)
      go_wp2_with fail
      refine HP2.out.mono ?_
      rintro r w4 ⟨rfl, hb4⟩
      replace HTw := hidden (HTw.out.below hb4)
      replace hb := hb.trans (hb4.mono hb.size)
      clear hb4 HP2 HPl
      go_wp2
      go_loopg [10, 27] n (fun gh cc jj wr => ∃ j : Nat, j ≤ n ∧ gh = n - j ∧ cc = .int .i64 (countN Dc j : Nat) ∧ jj = .int .i64 j ∧ Hid (TwoAt wr p vt (.slice A1 a.length c1) (.slice A2 b.length c2) g.toks a b) ∧ Below w.heap.size w wr)
      case atStart => exact ⟨0, by omega, rfl, by go_num, by go_num, HTw, hb⟩
      case round =>
        clear HTw hb
        obtain ⟨j, hj, rfl, rfl, rfl, HTw, hb⟩ := hrel
        by_cases hlt : j < n
        · have HT1 := hidden (HTx.out _ p vt j HTw.out hlt)
          have HB1 := hidden (fun (w' : World) (h : TwoAt w' p vt (.slice A1 a.length c1) (.slice A2 b.length c2) g.toks a b) => HBl.out w' p vt j h hlt)
          have HS := hidden (HCs.out j)
          rw [HCh.out j] at HS
          have hcl := HCl.out j
          clear HTx HBl HCh HCs
          generalize Dt j = t1 at *
          generalize Db j = b1 at *
          generalize countN Dc j = cj at *
          cases t1 with
          | true =>
            have HS2 : Hid (countN Dc (j + 1) = cj + 1) := hidden (by rw [HS.out]; rfl)
            clear HS HB1
            go_wp2_with fail
            refine HT1.out.mono ?_
            rintro r w5 ⟨rfl, hb5⟩
            replace HTw := hidden (HTw.out.below hb5)
            replace hb := hb.trans (hb5.mono hb.size)
            clear hb5 HT1
            go_wp2
            go_roundg (n - (j + 1))
            case measure => omega
            case rel => exact ⟨j + 1, by omega, rfl, by rw [HS2.out]; go_num, by go_num, HTw, hb⟩
          | false =>
            go_wp2_with fail
            refine HT1.out.mono ?_
            rintro r w5 ⟨rfl, hb5⟩
            replace HTw := hidden (HTw.out.below hb5)
            replace hb := hb.trans (hb5.mono hb.size)
            clear hb5 HT1
            have HB2 := hidden (HB1.out _ HTw.out)
            clear HB1
            cases b1 with
            | true =>
              have HS2 : Hid (countN Dc (j + 1) = cj + 1) := hidden (by rw [HS.out]; rfl)
              clear HS
              go_wp2_with fail
              refine HB2.out.mono ?_
              rintro r w6 ⟨rfl, hb6⟩
              replace HTw := hidden (HTw.out.below hb6)
              replace hb := hb.trans (hb6.mono hb.size)
              clear hb6 HB2
              go_wp2
              go_roundg (n - (j + 1))
              case measure => omega
              case rel => exact ⟨j + 1, by omega, rfl, by rw [HS2.out]; go_num, by go_num, HTw, hb⟩
            | false =>
              have HS2 : Hid (countN Dc (j + 1) = cj) := hidden (by rw [HS.out]; rfl)
              clear HS
              go_wp2_with fail
              refine HB2.out.mono ?_
              rintro r w6 ⟨rfl, hb6⟩
              replace HTw := hidden (HTw.out.below hb6)
              replace hb := hb.trans (hb6.mono hb.size)
              clear hb6 HB2
              go_wp2
              go_roundg (n - (j + 1))
              case measure => omega
              case rel => exact ⟨j + 1, by omega, rfl, by rw [HS2.out], by go_num, HTw, hb⟩
        · obtain rfl : j = n := by omega
          go_wp2
          go_ret
          exact ⟨rfl, hb⟩
  | false =>
    rw [if_neg (by decide)]
    have HO := hidden (HNo.out hbo)
    clear HY HNo HFi
    go_enter Try.func18, Try.ntmps18
    go_wp2_with fail
    refine HO.out.mono ?_
    rintro r w2 ⟨rfl, hb⟩
    go_wp2
    go_ret
    exact ⟨rfl, hb⟩
end Go.Proofs.Ytbjheaiiajpifaa.T
