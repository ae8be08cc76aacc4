/-
  The edits that make one tree of another one, plainly; same.Edits.
-/
import Derived.Test.YtbjheaiiajpifaaEdits
namespace Go.Proofs.Ytbjheaiiajpifaa.T
open Go.RowKit Go.Shelf

def leadAt (b : List Node) (i : Nat) : List Piece := match b[i]? with | some x => x.lead | none => []
/-- What is to be done at a place. -/
noncomputable def editAt (a b : List Node) (i : Nat) : List Edit := if textsD a b i = true then [⟨1, pathN a i, subL b i, []⟩] else if blanksD a b i = true then [⟨4, pathN a i, [], leadAt b i⟩] else []
noncomputable def editsTo (a b : List Node) (k : Nat) : List Edit := (List.range k).flatMap (editAt a b)
noncomputable def okE (a b : List Node) : Bool := bothB a b && decide ((firstD40 [] a b).1 ≠ 4)
noncomputable def editsOf (a b : List Node) : List Edit := if okE a b = true then editsTo a b a.length else []
theorem editsTo_succ (a b : List Node) (k : Nat) : editsTo a b (k + 1) = editsTo a b k ++ editAt a b k := by
  unfold editsTo
  rw [List.range_succ, List.flatMap_append]
  simp
theorem editAt_len (a b : List Node) (k : Nat) : (editAt a b k).length ≤ 1 := by unfold editAt; split <;> (try split) <;> simp
theorem editsTo_len (a b : List Node) (k : Nat) : (editsTo a b k).length ≤ k := by
  induction k with
  | zero => exact Nat.le_refl _
  | succ k ih =>
    rw [editsTo_succ, List.length_append]
    have := editAt_len a b k
    omega
/-- Where there are edits the trees stand alike. -/
theorem okE_spec {a b : List Node} (h : okE a b = true) : Tree a ∧ Tree b ∧ b.length = a.length ∧ ∀ i, i < a.length → nodesD a b i = false := by
  unfold okE bothB at h
  rw [Bool.and_eq_true, Bool.and_eq_true, treeB_iff, treeB_iff, decide_eq_true_iff] at h
  obtain ⟨⟨ha, hb⟩, h4⟩ := h
  have hn : ∀ i, i < min a.length b.length → nodesD a b i = false := by
    rcases first_spec [] a b 4 with ⟨_, h2⟩ | ⟨g, j, h1, h2, h3, h5, _, _, h7⟩
    · exact fun i hi => h2 4 (by omega) (by omega) i hi
    · rw [show firstD40 [] a b = ((g : Int), (j : Int)) from h5] at h4
      dsimp only at h4
      exact fun i hi => h7 4 (by omega) (by omega) i hi
  have hl := len_alike ha hb (fun j hj => (arity_of ha hb hj (hn j hj)).1)
  exact ⟨ha, hb, hl.symm, fun i hi => hn i (by omega)⟩

theorem Mine.rdT {w : World} {B C : Nat} {e : TypeId} {size n : Nat} {v : Value} {xs : List Value} (h : Mine w B e size v n xs) (hC : C ≤ B) : Rd w (fun k => C ≤ k ∧ k < w.heap.size) size v n xs := h.rd (fun g _ h1 h2 => ⟨by omega, h2⟩)
theorem Own.ndsT {w : World} {B C : Nat} {v : Value} {t : List Node} (h : Own w B v t) (hC : C ≤ B) : Nds w (fun k => C ≤ k ∧ k < w.heap.size) v t := by
  obtain ⟨ls, h1, h2, h3⟩ := h
  exact ⟨ls, h1, Mine.rdT h2 hC, fun i x l a b => Mine.rdT (h3 i x l a b).1 hC⟩
/-- What lies among the arguments, or was made since, lies apart from the row. -/
theorem EdsM.apart {wr : World} {B : Nat} {v : Value} {es : List Edit} (h : EdsM wr B v es) : ∀ k, (k < B ∨ wr.heap.size ≤ k) → v.ownBlock ≠ some k := by
  obtain ⟨qs, h1, h2, h3, h4⟩ := h
  intro k hk e
  have := h3 k e
  omega
theorem EdsM.base {w : World} {B C : Nat} {v : Value} {es : List Edit} (h : EdsM w B v es) (hC : C ≤ B) : EdsM w C v es := by
  obtain ⟨qs, h1, h2, h3, h4⟩ := h
  exact ⟨qs, h1, h2.base hC, fun g hg => ⟨by have := (h3 g hg).1; omega, (h3 g hg).2⟩, h4⟩
theorem TwoAt.keeps {w w' : World} {p : Nat} {vt va vb : Value} {ts : List Token} {a b : List Node} (h : TwoAt w p vt va vb ts a b) (hk : Keeps (fun k => k < w.heap.size) w w') : TwoAt w' p vt va vb ts a b :=
  ⟨hk.holds h.at_.lt h.at_, (h.toks.keeps hk).mono (fun _ h => Nat.lt_of_lt_of_le h hk.size), (h.a.keeps hk).mono (fun _ h => Nat.lt_of_lt_of_le h hk.size), (h.b.keeps hk).mono (fun _ h => Nat.lt_of_lt_of_le h hk.size)⟩
theorem tk_below {w w' : World} {C size n : Nat} {v : Value} {cs : List Value} (h : Rd w (fun k => C ≤ k ∧ k < w.heap.size) size v n cs) (hb : Below w.heap.size w w') : Rd w' (fun k => C ≤ k ∧ k < w'.heap.size) size v n cs := (Rd.below h hb (fun _ h => h.2)).mono (fun k hk => ⟨hk.1, by have := hb.size; omega⟩)

set_option maxRecDepth 20000 in
set_option maxHeartbeats 16000000 in
theorem same_Edits (va vb : Value) (a b : List Node) (w : World) (hA : Nds w (Old w) va a) (hB : Nds w (Old w) vb b) (ka : NdsOk a) (kb : NdsOk b) (Fb : Fit b) (hl : a.length ≤ 1000000) :
    Calls Try.prog 23 #[va, vb] w fun r w' => (∃ u, r = .returned (.tuple #[u, .bool (okE a b)]) ∧ Hid (EdsM w' w.heap.size u (editsOf a b))) ∧ Below w.heap.size w w' := by
  have HY := hidden (same_of_yes (.pointer none) va vb zeroG a b w (.inl ⟨rfl, rfl⟩) zero_copied hA hB ka kb)
  have HNo := hidden (same_of_no (.pointer none) va vb zeroG a b w (.inl ⟨rfl, rfl⟩) zero_copied hA hB ka kb)
  have HPt := hidden (fun (w' : World) (i : Nat) (hb : Below w.heap.size w w') => trail_Of va a i w' ka.len (hA.old hb))
  have HFi := hidden (fun (w' : World) (p : Nat) (vt : Value) (h : TwoAt w' p vt va vb zeroG.toks a b) => two_first p vt va vb zeroG.toks a b w' h ka.len kb.len ka.lead kb.lead)
  have HTx := hidden (fun (w' : World) (p : Nat) (vt : Value) (i : Nat) (h : TwoAt w' p vt va vb zeroG.toks a b) => two_texts p vt va vb zeroG.toks a b i w' h)
  have HBl := hidden (fun (w' : World) (p : Nat) (vt : Value) (i : Nat) (h : TwoAt w' p vt va vb zeroG.toks a b) => two_blanks p vt va vb zeroG.toks a b i w' h)
  have HPl := hidden (fun (w' : World) (p : Nat) (vt : Value) (h : TwoAt w' p vt va vb zeroG.toks a b) => two_places p vt va vb zeroG.toks a b w' h)
  have HSb := hidden (fun (w' : World) (i : Nat) (hb : Below w.heap.size w w') => arena_sub vb b (i : Int) w' kb.len Fb (hB.old hb))
  have HBo := hidden (fun (w' : World) (hb : Below w.heap.size w w') => hB.old hb)
  obtain ⟨A1, c1, rfl, d1, e1⟩ := hA.value
  obtain ⟨A2, c2, rfl, d2, e2⟩ := hB.value
  unfold maxLen at e1 e2
  have HKb := hidden kb.lead
  clear hA hB ka kb Fb
  by_cases hok : okE a b = true
  · obtain ⟨hta, htb, hlen, hnd⟩ := okE_spec hok
    have hbo : bothB a b = true := by unfold okE at hok; rw [Bool.and_eq_true] at hok; exact hok.1
    have h4 : (firstD40 zeroG.toks a b).1 ≠ 4 := by unfold okE at hok; rw [Bool.and_eq_true, decide_eq_true_iff] at hok; exact hok.2
    have hmin : min a.length b.length = a.length := by omega
    rw [hmin] at HPl
    unfold editsOf
    rw [hok, if_pos rfl]
    have HO := hidden (HY.out hbo)
    have hlen1 : a.length ≤ b.length := by omega
    have hlen2 : b.length ≤ a.length := by omega
    clear HY HNo hnd hmin hok hlen
    generalize firstD40 zeroG.toks a b = R at *
    obtain ⟨hw, at_⟩ := R
    dsimp only at HFi h4
    have q4 : (hw == 4) = false := by simp [h4]
    have HTa := hidden hta
    have HTb := hidden htb
    clear hta htb
    go_enter Try.func23, Try.ntmps23
    go_wp2_with fail
    refine HO.out.mono ?_
    rintro r w2 ⟨⟨p, vt, rfl, HTw⟩, hb⟩
    have HF2 := hidden (HFi.out w2 p vt HTw.out)
    clear HO HFi
    go_wp2_with fail
    refine HF2.out.mono ?_
    rintro r w3 ⟨rfl, hb3⟩
    replace HTw := hidden (HTw.out.below hb3)
    replace hb := below_more hb hb3
    clear hb3 HF2
    have HP2 := hidden (HPl.out _ p vt HTw.out)
    go_wp2_with fail
    refine HP2.out.mono ?_
    rintro r w4 ⟨rfl, hb4⟩
    replace HTw := hidden (HTw.out.below hb4)
    replace hb := below_more hb hb4
    clear hb4 HP2 HPl
    have HTk := hidden (fun (w' : World) (hk : Keeps (fun k => k < w4.heap.size) w4 w') => HTw.out.keeps hk)
    have hz4 := hb.size
    clear HTw
    go_wp2
    go_loopg [9, 27] a.length (fun gh uu jj wr => ∃ j : Nat, j ≤ a.length ∧ gh = a.length - j ∧ jj = .int .i64 j ∧ Hid (EdsM wr w4.heap.size uu (editsTo a b j)) ∧ Hid (Keeps (fun k => k < w4.heap.size) w4 wr) ∧ Below w.heap.size w wr)
    case atStart => exact ⟨0, by omega, rfl, by go_num, hidden ⟨[], rfl, Mine.nil _ _ _ _, (fun g hg => by cases hg), fun i x q hx => by simp [editsTo] at hx⟩, hidden (Keeps.refl _ _), hb⟩
    case round =>
      clear hb
      obtain ⟨j, hj, rfl, rfl, HM, HTw, hb⟩ := hrel
      have hzr := HTw.out.size
      by_cases hlt : j < a.length
      · have hlb : j < b.length := by omega
        have HPj := hidden (HPt.out wr j hb)
        rw [placeB_iff.2 ⟨by omega, by omega, HTa.out⟩, pathOf_in HTa.out hlt] at HPj
        have HTj := hidden (fun (w' : World) (h : TwoAt w' p vt (.slice A1 a.length c1) (.slice A2 b.length c2) zeroG.toks a b) => HTx.out w' p vt j h hlt hlb)
        have HBj := hidden (fun (w' : World) (h : TwoAt w' p vt (.slice A1 a.length c1) (.slice A2 b.length c2) zeroG.toks a b) => HBl.out w' p vt j h hlt hlb)
        have HSj := hidden (fun (w' : World) (hb : Below w.heap.size w w') => HSb.out w' j hb)
        rw [subOf_in HTb.out hlb] at HSj
        have HS := hidden (editsTo_succ a b j)
        have hEl := editsTo_len a b j
        have HAp := hidden HM.out.apart
        have hEA : Hid (editAt a b j = if textsD a b j = true then [⟨1, pathN a j, subL b j, []⟩] else if blanksD a b j = true then [⟨4, pathN a j, [], leadAt b j⟩] else []) := hidden rfl
        rw [hEA.out] at HS
        clear hEA HPt HTx HBl HSb
        generalize textsD a b j = t1 at *
        generalize blanksD a b j = b1 at *
        generalize editsTo a b j = es at *
        generalize pathN a j = P at *
        go_wp2_with fail
        refine HPj.out.mono ?_
        rintro r w5 ⟨⟨pp, rfl, HP5⟩, hb5⟩
        have hz5 := hb5.size
        have RP := hidden (Mine.rdT HP5.out (Nat.le_refl wr.heap.size))
        obtain ⟨A5, c5, rfl⟩ := HP5.out.value
        replace HM := hidden (HM.out.below hb5)
        replace HTw := hidden (HTw.out.below hb5)
        replace hb := below_more hb hb5
        clear hb5 HPj HP5
        have HT2 := hidden (HTj.out _ (HTk.out _ HTw.out))
        go_wp2_with fail
        refine HT2.out.mono ?_
        rintro r w6 ⟨rfl, hb6⟩
        have hz6 := hb6.size
        replace RP := hidden (tk_below RP.out hb6)
        replace HM := hidden (HM.out.below hb6)
        replace HTw := hidden (HTw.out.below hb6)
        replace hb := below_more hb hb6
        clear hb6 HT2 HTj
        cases t1 with
        | true =>
          rw [if_pos rfl] at HS
          clear HBj
          go_wp2_with fail
          refine (HSj.out _ hb).mono ?_
          rintro r w7 ⟨⟨su, rfl, HO7⟩, hb7⟩
          have hz7 := hb7.size
          have RS := hidden (Own.ndsT HO7.out (show wr.heap.size ≤ w6.heap.size by omega))
          obtain ⟨A7, c7, e7, _, _⟩ := RS.out.value
          subst e7
          replace RP := hidden (tk_below RP.out hb7)
          replace HM := hidden (HM.out.below hb7)
          replace HTw := hidden (HTw.out.below hb7)
          replace hb := below_more hb hb7
          clear hb7 HSj HO7
          have HX : Hid (EdIn w7 (fun k => k < w7.heap.size ∧ u9.ownBlock ≠ some k) ⟨1, P, subL b j, []⟩ (.slice A5 P.length c5, .slice A7 (subL b j).length c7, .slice none 0 0)) := hidden ⟨RP.out.mono (fun k hk => ⟨hk.2, HAp.out k (.inr hk.1)⟩), RS.out.mono (fun k hk => ⟨hk.2, HAp.out k (.inr hk.1)⟩), Rd.nil _ _ _⟩
          have hbz : w4.heap.size ≤ w7.heap.size := by omega
          go_wp2_with (at_builtin; refine wpList_append_ed rfl _ _ rfl HM HX rfl rfl rfl (by first | rfl | simp) (by omega) hbz ?_; intro v' w' hA hb8 hK)
          have HT8 : Hid (Keeps (fun k => k < w4.heap.size) w4 w') := hidden (HTw.out.trans (hK.out.mono (fun k hk => HAp.out k (.inl hk))))
          obtain ⟨A8, c8, e8⟩ := hA.out.value
          go_wp2
          go_roundg (a.length - (j + 1))
          case measure => omega
          case rel => exact ⟨j + 1, by omega, rfl, by go_num, by rw [HS.out]; exact hA, HT8, hb.trans (hb8.mono hz4)⟩
        | false =>
          rw [if_neg (by decide)] at HS
          clear HSj
          have HB2 := hidden (HBj.out _ (HTk.out _ HTw.out))
          clear HBj
          cases b1 with
          | true =>
            rw [if_pos rfl] at HS
            obtain ⟨b2, o2, c', hv, _, _, _, hat⟩ := (HBo.out _ hb).open_ (by intro e; subst e; simp at hlb)
            simp only [Value.slice.injEq] at hv
            obtain ⟨rfl, _, rfl⟩ := hv
            have hx := List.getElem?_eq_getElem hlb
            obtain ⟨l, _, _, _, x3, _, hpl⟩ := hat j _ hx
            have hlx := HKb.out _ (List.getElem_mem hlb)
            have hLd : leadAt b j = (b[j]).lead := by unfold leadAt; rw [hx]
            rw [hLd] at HS
            obtain ⟨A6, c6, rfl, _, _⟩ := hpl.value
            clear hat hx hLd
            generalize b[j] = x at *
            have HPl6 := hidden hpl
            clear hpl
            go_wp2_with fail
            refine HB2.out.mono ?_
            rintro r w7 ⟨rfl, hb7⟩
            have hz7 := hb7.size
            have x3' := cell_at x3 hb7
            have HCl := hidden (clone_pieces _ _ _ _ w7 (Rd.old HPl6.out hb7) (pc_oneCell _) hlx)
            replace RP := hidden (tk_below RP.out hb7)
            replace HM := hidden (HM.out.below hb7)
            replace HTw := hidden (HTw.out.below hb7)
            replace hb := below_more hb hb7
            clear hb7 HB2 x3 HPl6
            go_wp2_with fail
            refine HCl.out.mono ?_
            rintro r w8 ⟨⟨lu, rfl, HM8, HQ8⟩, hb8⟩
            have hz8 := hb8.size
            have RL := hidden (Mine.rdT HM8.out (show wr.heap.size ≤ w7.heap.size by omega))
            obtain ⟨A8, c8, rfl⟩ := HM8.out.value
            replace RP := hidden (tk_below RP.out hb8)
            replace HM := hidden (HM.out.below hb8)
            replace HTw := hidden (HTw.out.below hb8)
            replace hb := below_more hb hb8
            clear hb8 HCl HM8 HQ8 x3'
            have HX : Hid (EdIn w8 (fun k => k < w8.heap.size ∧ u9.ownBlock ≠ some k) ⟨4, P, [], x.lead⟩ (.slice A5 P.length c5, .slice none 0 0, .slice A8 x.lead.length c8)) := hidden ⟨RP.out.mono (fun k hk => ⟨hk.2, HAp.out k (.inr hk.1)⟩), ⟨[], rfl, Rd.nil _ _ _, fun i x l h => by simp at h⟩, Rd.mono RL.out (fun k hk => ⟨hk.2, HAp.out k (.inr hk.1)⟩)⟩
            have hbz : w4.heap.size ≤ w8.heap.size := by omega
            go_wp2_with (at_builtin; refine wpList_append_ed rfl _ _ rfl HM HX rfl rfl rfl (by first | rfl | simp) (by omega) hbz ?_; intro v' w' hA hb9 hK)
            have HT8 : Hid (Keeps (fun k => k < w4.heap.size) w4 w') := hidden (HTw.out.trans (hK.out.mono (fun k hk => HAp.out k (.inl hk))))
            obtain ⟨A9, c9, e9⟩ := hA.out.value
            go_wp2
            go_roundg (a.length - (j + 1))
            case measure => omega
            case rel => exact ⟨j + 1, by omega, rfl, by go_num, by rw [HS.out]; exact hA, HT8, hb.trans (hb9.mono hz4)⟩
          | false =>
            rw [if_neg (by decide), List.append_nil] at HS
            go_wp2_with fail
            refine HB2.out.mono ?_
            rintro r w7 ⟨rfl, hb7⟩
            replace HM := hidden (HM.out.below hb7)
            replace HTw := hidden (HTw.out.below hb7)
            replace hb := below_more hb hb7
            clear hb7 HB2
            go_wp2
            go_roundg (a.length - (j + 1))
            case measure => omega
            case rel => exact ⟨j + 1, by omega, rfl, by go_num, by rw [HS.out]; exact HM, HTw, hb⟩
      · obtain rfl : j = a.length := by omega
        go_wp2
        go_ret2
        exact ⟨⟨_, rfl, hidden (HM.out.base hz4)⟩, hb⟩
  · have hokf : okE a b = false := by simpa using hok
    unfold editsOf
    rw [hokf, if_neg (by decide)]
    clear HPt HTx HBl HPl HSb HBo
    by_cases hbo : bothB a b = true
    · have h4 : (firstD40 zeroG.toks a b).1 = 4 := by
        unfold okE at hokf
        rw [hbo, Bool.true_and, decide_eq_false_iff_not] at hokf
        exact Classical.not_not.1 hokf
      have HO := hidden (HY.out hbo)
      clear HY HNo hok hokf
      generalize firstD40 zeroG.toks a b = R at *
      obtain ⟨hw, at_⟩ := R
      dsimp only at HFi h4
      subst h4
      go_enter Try.func23, Try.ntmps23
      go_wp2_with fail
      refine HO.out.mono ?_
      rintro r w2 ⟨⟨p, vt, rfl, HTw⟩, hb⟩
      have HF2 := hidden (HFi.out w2 p vt HTw.out)
      clear HO HFi HTw
      go_wp2_with fail
      refine HF2.out.mono ?_
      rintro r w3 ⟨rfl, hb3⟩
      replace hb := below_more hb hb3
      go_wp2
      go_ret2
      exact ⟨⟨_, rfl, hidden ⟨[], rfl, Mine.nil _ _ _ _, (fun g hg => by cases hg), fun i x q hx => by simp at hx⟩⟩, hb⟩
    · have HO := hidden (HNo.out (by simpa using hbo))
      clear HY HNo HFi
      go_enter Try.func23, Try.ntmps23
      go_wp2_with fail
      refine HO.out.mono ?_
      rintro r w2 ⟨rfl, hb⟩
      go_wp2
      go_ret2
      exact ⟨⟨_, rfl, hidden ⟨[], rfl, Mine.nil _ _ _ _, (fun g hg => by cases hg), fun i x q hx => by simp at hx⟩⟩, hb⟩
end Go.Proofs.Ytbjheaiiajpifaa.T
