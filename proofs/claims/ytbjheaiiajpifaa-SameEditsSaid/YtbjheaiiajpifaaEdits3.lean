/-
  The document's Edits.
-/
import Derived.Test.YtbjheaiiajpifaaEdits2
namespace Go.Proofs.Ytbjheaiiajpifaa.T
open Go.RowKit Go.Shelf

theorem leaf_size {t : List Node} (ht : Tree t) {j : Nat} (hj : j < t.length) (hk : textedK t[j].kind) : sz t j = 1 ∧ t[j].size = 1 := by
  have hl := (tree_good_at ht hj).local (List.getElem?_eq_getElem hj)
  have hs := hl.2.2.2.1 (fun ho => by unfold openK at ho; unfold textedK at hk; omega)
  exact ⟨by rw [sz_of (List.getElem?_eq_getElem hj), hs]; rfl, hs⟩
theorem not_texted {t : List Node} (ht : Tree t) {j : Nat} (hj : j < t.length) (hk : ¬ textedK t[j].kind) : t[j].lead = [] ∧ t[j].text = ⟨#[]⟩ := ((tree_good_at ht hj).local (List.getElem?_eq_getElem hj)).2.2.2.2 hk
/-- Where two texts or leads differ the node is a leaf. -/
theorem differ_leaf {a b : List Node} (ha : Tree a) (hb : Tree b) {j : Nat} (h1 : j < a.length) (h2 : j < b.length) (hn : nodesD a b j = false) (hd : textsD a b j = true ∨ blanksD a b j = true) : textedK b[j].kind := by
  apply Classical.byContradiction
  intro hk
  obtain ⟨_, hkk, _⟩ := arity_of ha hb (i := j) (by omega) hn
  obtain ⟨l2, t2⟩ := not_texted hb h2 hk
  obtain ⟨l1, t1⟩ := not_texted ha h1 (by rw [hkk]; exact hk)
  rcases hd with hd | hd
  · unfold textsD at hd
    rw [List.getElem?_eq_getElem h1, List.getElem?_eq_getElem h2] at hd
    dsimp only at hd
    rw [t1, t2, eqB_self] at hd
    cases hd
  · unfold blanksD at hd
    rw [List.getElem?_eq_getElem h1, List.getElem?_eq_getElem h2] at hd
    dsimp only at hd
    rw [l1, l2, eqB_self] at hd
    cases hd
theorem sub_one {b : List Node} (hb : Tree b) {j : Nat} (h2 : j < b.length) (hk : textedK b[j].kind) : subL b j = [b[j]] := by
  unfold subL
  rw [(leaf_size hb h2 hk).1, List.take_one, List.head?_drop, List.getElem?_eq_getElem h2]
  rfl
theorem one_ndsT (W : World) (T : Nat → Prop) (x : Node) (l : Value) (o : Nat) (ho : o = W.heap.size) (_hT : ∀ k, T k → k < W.heap.size) (hl : Pcs W T l x.lead) :
    Nds (W.alloc (.cells #[.int .i64 x.kind, .int .i64 x.n, .int .i64 x.size, l, .string x.text] 58)) (fun k => T k ∨ k = o) (.slice (some ⟨o, 0, none⟩) 1 1) [x] := by
  subst ho
  refine ⟨[l], rfl, ?_, fun i y l' a b => ?_⟩
  · have e : allCells [x] [l] = [.int .i64 x.kind, .int .i64 x.n, .int .i64 x.size, l, .string x.text] := rfl
    rw [e]
    exact Rd.fresh (cs := [.int .i64 x.kind, .int .i64 x.n, .int .i64 x.size, l, .string x.text]) (n := 1) (size := 5) rfl (Nat.le_refl _) (by decide) (.inr rfl) rfl
  · cases i with
    | zero =>
      simp at a b
      subst a b
      exact Rd.mono (Rd.alloc hl _) (fun k hk => .inl hk)
    | succ i => simp at a

set_option maxRecDepth 20000 in
set_option maxHeartbeats 16000000 in
theorem ref_Edits40 (va vb : Value) (a b : List Node) (w : World) (hA : Nds w (Old w) va a) (hB : Nds w (Old w) vb b) (ka : NdsOk a) (kb : NdsOk b) (hl : a.length ≤ 1000000) :
    Calls Try.prog 24 #[va, vb] w fun r w' => (∃ u, r = .returned (.tuple #[u, .bool (okE a b)]) ∧ Hid (EdsM w' w.heap.size u (editsOf a b))) ∧ Below w.heap.size w w' := by
  have HDi := hidden (ref_Diff40 va vb _ _ _ zeroG a b w (gram_nil _ _) hA hB ka kb)
  have HPt := hidden (fun (w' : World) (i : Nat) (hb : Below w.heap.size w w') => ref_Of32 va a i w' ka.len (hA.old hb))
  have HAo := hidden (fun (w' : World) (hb : Below w.heap.size w w') => Nds.below hA hb (fun _ h => h))
  have HBo := hidden (fun (w' : World) (hb : Below w.heap.size w w') => Nds.below hB hb (fun _ h => h))
  obtain ⟨A1, c1, rfl, d1, e1⟩ := hA.value
  obtain ⟨A2, c2, rfl, d2, e2⟩ := hB.value
  unfold maxLen at e1 e2
  unfold gramCells at HDi
  clear hA hB ka kb
  by_cases hok : okE a b = true
  · obtain ⟨hta, htb, hlen, hnd⟩ := okE_spec hok
    have hbo : bothB a b = true := by unfold okE at hok; rw [Bool.and_eq_true] at hok; exact hok.1
    have h4 : dHow zeroG.toks a b ≠ 4 := by
      unfold dHow
      rw [if_pos hbo]
      unfold okE at hok
      rw [Bool.and_eq_true, decide_eq_true_iff] at hok
      exact hok.2
    unfold editsOf
    rw [hok, if_pos rfl]
    have hlen1 : a.length ≤ b.length := by omega
    have hlen2 : b.length ≤ a.length := by omega
    have HTa := hidden hta
    have HTb := hidden htb
    have HNd := hidden hnd
    clear hok hlen hta htb hnd hbo
    generalize dHow zeroG.toks a b = hw at *
    generalize (dPath zeroG.toks a b) = dp at *
    have q4 : (hw == 4) = false := by simp [h4]
    go_enter Try.func24, Try.ntmps24
    go_wp2_with fail
    refine HDi.out.mono ?_
    rintro r w4 ⟨⟨du, rfl, _⟩, hb⟩
    have hz4 := hb.size
    clear HDi
    have HM0 : Hid (EdsM (w4.alloc (.cells #[] 55)) w4.heap.size (.slice (some ⟨w4.heap.size, 0, none⟩) 0 0) (editsTo a b 0)) := hidden ⟨[], rfl, .inr ⟨rfl, rfl, _, rfl⟩, (fun g hg => by simp [Value.ownBlock] at hg; subst hg; simp), fun i x q hx => by simp [editsTo] at hx⟩
    have hb0 := hb.alloc hb.size (.cells #[] 55)
    go_wp2
    go_loopg [8, 9] a.length (fun gh uu jj wr => ∃ j : Nat, j ≤ a.length ∧ gh = a.length - j ∧ jj = .int .i64 j ∧ Hid (EdsM wr w4.heap.size uu (editsTo a b j)) ∧ w4.heap.size ≤ wr.heap.size ∧ Below w.heap.size w wr)
    case atStart => exact ⟨0, by omega, rfl, by go_num, HM0, by simp, hb0⟩
    case round =>
      clear hb HM0 hb0
      obtain ⟨j, hj, rfl, rfl, HM, hzr, hb⟩ := hrel
      by_cases hlt : j < a.length
      · have hlb : j < b.length := by omega
        have HPj := hidden (HPt.out wr j hb)
        rw [placeB_iff.2 ⟨by omega, by omega, HTa.out⟩, pathOf_in HTa.out hlt] at HPj
        have HS := hidden (editsTo_succ a b j)
        have hEl := editsTo_len a b j
        have HAp := hidden HM.out.apart
        have hx := List.getElem?_eq_getElem hlt
        have hy := List.getElem?_eq_getElem hlb
        have HLf := hidden (fun h => sub_one HTb.out hlb (differ_leaf HTa.out HTb.out hlt hlb (HNd.out j hlt) h))
        have hEA : Hid (editAt a b j = if (!(eqB (a[j]).text (b[j]).text)) = true then [⟨1, pathN a j, subL b j, []⟩] else if (!(eqB (a[j]).lead (b[j]).lead)) = true then [⟨4, pathN a j, [], (b[j]).lead⟩] else []) := hidden (by
          unfold editAt textsD blanksD leadAt
          rw [hx, hy])
        have hTD : Hid (textsD a b j = !(eqB (a[j]).text (b[j]).text)) := hidden (by unfold textsD; rw [hx, hy])
        rw [hEA.out] at HS
        rw [hTD.out] at HLf
        clear hEA hTD HPt
        generalize editsTo a b j = es at *
        generalize pathN a j = P at *
        go_wp2_with fail
        refine HPj.out.mono ?_
        rintro r w5 ⟨⟨pp, rfl, HP5⟩, hb5⟩
        have hz5 := hb5.size
        have RP := hidden (Mine.rdT HP5.out (Nat.le_refl wr.heap.size))
        obtain ⟨A5, c5, rfl⟩ := HP5.out.value
        replace HM := hidden (HM.out.below hb5)
        replace hb := below_more hb hb5
        clear hb5 HPj HP5
        obtain ⟨b1, o1, c1', hv1, _, _, hT1, hat1⟩ := (HAo.out _ hb).open_ (by intro e; subst e; simp at hlt)
        simp only [Value.slice.injEq] at hv1
        obtain ⟨rfl, _, rfl⟩ := hv1
        obtain ⟨b2, o2, c2', hv2, _, _, hT2, hat2⟩ := (HBo.out _ hb).open_ (by intro e; subst e; simp at hlb)
        simp only [Value.slice.injEq] at hv2
        obtain ⟨rfl, _, rfl⟩ := hv2
        obtain ⟨l1, x0, x1, x2, x3, x4, hpl1⟩ := hat1 j _ hx
        obtain ⟨l2, y0, y1, y2, y3, y4, hpl2⟩ := hat2 j _ hy
        generalize a[j] = x at *
        generalize b[j] = y at *
        obtain ⟨A6, c6, rfl, _, _⟩ := hpl1.value
        obtain ⟨A7, c7, rfl, _, _⟩ := hpl2.value
        have HL1 := hidden hpl1
        have HL2 := hidden hpl2
        have hse := strs_eql x.text y.text
        clear hat1 hat2 hx hy hpl1 hpl2 x0 x1 x2
        have z4 := Ext.cell x4; have u4 := Ext.cell y4
        rw [← hse] at HS HLf
        clear hse
        generalize ht1 : (x.text.toList == y.text.toList) = t1 at HS HLf
        go_wp2_with fail
        refine wp_region_ext (by kernel_rfl) (by kernel_rfl) ?_
        repeat (go_big_quiet_step (fail))
        refine wpQuiet_nil ?_
        intro w6 hb6
        clear z4 u4
        have hz6 := hb6.size
        replace RP := hidden (tk_below RP.out hb6)
        replace HM := hidden (HM.out.below hb6)
        replace HL1 := hidden (Rd.below HL1.out hb6 (fun k hk => by have : k < w.heap.size := hk; have := hb.size; omega))
        replace HL2 := hidden (Rd.below HL2.out hb6 (fun k hk => by have : k < w.heap.size := hk; have := hb.size; omega))
        have Y0 := cell_at y0 hb6
        have Y1 := cell_at y1 hb6
        have Y2 := cell_at y2 hb6
        have Y3 := cell_at y3 hb6
        have Y4 := cell_at y4 hb6
        have X3 := cell_at x3 hb6
        replace hb := below_more hb hb6
        clear hb6 x3 x4 y0 y1 y2 y3 y4
        have hwz := hb.size
        have hT2 : b2 < w6.heap.size := by have : b2 < w.heap.size := hT2; omega
        cases t1 with
        | false =>
          rw [show (!false) = true from rfl, if_pos rfl] at HS
          have hsub := HLf.out (.inl rfl)
          rw [hsub] at HS
          have HX : Hid (EdIn (w6.alloc (.cells #[.int .i64 y.kind, .int .i64 y.n, .int .i64 y.size, .slice A7 y.lead.length c7, .string y.text] 58)) (fun k => k < (w6.alloc (.cells #[.int .i64 y.kind, .int .i64 y.n, .int .i64 y.size, .slice A7 y.lead.length c7, .string y.text] 58)).heap.size ∧ u8.ownBlock ≠ some k) ⟨1, P, [y], []⟩ (.slice A5 P.length c5, .slice (some ⟨w6.heap.size, 0, none⟩) 1 1, .slice none 0 0)) := hidden ⟨(Rd.alloc RP.out _).mono (fun k hk => ⟨by simp; omega, HAp.out k (.inr hk.1)⟩), (one_ndsT w6 (Old w) y _ w6.heap.size rfl (fun k hk => by have : k < w.heap.size := hk; omega) HL2.out).mono (fun k hk => by
            rcases hk with hk | hk
            · have hk : k < w.heap.size := hk
              exact ⟨by simp; omega, HAp.out k (.inl (by omega))⟩
            · exact ⟨by simp; omega, HAp.out k (.inr (by omega))⟩), Rd.nil _ _ _⟩
          have HM1 := hidden (HM.out.below ((Below.refl w6.heap.size w6).alloc (Nat.le_refl _) (.cells #[.int .i64 y.kind, .int .i64 y.n, .int .i64 y.size, .slice A7 y.lead.length c7, .string y.text] 58)))
          have hb1 := hb.alloc hb.size (.cells #[.int .i64 y.kind, .int .i64 y.n, .int .i64 y.size, .slice A7 y.lead.length c7, .string y.text] 58)
          have hbz : w4.heap.size ≤ (w6.alloc (.cells #[.int .i64 y.kind, .int .i64 y.n, .int .i64 y.size, .slice A7 y.lead.length c7, .string y.text] 58)).heap.size := by simp; omega
          clear HL1 HL2 HLf hsub RP HM X3
          go_wp2_with (at_builtin; refine wpList_append_ed rfl _ _ rfl HM1 HX rfl rfl rfl (by first | rfl | simp) (by omega) hbz ?_; intro v' w' hA hb9 hK)
          have hz9 := hK.out.size
          simp at hz9
          obtain ⟨A9, c9, e9⟩ := hA.out.value
          go_wp2
          go_roundg (a.length - (j + 1))
          case measure => omega
          case rel => exact ⟨j + 1, by omega, rfl, by go_num, by rw [HS.out]; exact hA, by omega, hb1.trans (hb9.mono hz4)⟩
        | true =>
          rw [show (!true) = false from rfl, if_neg (by decide)] at HS
          clear HLf
          have C1 := hidden (fun y' : Ext w6 => same_pcs _ _ x.lead y.lead y'.w (Rd.old (HL1.out.mono (fun k hk => by have : k < w.heap.size := hk; show k < w6.heap.size; omega)) y'.below) (Rd.old (HL2.out.mono (fun k hk => by have : k < w.heap.size := hk; show k < w6.heap.size; omega)) y'.below))
          generalize eqB x.lead y.lead = b1' at *
          have z3 := Ext.cell X3; have u3 := Ext.cell Y3
          clear Y0 Y1 Y2 Y4
          go_wp2_with fail
          refine wp_region_ext (by kernel_rfl) (by kernel_rfl) ?_
          repeat (go_big_quiet_step ((go_at_call 50; exact Ext.call (C1.out _))))
          refine wpQuiet_nil ?_
          intro w7 hb7
          have hz7 := hb7.size
          have Y3' := cell_at Y3 hb7
          replace RP := hidden (tk_below RP.out hb7)
          replace HM := hidden (HM.out.below hb7)
          replace HL2 := hidden (Rd.below HL2.out hb7 (fun k hk => by have : k < w.heap.size := hk; omega))
          replace hb := below_more hb hb7
          clear hb7 z3 u3 C1 X3 Y3 HL1
          cases b1' with
          | true =>
            rw [show (!true) = false from rfl, if_neg (by decide), List.append_nil] at HS
            go_wp2
            go_roundg (a.length - (j + 1))
            case measure => omega
            case rel => exact ⟨j + 1, by omega, rfl, by go_num, by rw [HS.out]; exact HM, by omega, hb⟩
          | false =>
            rw [show (!false) = true from rfl, if_pos rfl] at HS
            have HX : Hid (EdIn w7 (fun k => k < w7.heap.size ∧ u8.ownBlock ≠ some k) ⟨4, P, [], y.lead⟩ (.slice A5 P.length c5, .slice none 0 0, .slice A7 y.lead.length c7)) := hidden ⟨RP.out.mono (fun k hk => ⟨hk.2, HAp.out k (.inr hk.1)⟩), ⟨[], rfl, Rd.nil _ _ _, fun i x l h => by simp at h⟩, Rd.mono HL2.out (fun k hk => by
              have hk : k < w.heap.size := hk
              exact ⟨by omega, HAp.out k (.inl (by omega))⟩)⟩
            have hbz : w4.heap.size ≤ w7.heap.size := by omega
            clear HL2 RP
            go_wp2_with (at_builtin; refine wpList_append_ed rfl _ _ rfl HM HX rfl rfl rfl (by first | rfl | simp) (by omega) hbz ?_; intro v' w' hA hb9 hK)
            have hz9 := hK.out.size
            obtain ⟨A9, c9, e9⟩ := hA.out.value
            go_wp2
            go_roundg (a.length - (j + 1))
            case measure => omega
            case rel => exact ⟨j + 1, by omega, rfl, by go_num, by rw [HS.out]; exact hA, by omega, hb.trans (hb9.mono hz4)⟩
      · obtain rfl : j = a.length := by omega
        go_wp2
        go_ret2
        exact ⟨⟨_, rfl, hidden (HM.out.base hz4)⟩, hb⟩
  · have hokf : okE a b = false := by simpa using hok
    have h4 : dHow zeroG.toks a b = 4 := by
      unfold dHow
      by_cases hbo : bothB a b = true
      · rw [if_pos hbo]
        unfold okE at hokf
        rw [hbo, Bool.true_and, decide_eq_false_iff_not] at hokf
        exact Classical.not_not.1 hokf
      · rw [if_neg hbo]
    unfold editsOf
    rw [hokf, if_neg (by decide)]
    rw [h4] at HDi
    clear HPt HAo HBo hok hokf h4
    go_enter Try.func24, Try.ntmps24
    go_wp2_with fail
    refine HDi.out.mono ?_
    rintro r w4 ⟨⟨du, rfl, _⟩, hb⟩
    go_wp2
    go_ret2
    exact ⟨⟨_, rfl, hidden ⟨[], rfl, Mine.nil _ _ _ _, (fun g hg => by cases hg), fun i x q hx => by simp at hx⟩⟩, hb⟩
end Go.Proofs.Ytbjheaiiajpifaa.T
