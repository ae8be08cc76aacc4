/-
  The document's places of the leaves of any nodes, by any grammar.
-/
import Derived.Test.YtbjheaiiajpifaaLayG
import Derived.Test.YtbjheaiiajpifaaLayI
namespace Go.Proofs.Ytbjheaiiajpifaa.T
open Go.RowKit Go.Shelf

theorem refPlace_info : Hid (TyInfo Try.prog 141 (.agg #[.int .i64 0, .int .i64 0, .int .i64 0]) 3 24) := hidden (info_parts (show (Try.prog.info? 141).map (fun i => (i.zero, i.size, i.bytes)) = some (some (.agg #[.int .i64 0, .int .i64 0, .int .i64 0]), 3, 24) by kernel_rfl))
theorem pl_len (x : Plc) : (plCells x).length = 3 := rfl
theorem pl_one (x : Plc) : ∀ u ∈ plCells x, u.oneCell' = true := by
  intro u hu
  simp only [plCells, List.mem_cons, List.not_mem_nil, or_false] at hu
  rcases hu with rfl | rfl | rfl <;> rfl

set_option maxRecDepth 20000 in
set_option maxHeartbeats 8000000 in
theorem ref_Of38 (v a' b' c' : Value) (g : Gram) (t : List Node) (w : World) (s1 : g.toks.length ≤ 100000) (s2 : g.rules.length ≤ 100000) (s3 : g.prods.length ≤ 100000) (s4 : t.length ≤ 100000) (hz : Named g) (HG : GramIs w (Old w) a' b' c' g) (hN : Nds w (Old w) v t) :
    Calls Try.prog 31 #[.agg (gramCells a' b' c' g), v] w fun r w' => (∃ u, r = .returned u ∧ Hid (FlatM plCells 3 141 w' w.heap.size u (placesOf g t))) ∧ Below w.heap.size w w' := by
  have HR := hidden (fun (w' : World) (hb : Below w.heap.size w w') => ref_Right38 a' b' c' g w' (HG.later hb) s1 s2 s3 hz)
  have HL := hidden (fun (w' : World) (hb : Below w.heap.size w w') => ref_leaves v t w' (by omega) (hN.old hb))
  have HIt := hidden (fun (w' : World) (hb : Below w.heap.size w w') (hT : Tree t) i (hi : i < t.length) => ref_item38 v a' b' c' g t i hi w' (by omega) hT (HG.later hb) (hN.old hb))
  have HFi : Hid (∀ (w' : World), Below w.heap.size w w' → Tree t → ∀ i, i < t.length → Calls Try.prog 65 #[v, .int .i64 (i : Nat)] w' fun r w'' => r = .returned (.int .i64 (firstLeaf t i)) ∧ Below w'.heap.size w' w'') := hidden (fun w' hb hT i hi => (ref_first38 v t i w' (by omega) hT hi (hN.old hb)).mono (fun _ _ h => by
    obtain ⟨h1, rfl⟩ := h
    exact ⟨h1, Below.refl _ _⟩))
  have HUp := hidden (fun (w' : World) (hb : Below w.heap.size w w') i => ref_up v t i w' (by omega) (hN.old hb))
  obtain ⟨A1, k1, rfl, _, _⟩ := HG.1.value
  obtain ⟨A2, k2, rfl, _, _⟩ := HG.2.1.val
  obtain ⟨A3, k3, rfl, _, _⟩ := HG.2.2.value
  obtain ⟨A, c, rfl, hc1, hc2⟩ := hN.value
  unfold maxLen at hc2
  clear HG hN
  have hb0 : Below w.heap.size w ((w.alloc (.cells #[.slice A1 g.toks.length k1, .slice A2 g.rules.length k2, .slice A3 g.prods.length k3, .int .i64 g.start, .int .i64 g.states, .int .i64 g.text, .int .i64 g.nodes, .int .i64 g.pairs] 26)).alloc (.cells #[] 141)) := (by repeat (first | (with_reducible exact Below.refl _ _) | (with_reducible assumption) | (with_reducible refine Below.drew ?_) | (with_reducible refine below_drewN ?_ _) | ((with_reducible refine below_alloc ?_ ?_); (focus (first | omega | (simp; done) | (simp; omega)))) | ((with_reducible refine below_set ?_ ?_); (focus (first | omega | (simp; done) | (simp; omega))))))
  have HB0 : Hid (Holds ((w.alloc (.cells #[.slice A1 g.toks.length k1, .slice A2 g.rules.length k2, .slice A3 g.prods.length k3, .int .i64 g.start, .int .i64 g.states, .int .i64 g.text, .int .i64 g.nodes, .int .i64 g.pairs] 26)).alloc (.cells #[] 141)) w.heap.size 26 #[.slice A1 g.toks.length k1, .slice A2 g.rules.length k2, .slice A3 g.prods.length k3, .int .i64 g.start, .int .i64 g.states, .int .i64 g.text, .int .i64 g.nodes, .int .i64 g.pairs]) := hidden ((Holds.new w _ _).alloc _)
  have HM0 : Hid (FlatM plCells 3 141 ((w.alloc (.cells #[.slice A1 g.toks.length k1, .slice A2 g.rules.length k2, .slice A3 g.prods.length k3, .int .i64 g.start, .int .i64 g.states, .int .i64 g.text, .int .i64 g.nodes, .int .i64 g.pairs] 26)).alloc (.cells #[] 141)) w.heap.size (.slice (some ⟨w.heap.size + 1, 0, none⟩) 0 0) []) := hidden (.inr ⟨rfl, rfl, _, rfl⟩)
  unfold gramCells at *
  generalize hP9 : placesOf g t = P
  have HP9 := hidden hP9
  clear hP9
  go_enter Try.func31, Try.ntmps31
  obtain ⟨x0, x1, x2, x3, x4, x5, x6, x7⟩ := gram_cells (g := g) HB0.out
  go_wp2_with fail
  refine (HR.out _ hb0).mono ?_
  rintro r w2 ⟨rfl, hb2⟩
  replace HM0 := hidden (Mine.below HM0.out hb2)
  replace HB0 := hidden (HB0.out.below hb2 HB0.out.lt)
  replace hb0 := below_more hb0 hb2
  have hz2 := hb2.size
  simp only [World.size_alloc] at hz2
  clear x0 x1 x2 x3 x4 x5 x6 x7 hb2 HR
  cases hg : rightB g with
  | false =>
    have HE : Hid (P = []) := hidden (by rw [← HP9.out]; unfold placesOf; rw [if_neg (by rw [hg]; decide)])
    go_wp2
    go_ret
    exact ⟨⟨_, rfl, by rw [HE.out]; exact HM0⟩, hb0⟩
  | true =>
    go_wp2_with fail
    refine (HL.out _ hb0).mono ?_
    rintro r w3 ⟨⟨u3, rfl, HLv⟩, hb3⟩
    replace HM0 := hidden (Mine.below HM0.out hb3)
    replace HB0 := hidden (HB0.out.below hb3 HB0.out.lt)
    replace hb0 := below_more hb0 hb3
    clear hb3 HL
    have hz2' : w.heap.size + 2 ≤ w2.heap.size := hz2
    have HLr := hidden (HLv.out.rd (T := fun j => j ≠ w.heap.size + 1) (fun q _ h _ => by omega))
    have HPl : Hid (∀ k l, (leavesOf t)[k]? = some l → l < t.length ∧ isText t l = true ∧ Tree t) := hidden (fun k l h => by
      unfold leavesOf leavesTo at h
      split at h
      · rename_i ht
        unfold texts at h
        have := List.mem_of_getElem? h
        rw [List.mem_filter, List.mem_range] at this
        exact ⟨this.1, this.2, treeB_iff.1 ht⟩
      · simp at h)
    have HPo : Hid (P = (leavesOf t).map (placeAt g t)) := hidden (by rw [← HP9.out]; unfold placesOf; rw [if_pos hg])
    have hLl : (leavesOf t).length ≤ t.length := leavesTo_len t t.length
    generalize leavesOf t = L at *
    obtain ⟨A5, c5, rfl, hc5, hc6⟩ := HLr.out.val
    unfold maxLen at hc6
    clear HLv HP9
    have HLt := hidden (fun (w' : World) (hb : Keeps (fun j => j ≠ w.heap.size + 1) w3 w') k l (h : L[k]? = some l) => Rd.ints_at (Rd.keeps HLr.out hb) h)
    clear HLr
    have hzB := HB0.out.lt
    go_wp2
    go_loopg [5, 7] L.length (fun gh oo kk wr => ∃ (k : Nat), k ≤ L.length ∧ gh = L.length - k ∧ kk = .int .i64 k ∧ Hid (FlatM plCells 3 141 wr w.heap.size oo ((L.take k).map (placeAt g t))) ∧ Hid (oo.ownBlock = some (w.heap.size + 1) ∨ ∃ q, oo.ownBlock = some q ∧ w3.heap.size ≤ q) ∧ Keeps (fun j => j ≠ w.heap.size + 1) w3 wr ∧ Below w.heap.size w wr)
    case atStart => exact ⟨0, by omega, by omega, by go_num, HM0, hidden (.inl rfl), Keeps.refl _ _, hb0⟩
    case round =>
      clear HM0
      obtain ⟨k, hk, rfl, rfl, HM, HOw, hb3, hbw⟩ := hrel
      have hbz := hbw.size
      by_cases hlt : k < L.length
      · have hx := List.getElem?_eq_getElem hlt
        obtain ⟨b5, o5, rfl, hT5, y0⟩ := HLt.out wr hb3 k _ hx
        have hT5 : b5 < wr.heap.size := World.block_lt_of_cell? _ _ y0
        obtain ⟨l1, l2, l3⟩ := HPl.out k _ hx
        have HTk : Hid ((L.take (k + 1)).map (placeAt g t) = (L.take k).map (placeAt g t) ++ [placeAt g t L[k]]) := hidden (by rw [List.take_succ_eq_append_getElem hlt, List.map_append, List.map_cons, List.map_nil])
        have hlk : ((L.take k).map (placeAt g t)).length = k := by rw [List.length_map, List.length_take]; omega
        generalize L[k] = l at *
        generalize (L.take k).map (placeAt g t) = l0 at *
        clear hx
        have HG0 := hidden (hb3.holds (T := fun j => j ≠ w.heap.size + 1) (by omega) HB0.out)
        obtain ⟨wq, hwq⟩ : ∃ wq, wq = wr := ⟨_, rfl⟩
        subst hwq
        have hlz := inUp_bounds hg t l
        have HNn := hidden (fun (K : Nat) => tree_node l3 (k := K))
        have hLn : Hid (l < l + sz t l) := hidden (by have := (tree_node l3 l1).1; omega)
        go_wp2
        go_loopg [9] (l + 1) (fun gh kk wv => ∃ (kI gp inn : Int), kk = .int .i64 kI ∧ -1 ≤ kI ∧ kI ≤ l ∧ gh = (kI + 1).toNat ∧ Hid (0 ≤ kI → (l : Int) < kI + sz t kI.toNat) ∧ Hid (max gp (gapUpI g t l kI) = gapUp g t l l) ∧ 0 ≤ gp ∧ Hid (inn + inUpI g t kI = inUp g t l) ∧ 0 ≤ inn ∧ Hid (Holds wv wq.heap.size 141 #[.int .i64 l, .int .i64 gp, .int .i64 inn]) ∧ Below wq.heap.size wq wv)
        case atStart => exact ⟨l, 0, 0, rfl, by omega, by omega, by omega, hidden (fun _ => by rw [Int.toNat_natCast]; have := hLn.out; omega), hidden (by have := gapUpI_nonneg g t l l; unfold gapUpI; rw [if_neg (by omega), Int.toNat_natCast]; have := gapUp_nonneg g t l l; omega), by omega, hidden (by unfold inUpI; rw [if_neg (by omega), Int.toNat_natCast]; omega), by omega, hidden (Holds.new _ _ _), (Below.refl _ _).alloc (Nat.le_refl _) _⟩
        case round =>
          obtain ⟨kI, gp, inn, rfl, hm1, hkl, rfl, HSub, HGp, hgp, HIn, hin, HP, hbq⟩ := hrel
          by_cases h0 : 0 ≤ kI
          · obtain ⟨K, rfl⟩ := Int.eq_ofNat_of_zero_le h0
            have hKt : K < t.length := by omega
            have HSb := hidden (HSub.out h0)
            rw [Int.toNat_natCast] at HSb
            have hbW2 := hbw.trans (hbq.mono hbz)
            have HG9 := hidden (HG0.out.below hbq HG0.out.lt)
            obtain ⟨x0, x1, x2, x3, x4, x5, x6, x7⟩ := gram_cells (g := g) HG9.out
            have hu : upOf t (K : Int) = upN t K K := upOf_in l3 hKt
            have hul : upN t K K < (K : Int) ∧ -1 ≤ upN t K K := by
              rcases upN_cases t K K with e | ⟨a, e⟩
              · rw [e]; omega
              · have := upN_lt K e; rw [e]; omega
            have HSub9 : Hid (0 ≤ upOf t (K : Int) → (l : Int) < upOf t (K : Int) + sz t (upOf t (K : Int)).toNat) := hidden (by
              rw [hu]
              intro h9
              rcases upN_cases t K K with e | ⟨a, e⟩
              · rw [e] at h9; omega
              · rw [e, Int.toNat_natCast]
                have h1 := (upN_spec K a e).1
                have h2 := upN_lt K e
                have h3 := tree_step l3 (i := a) (k := K) (by omega) h2 h1
                have := HSb.out
                omega)
            have HGs := hidden (gapUp_step g t l K)
            have HIs := hidden (inUp_step g t K)
            have hib := it_bounds hg t K
            have hgI : gapUpI g t l (K : Int) = gapUp g t l K := by unfold gapUpI; rw [if_neg (by omega), Int.toNat_natCast]
            have hiI : inUpI g t (K : Int) = inUp g t K := by unfold inUpI; rw [if_neg (by omega), Int.toNat_natCast]
            have hgn := gapUpI_nonneg g t l (upN t K K)
            have hin0 : 0 ≤ inUpI g t (upN t K K) := by unfold inUpI; split; omega; exact (inUp_bounds hg t _).1
            have HFe := hidden (firstLeaf_eq (t := t) (k := K) l2 (by omega) (by have := HSb.out; omega))
            unfold gapIt inIt at *
            rw [hgI, HGs.out] at HGp
            rw [hiI, HIs.out] at HIn
            rw [← hu] at HGp HIn hul hgn hin0
            have hul1 := hul.1
            have hul2 := hul.2
            clear HGs HIs hgI hiI hu hul
            have HI9 := HIt.out _ hbW2 l3 K hKt
            cases ho : itemOf g t K with
            | none =>
              rw [ho] at HGp HIn HI9 hib
              have HI9 : Hid (Calls Try.prog 64 #[.agg #[.slice A1 g.toks.length k1, .slice A2 g.rules.length k2, .slice A3 g.prods.length k3, .int .i64 g.start, .int .i64 g.states, .int .i64 g.text, .int .i64 g.nodes, .int .i64 g.pairs], .slice A t.length c, .int .i64 (K : Int)] wr fun r w' => r = .returned (.tuple #[.agg #[.bool false, .int .i64 0, .int .i64 0, .int .i64 0], .bool false]) ∧ Below wr.heap.size wr w') := hidden HI9
              have HGp9 : Hid (max gp (gapUpI g t l (upOf t K)) = gapUp g t l l) := hidden (by
                have := HGp.out
                simp only [itemD, zeroIt] at this
                split at this <;> omega)
              have HIn9 : Hid (inn + inUpI g t (upOf t K) = inUp g t l) := hidden (by have := HIn.out; simp only [itemD, zeroIt] at this; omega)
              go_wp2_with fail
              refine HI9.out.mono ?_
              rintro r w5 ⟨rfl, hb5⟩
              have hbs5 := hbq.trans (hb5.mono hbq.size)
              have HPl5 : wq.heap.size < w5.heap.size := Nat.lt_of_lt_of_le HP.out.lt hb5.size
              have hbw5 := hbW2.trans (hb5.mono hbW2.size)
              have HP5 := hidden ((HP.out.below hb5 HP.out.lt).alloc (.cells #[.bool false, .int .i64 0, .int .i64 0, .int .i64 0] 80))
              have hbs6 := hbs5.alloc hbs5.size (.cells #[.bool false, .int .i64 0, .int .i64 0, .int .i64 0] 80)
              have hbw6 := hbw5.alloc hbw5.size (.cells #[.bool false, .int .i64 0, .int .i64 0, .int .i64 0] 80)
              have HX5 := hidden (Holds.new w5 80 #[.bool false, .int .i64 0, .int .i64 0, .int .i64 0])
              clear hb5 HP HG9 x0 x1 x2 x3 x4 x5 x6 x7 HI9
              go_wp2_with fail
              refine wp_region_ext (by kernel_rfl) (by kernel_rfl) ?_
              repeat (go_big_quiet_step (fail))
              refine wpQuiet_nil ?_
              intro w6 hb6
              have HP := hidden (HP5.out.below hb6 HP5.out.lt)
              have hbs := hbs6.trans (hb6.mono hbs6.size)
              have hbx := hbw6.trans (hb6.mono hbw6.size)
              clear hb6 hbs6 hbw6 hbs5 hbw5 HP5 HX5
              go_wp2_with fail
              refine (HUp.out _ hbx (K : Int)).mono ?_
              rintro r w7 ⟨rfl, hb7⟩
              replace HP := hidden (HP.out.below hb7 HP.out.lt)
              have hbr := hbs.trans (hb7.mono hbs.size)
              clear hb7 hbx hbs
              go_wp2
              go_roundg ((upOf t K + 1).toNat)
              case measure => omega
              case rel => exact ⟨_, _, _, rfl, by omega, by omega, rfl, HSub9, hidden HGp9.out, hgp, hidden HIn9.out, hin, HP, hbr⟩
            | some x =>
              rw [ho] at HGp HIn HI9 hib
              have HI9 : Hid (Calls Try.prog 64 #[.agg #[.slice A1 g.toks.length k1, .slice A2 g.rules.length k2, .slice A3 g.prods.length k3, .int .i64 g.start, .int .i64 g.states, .int .i64 g.text, .int .i64 g.nodes, .int .i64 g.pairs], .slice A t.length c, .int .i64 (K : Int)] wr fun r w' => r = .returned (.tuple #[.agg #[.bool x.rule, .int .i64 x.n, .int .i64 x.gap, .int .i64 x.in_], .bool true]) ∧ Below wr.heap.size wr w') := hidden HI9
              have hib : 0 ≤ x.gap ∧ x.gap ≤ 2 ∧ 0 ≤ x.in_ ∧ x.in_ ≤ 8 := hib
              obtain ⟨b1, b2, b3, b4⟩ := hib
              simp only [itemD] at HGp HIn
              have HIn9 : Hid (inn + x.in_ + inUpI g t (upOf t K) = inUp g t l) := hidden (by have := HIn.out; omega)
              have hlz2 := hlz.2
              have hwi : inn + x.in_ ≤ 8 * 100001 := by have := HIn9.out; omega
              go_wp2_with fail
              refine HI9.out.mono ?_
              rintro r w5 ⟨rfl, hb5⟩
              have hbs5 := hbq.trans (hb5.mono hbq.size)
              have HPl5 : wq.heap.size < w5.heap.size := Nat.lt_of_lt_of_le HP.out.lt hb5.size
              have hbw5 := hbW2.trans (hb5.mono hbW2.size)
              have HP5 := hidden ((HP.out.below hb5 HP.out.lt).alloc (.cells #[.bool x.rule, .int .i64 x.n, .int .i64 x.gap, .int .i64 x.in_] 80))
              have hbs6 := hbs5.alloc hbs5.size (.cells #[.bool x.rule, .int .i64 x.n, .int .i64 x.gap, .int .i64 x.in_] 80)
              have hbw6 := hbw5.alloc hbw5.size (.cells #[.bool x.rule, .int .i64 x.n, .int .i64 x.gap, .int .i64 x.in_] 80)
              have HX5 := hidden (Holds.new w5 80 #[.bool x.rule, .int .i64 x.n, .int .i64 x.gap, .int .i64 x.in_])
              clear hb5 HP HG9 x0 x1 x2 x3 x4 x5 x6 x7 HI9
              have HF9 := hidden (fun (y : Ext (w5.alloc (.cells #[.bool x.rule, .int .i64 x.n, .int .i64 x.gap, .int .i64 x.in_] 80))) => HFi.out y.w (hbw6.trans (y.below.mono hbw6.size)) l3 K hKt)
              have y1 := Ext.cell (W0 := w5.alloc (.cells #[.bool x.rule, .int .i64 x.n, .int .i64 x.gap, .int .i64 x.in_] 80)) (cell_on y0 hbs6)
              have hbqz := hbq.size
              have h5z := hbs5.size
              cases hno : noLeaf t K l with
              | true =>
                have q1 : (firstLeaf t K == (l : Int)) = true := by rw [HFe.out.2 hno]; simp
                rw [hno, if_pos rfl] at HGp
                go_wp2_with fail
                refine wp_region_ext (by kernel_rfl) (by kernel_rfl) ?_
                repeat (go_big_quiet_step ((go_at_call 65; exact Ext.call (HF9.out _))))
                refine wpQuiet_nil ?_
                intro w6 hb6
                have HP := hidden (HP5.out.below hb6 HP5.out.lt)
                have HX := hidden (HX5.out.below hb6 HX5.out.lt)
                have hbs := hbs6.trans (hb6.mono hbs6.size)
                have hbx := hbw6.trans (hb6.mono hbw6.size)
                clear hb6 hbs6 hbw6 hbs5 hbw5 HP5 HX5 y1 HF9
                have o0 : w6.cell? ⟨wq.heap.size, 0, none⟩ = some (.int .i64 l) := HP.out.cell 0
                have o1 : w6.cell? ⟨wq.heap.size, 1, none⟩ = some (.int .i64 gp) := HP.out.cell 1
                have o2 : w6.cell? ⟨wq.heap.size, 2, none⟩ = some (.int .i64 inn) := HP.out.cell 2
                have f0 := HP.out.frozen 0; have f1 := HP.out.frozen 1; have f2 := HP.out.frozen 2; have hpz := HP.out.lt
                have c2 : w6.cell? ⟨w5.heap.size, 2, none⟩ = some (.int .i64 x.gap) := HX.out.cell 2
                have c3 : w6.cell? ⟨w5.heap.size, 3, none⟩ = some (.int .i64 x.in_) := HX.out.cell 3
                have hwn : wq.heap.size ≠ w5.heap.size := by omega
                by_cases hgx : gp < x.gap
                · have HGp9 : max x.gap (gapUpI g t l (upOf t K)) = gapUp g t l l := by have := HGp.out; omega
                  have hbx1 := hbx.setCell (p := ⟨wq.heap.size, 1, none⟩) (by dsimp only; omega) (.int .i64 x.gap)
                  have hbs1 := hbs.setCell (p := ⟨wq.heap.size, 1, none⟩) (by dsimp only; omega) (.int .i64 x.gap)
                  have hbx2 := hbx1.setCell (p := ⟨wq.heap.size, 2, none⟩) (by dsimp only; omega) (.int .i64 (inn + x.in_))
                  have hbs2 := hbs1.setCell (p := ⟨wq.heap.size, 2, none⟩) (by dsimp only; omega) (.int .i64 (inn + x.in_))
                  have HPn := hidden (((HP.out.set 1 (.int .i64 x.gap)).set 2 (.int .i64 (inn + x.in_))).of_eq rfl)
                  clear HP HX
                  go_wp2_with fail
                  refine (HUp.out _ hbx2 (K : Int)).mono ?_
                  rintro r w7 ⟨rfl, hb7⟩
                  have HP9 : Hid (Holds w7 wq.heap.size 141 #[.int .i64 l, .int .i64 x.gap, .int .i64 (inn + x.in_)]) := hidden (HPn.out.below hb7 HPn.out.lt)
                  have hbr := hbs2.trans (hb7.mono hbs2.size)
                  clear hb7 HPn
                  go_wp2
                  go_roundg ((upOf t K + 1).toNat)
                  case measure => omega
                  case rel => exact ⟨_, _, _, rfl, by omega, by omega, rfl, HSub9, hidden HGp9, by omega, hidden HIn9.out, by omega, HP9, hbr⟩
                · have HGp9 : max gp (gapUpI g t l (upOf t K)) = gapUp g t l l := by have := HGp.out; omega
                  have hbx1 := hbx.setCell (p := ⟨wq.heap.size, 1, none⟩) (by dsimp only; omega) (.int .i64 gp)
                  have hbs1 := hbs.setCell (p := ⟨wq.heap.size, 1, none⟩) (by dsimp only; omega) (.int .i64 gp)
                  have hbx2 := hbx1.setCell (p := ⟨wq.heap.size, 2, none⟩) (by dsimp only; omega) (.int .i64 (inn + x.in_))
                  have hbs2 := hbs1.setCell (p := ⟨wq.heap.size, 2, none⟩) (by dsimp only; omega) (.int .i64 (inn + x.in_))
                  have HPn := hidden (((HP.out.set 1 (.int .i64 gp)).set 2 (.int .i64 (inn + x.in_))).of_eq rfl)
                  clear HP HX
                  go_wp2_with fail
                  refine (HUp.out _ hbx2 (K : Int)).mono ?_
                  rintro r w7 ⟨rfl, hb7⟩
                  have HP9 : Hid (Holds w7 wq.heap.size 141 #[.int .i64 l, .int .i64 gp, .int .i64 (inn + x.in_)]) := hidden (HPn.out.below hb7 HPn.out.lt)
                  have hbr := hbs2.trans (hb7.mono hbs2.size)
                  clear hb7 HPn
                  go_wp2
                  go_roundg ((upOf t K + 1).toNat)
                  case measure => omega
                  case rel => exact ⟨_, _, _, rfl, by omega, by omega, rfl, HSub9, hidden HGp9, by omega, hidden HIn9.out, by omega, HP9, hbr⟩
              | false =>
                have q1 : (firstLeaf t K == (l : Int)) = false := by
                  rw [beq_eq_false_iff_ne]
                  intro e
                  have := HFe.out.1 e
                  rw [hno] at this
                  cases this
                rw [hno, if_neg (by decide)] at HGp
                have HGp9 : max gp (gapUpI g t l (upOf t K)) = gapUp g t l l := by have := HGp.out; omega
                go_wp2_with fail
                refine wp_region_ext (by kernel_rfl) (by kernel_rfl) ?_
                repeat (go_big_quiet_step ((go_at_call 65; exact Ext.call (HF9.out _))))
                refine wpQuiet_nil ?_
                intro w6 hb6
                have HP := hidden (HP5.out.below hb6 HP5.out.lt)
                have HX := hidden (HX5.out.below hb6 HX5.out.lt)
                have hbs := hbs6.trans (hb6.mono hbs6.size)
                have hbx := hbw6.trans (hb6.mono hbw6.size)
                clear hb6 hbs6 hbw6 hbs5 hbw5 HP5 HX5 y1 HF9
                have o0 : w6.cell? ⟨wq.heap.size, 0, none⟩ = some (.int .i64 l) := HP.out.cell 0
                have o1 : w6.cell? ⟨wq.heap.size, 1, none⟩ = some (.int .i64 gp) := HP.out.cell 1
                have o2 : w6.cell? ⟨wq.heap.size, 2, none⟩ = some (.int .i64 inn) := HP.out.cell 2
                have f0 := HP.out.frozen 0; have f1 := HP.out.frozen 1; have f2 := HP.out.frozen 2; have hpz := HP.out.lt
                have c2 : w6.cell? ⟨w5.heap.size, 2, none⟩ = some (.int .i64 x.gap) := HX.out.cell 2
                have c3 : w6.cell? ⟨w5.heap.size, 3, none⟩ = some (.int .i64 x.in_) := HX.out.cell 3
                have hwn : wq.heap.size ≠ w5.heap.size := by omega
                have hbx2 := hbx.setCell (p := ⟨wq.heap.size, 2, none⟩) (by dsimp only; omega) (.int .i64 (inn + x.in_))
                have hbs2 := hbs.setCell (p := ⟨wq.heap.size, 2, none⟩) (by dsimp only; omega) (.int .i64 (inn + x.in_))
                have HPn := hidden ((HP.out.set 2 (.int .i64 (inn + x.in_))).of_eq rfl)
                clear HP HX
                go_wp2_with fail
                refine (HUp.out _ hbx2 (K : Int)).mono ?_
                rintro r w7 ⟨rfl, hb7⟩
                have HP9 : Hid (Holds w7 wq.heap.size 141 #[.int .i64 l, .int .i64 gp, .int .i64 (inn + x.in_)]) := hidden (HPn.out.below hb7 HPn.out.lt)
                have hbr := hbs2.trans (hb7.mono hbs2.size)
                clear hb7 HPn
                go_wp2
                go_roundg ((upOf t K + 1).toNat)
                case measure => omega
                case rel => exact ⟨_, _, _, rfl, by omega, by omega, rfl, HSub9, hidden HGp9, by omega, hidden HIn9.out, by omega, HP9, hbr⟩
          · obtain rfl : kI = -1 := by omega
            have hgx : gapUpI g t l (-1) = 0 := rfl
            have hix : inUpI g t (-1) = 0 := rfl
            have HPA : Hid (placeAt g t l = ⟨l, gp, inn⟩) := hidden (by
              have h1 := HGp.out; have h2 := HIn.out
              rw [hgx] at h1
              rw [hix] at h2
              unfold placeAt
              rw [← h1, ← h2]
              congr 1 <;> omega)
            obtain ⟨A0, c0, rfl⟩ := HM.out.value
            have HM9 := hidden (Mine.below HM.out hbq)
            have o0 : wr.cell? ⟨_, 0, none⟩ = some (.int .i64 l) := HP.out.cell 0
            have o1 : wr.cell? ⟨_, 1, none⟩ = some (.int .i64 gp) := HP.out.cell 1
            have o2 : wr.cell? ⟨_, 2, none⟩ = some (.int .i64 inn) := HP.out.cell 2
            have hwz := hbq.size
            clear HP HM HGp HIn HSub HLt
            go_wp2_with (at_builtin; refine wpList_append_pl rfl _ _ 63 141 141 rfl (by kernel_rfl) refPlace_info rfl w.heap.size _ _ HM9 ⟨l, gp, inn⟩ rfl rfl rfl (by first | rfl | simp) (by omega) (by omega) ?_; intro v' w' hM hb hK hO)
            have hbn := (hbw.trans (hbq.mono hbz)).trans hb
            have h3z := hb3.size
            have HKn : Hid (Keeps (fun j => j ≠ w.heap.size + 1) w3 w') := hidden ⟨by have := hK.out.size; omega, fun j hj hl => by
              rw [hK.out.block j (by rcases HOw.out with e | ⟨q, e, h9⟩ <;> rw [e] <;> intro e9 <;> cases e9 <;> omega) (by omega), hbq.block j (by omega), hb3.block j hj hl]⟩
            have HOn : Hid (v'.ownBlock = some (w.heap.size + 1) ∨ ∃ q, v'.ownBlock = some q ∧ w3.heap.size ≤ q) := hidden (by
              rcases hO.out with e | ⟨q, e, h1, h2⟩
              · rw [e]; exact HOw.out
              · exact .inr ⟨q, e, by omega⟩)
            go_roundg (L.length - (k + 1))
            case measure => omega
            case rel => exact ⟨k + 1, by omega, rfl, by go_num, hidden (by rw [HTk.out, HPA.out]; exact hM.out), HOn, HKn.out, hbn⟩
      · obtain rfl : k = L.length := by omega
        rw [List.take_length] at HM
        go_wp2
        go_ret
        exact ⟨⟨_, rfl, by rw [HPo.out]; exact HM⟩, hbw⟩
end Go.Proofs.Ytbjheaiiajpifaa.T
