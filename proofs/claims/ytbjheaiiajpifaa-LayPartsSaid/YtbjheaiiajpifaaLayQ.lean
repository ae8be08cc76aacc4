/-
  law38: LayParts.
-/
import Derived.Test.YtbjheaiiajpifaaLayO
import Derived.Test.YtbjheaiiajpifaaLayP
namespace Go.Proofs.Ytbjheaiiajpifaa.T
open Go.RowKit Go.Shelf

set_option maxRecDepth 20000 in
set_option maxHeartbeats 16000000 in
theorem law_layParts (a' b' c' v : Value) (g : Gram) (t : List Node) (w : World) (HG : GramIs w (Old w) a' b' c' g) (hz : Named g) (hN : Nds w (Old w) v t) :
    Calls Try.prog 8 #[.agg (gramCells a' b' c' g), v] w fun r w' => r = .returned (.bool true) ∧ Below w.heap.size w w' := by
  have HFw := hidden (fun (w' : World) (hb : Below w.heap.size w w') => law_Few a' b' c' g w' (HG.later hb) hz)
  have HFn := hidden (fun (w' : World) (hb : Below w.heap.size w w') => few_any v t w' (hN.old hb))
  have HCk := hidden (fun (w' : World) (hb : Below w.heap.size w w') s1 s2 s3 => ref_Check a' b' c' g w' (HG.later hb) s1 s2 s3 hz)
  have HRt := hidden (fun (w' : World) (hb : Below w.heap.size w w') h4 => ref_right v t w' h4 (hN.old hb))
  have HLo := hidden (fun (w' : World) (hb : Below w.heap.size w w') s1 s2 s3 s4 => lay_Of v a' b' c' g t w' s1 s2 s3 s4 hz (HG.later hb) (hN.old hb))
  have HLv := hidden (fun (w' : World) (hb : Below w.heap.size w w') h4 => ref_leaves v t w' h4 (hN.old hb))
  have HKd := hidden (fun (w' : World) (hb : Below w.heap.size w w') h4 (i : Nat) => ref_kids v t (i : Int) w' h4 (hN.old hb))
  have HNo := hidden (fun (w' : World) (hb : Below w.heap.size w w') => hN.old hb)
  have HRc := hidden HG.2.2
  have HSm := hidden (fun (h : Go.Proofs.Ytbjheaiiajpifaa.fewB g = true) => few_small h)
  have HSt : Hid (fewB t = true → t.length ≤ 120) := hidden (fun h => by unfold fewB at h; simp at h; omega)
  have HKn := hidden knows38
  have hq1 : ∀ w, (Op.equalIn 10000 71 (.agg #[.int .i64 (checkOf g).kind, .int .i64 (checkOf g).at_, .int .i64 (checkOf g).more]) (.agg #[.int .i64 0, .int .i64 0, .int .i64 0])).run Try.prog w = .ok (rightB g) w := fun w => by
    have := def_eq_run w (checkOf g) D0
    rw [right_eq] at this
    exact this
  have HRi := hidden (fun (h : rightB g = true) => h)
  have HPl := hidden (fun (hg : rightB g = true) hT j p h => place_at (g := g) (t := t) hg hT (j := j) (p := p) h)
  have HPn : Hid (rightB g = true → (placesOf g t).length = (leavesOf t).length) := hidden (fun h => by unfold placesOf; rw [if_pos h, List.length_map])
  have HIt := hidden (fun hT i (hi : i < t.length) k x h => item_kid (g := g) (t := t) hT hi (k := k) (x := x) h)
  have HIb := hidden (fun (hg : rightB g = true) i => it_bounds hg t i)
  have HIw := hidden (fun (hg : rightB g = true) k l => in_within hg (t := t) (k := k) l)
  obtain ⟨A1, k1, rfl, v1, m1⟩ := HG.1.value
  obtain ⟨A2, k2, rfl, v2, m2⟩ := HG.2.1.val
  obtain ⟨A3, k3, rfl, v3, m3⟩ := HG.2.2.value
  obtain ⟨A4, k4, rfl, v4, m4⟩ := hN.value
  unfold maxLen at m3 m4
  have hb0 : Below w.heap.size w (w.alloc (.cells #[.slice A1 g.toks.length k1, .slice A2 g.rules.length k2, .slice A3 g.prods.length k3, .int .i64 g.start, .int .i64 g.states, .int .i64 g.text, .int .i64 g.nodes, .int .i64 g.pairs] 26)) := (by repeat (first | (with_reducible exact Below.refl _ _) | (with_reducible assumption) | (with_reducible refine Below.drew ?_) | (with_reducible refine below_drewN ?_ _) | ((with_reducible refine below_alloc ?_ ?_); (focus (first | omega | (simp; done) | (simp; omega)))) | ((with_reducible refine below_set ?_ ?_); (focus (first | omega | (simp; done) | (simp; omega))))))
  have HB0 := hidden (Holds.new w 26 #[.slice A1 g.toks.length k1, .slice A2 g.rules.length k2, .slice A3 g.prods.length k3, .int .i64 g.start, .int .i64 g.states, .int .i64 g.text, .int .i64 g.nodes, .int .i64 g.pairs])
  clear HG hN hz
  unfold gramCells at *
  have hcs : Go.Proofs.Ytbjheaiiajpifaa.fewB g = false ∨ (Go.Proofs.Ytbjheaiiajpifaa.fewB g = true ∧ fewB t = false) ∨ (Go.Proofs.Ytbjheaiiajpifaa.fewB g = true ∧ fewB t = true ∧ rightB g = false) ∨ (Go.Proofs.Ytbjheaiiajpifaa.fewB g = true ∧ fewB t = true ∧ rightB g = true ∧ treeB t = false) ∨ (Go.Proofs.Ytbjheaiiajpifaa.fewB g = true ∧ fewB t = true ∧ rightB g = true ∧ treeB t = true) := by
    cases Go.Proofs.Ytbjheaiiajpifaa.fewB g <;> cases fewB t <;> cases rightB g <;> cases treeB t <;> simp
  rcases hcs with fg | ⟨fg, ft⟩ | ⟨fg, ft, fr⟩ | ⟨fg, ft, fr, fT⟩ | ⟨fg, ft, fr, fT⟩
  · rw [fg] at HFw
    go_enter Try.func8, Try.ntmps8
    obtain ⟨s0, s1, s2, s3, s4, s5, s6, s7⟩ := eight38 HB0.out
    go_wp2_with fail
    refine (HFw.out _ hb0).mono ?_
    rintro r w2 ⟨rfl, hb2⟩
    replace HB0 := hidden (HB0.out.below hb2 HB0.out.lt)
    replace hb0 := below_more hb0 hb2
    clear s0 s1 s2 s3 s4 s5 s6 s7 hb2 HFw
    go_wp2_with fail
    refine (HKn.out _).mono ?_
    rintro r w9 ⟨rfl, hb9⟩
    have hbz9 := below_more hb0 hb9
    clear hb9
    go_wp2
    go_ret
    exact ⟨rfl, hbz9⟩
  · rw [fg] at HFw
    rw [ft] at HFn
    go_enter Try.func8, Try.ntmps8
    obtain ⟨s0, s1, s2, s3, s4, s5, s6, s7⟩ := eight38 HB0.out
    go_wp2_with fail
    refine (HFw.out _ hb0).mono ?_
    rintro r w2 ⟨rfl, hb2⟩
    replace HB0 := hidden (HB0.out.below hb2 HB0.out.lt)
    replace hb0 := below_more hb0 hb2
    clear s0 s1 s2 s3 s4 s5 s6 s7 hb2 HFw
    go_wp2_with fail
    refine (HFn.out _ hb0).mono ?_
    rintro r w2 ⟨rfl, hb2⟩
    replace HB0 := hidden (HB0.out.below hb2 HB0.out.lt)
    replace hb0 := below_more hb0 hb2
    clear hb2 HFn
    go_wp2_with fail
    refine (HKn.out _).mono ?_
    rintro r w9 ⟨rfl, hb9⟩
    have hbz9 := below_more hb0 hb9
    clear hb9
    go_wp2
    go_ret
    exact ⟨rfl, hbz9⟩
  · rw [fg] at HFw
    rw [ft] at HFn
    rw [fr] at hq1
    obtain ⟨g1, g2, g3⟩ := HSm.out fg
    have ht := HSt.out ft
    go_enter Try.func8, Try.ntmps8
    obtain ⟨s0, s1, s2, s3, s4, s5, s6, s7⟩ := eight38 HB0.out
    go_wp2_with fail
    refine (HFw.out _ hb0).mono ?_
    rintro r w2 ⟨rfl, hb2⟩
    replace HB0 := hidden (HB0.out.below hb2 HB0.out.lt)
    replace hb0 := below_more hb0 hb2
    clear s0 s1 s2 s3 s4 s5 s6 s7 hb2 HFw
    go_wp2_with fail
    refine (HFn.out _ hb0).mono ?_
    rintro r w2 ⟨rfl, hb2⟩
    replace HB0 := hidden (HB0.out.below hb2 HB0.out.lt)
    replace hb0 := below_more hb0 hb2
    clear hb2 HFn
    obtain ⟨s0, s1, s2, s3, s4, s5, s6, s7⟩ := eight38 HB0.out
    go_wp2_with fail
    refine (HCk.out _ hb0 (by omega) (by omega) (by omega)).mono ?_
    rintro r w2 ⟨rfl, hb2⟩
    replace HB0 := hidden (HB0.out.below hb2 HB0.out.lt)
    replace hb0 := below_more hb0 hb2
    unfold defC
    generalize checkOf g = d at *
    clear s0 s1 s2 s3 s4 s5 s6 s7 hb2 HCk
    go_wp2_with fail
    refine (HKn.out _).mono ?_
    rintro r w9 ⟨rfl, hb9⟩
    have hbz9 := below_more hb0 hb9
    clear hb9
    go_wp2
    go_ret
    exact ⟨rfl, hbz9⟩
  · rw [fg] at HFw
    rw [ft] at HFn
    rw [fr] at hq1
    rw [fT] at HRt
    obtain ⟨g1, g2, g3⟩ := HSm.out fg
    have ht := HSt.out ft
    go_enter Try.func8, Try.ntmps8
    obtain ⟨s0, s1, s2, s3, s4, s5, s6, s7⟩ := eight38 HB0.out
    go_wp2_with fail
    refine (HFw.out _ hb0).mono ?_
    rintro r w2 ⟨rfl, hb2⟩
    replace HB0 := hidden (HB0.out.below hb2 HB0.out.lt)
    replace hb0 := below_more hb0 hb2
    clear s0 s1 s2 s3 s4 s5 s6 s7 hb2 HFw
    go_wp2_with fail
    refine (HFn.out _ hb0).mono ?_
    rintro r w2 ⟨rfl, hb2⟩
    replace HB0 := hidden (HB0.out.below hb2 HB0.out.lt)
    replace hb0 := below_more hb0 hb2
    clear hb2 HFn
    obtain ⟨s0, s1, s2, s3, s4, s5, s6, s7⟩ := eight38 HB0.out
    go_wp2_with fail
    refine (HCk.out _ hb0 (by omega) (by omega) (by omega)).mono ?_
    rintro r w2 ⟨rfl, hb2⟩
    replace HB0 := hidden (HB0.out.below hb2 HB0.out.lt)
    replace hb0 := below_more hb0 hb2
    unfold defC
    generalize checkOf g = d at *
    clear s0 s1 s2 s3 s4 s5 s6 s7 hb2 HCk
    go_wp2_with fail
    refine (HRt.out _ hb0 (by omega)).mono ?_
    rintro r w2 ⟨rfl, hb2⟩
    replace HB0 := hidden (HB0.out.below hb2 HB0.out.lt)
    replace hb0 := below_more hb0 hb2
    clear hb2 HRt hq1
    go_wp2_with fail
    refine (HKn.out _).mono ?_
    rintro r w9 ⟨rfl, hb9⟩
    have hbz9 := below_more hb0 hb9
    clear hb9
    go_wp2
    go_ret
    exact ⟨rfl, hbz9⟩
  · rw [fg] at HFw
    rw [ft] at HFn
    rw [fr] at hq1
    rw [fT] at HRt
    have HT := hidden (treeB_iff.1 fT)
    obtain ⟨g1, g2, g3⟩ := HSm.out fg
    have ht := HSt.out ft
    go_enter Try.func8, Try.ntmps8
    obtain ⟨s0, s1, s2, s3, s4, s5, s6, s7⟩ := eight38 HB0.out
    go_wp2_with fail
    refine (HFw.out _ hb0).mono ?_
    rintro r w2 ⟨rfl, hb2⟩
    replace HB0 := hidden (HB0.out.below hb2 HB0.out.lt)
    replace hb0 := below_more hb0 hb2
    clear s0 s1 s2 s3 s4 s5 s6 s7 hb2 HFw
    go_wp2_with fail
    refine (HFn.out _ hb0).mono ?_
    rintro r w2 ⟨rfl, hb2⟩
    replace HB0 := hidden (HB0.out.below hb2 HB0.out.lt)
    replace hb0 := below_more hb0 hb2
    clear hb2 HFn
    obtain ⟨s0, s1, s2, s3, s4, s5, s6, s7⟩ := eight38 HB0.out
    go_wp2_with fail
    refine (HCk.out _ hb0 (by omega) (by omega) (by omega)).mono ?_
    rintro r w2 ⟨rfl, hb2⟩
    replace HB0 := hidden (HB0.out.below hb2 HB0.out.lt)
    replace hb0 := below_more hb0 hb2
    unfold defC
    generalize checkOf g = d at *
    clear s0 s1 s2 s3 s4 s5 s6 s7 hb2 HCk
    go_wp2_with fail
    refine (HRt.out _ hb0 (by omega)).mono ?_
    rintro r w2 ⟨rfl, hb2⟩
    replace HB0 := hidden (HB0.out.below hb2 HB0.out.lt)
    replace hb0 := below_more hb0 hb2
    clear hb2 HRt hq1
    obtain ⟨s0, s1, s2, s3, s4, s5, s6, s7⟩ := eight38 HB0.out
    go_wp2_with fail
    refine (HLo.out _ hb0 (by omega) (by omega) (by omega) (by omega)).mono ?_
    rintro r w4 ⟨⟨u4, rfl, HF4⟩, hb4⟩
    have HR4 := hidden (FlatM.rd HF4.out)
    replace HB0 := hidden (HB0.out.below hb4 HB0.out.lt)
    replace hb0 := below_more hb0 hb4
    clear hb4 HF4 s0 s1 s2 s3 s4 s5 s6 s7 HLo
    obtain ⟨A6, c6, rfl, d1, d2⟩ := HR4.out.val
    unfold maxLen at d2
    have hPn := HPn.out fr
    go_wp2_with fail
    refine (HLv.out _ hb0 (by omega)).mono ?_
    rintro r w5 ⟨⟨u5, rfl, HF5⟩, hb5⟩
    replace HR4 := hidden (Rd.old HR4.out hb5)
    replace HB0 := hidden (HB0.out.below hb5 HB0.out.lt)
    replace hb0 := below_more hb0 hb5
    obtain ⟨A7, c7, rfl⟩ := HF5.out.value
    rw [← hPn]
    have HPa := hidden (fun j p h => HPl.out fr HT.out j p h)
    have HPc := hidden (fun (W' : World) (hb : Below w5.heap.size w5 W') j (p : Plc) (h : (placesOf g t)[j]? = some p) => Rd.flat_at (Rd.old HR4.out hb) (fun _ => rfl) (by decide) h)
    have hPl : (placesOf g t).length ≤ t.length := by rw [hPn]; exact leavesTo_len t t.length
    have HAt := hidden (fun (W' : World) (hb : Below w.heap.size w W') => HNo.out W' hb)
    have HIk := hidden (fun i (hi : i < t.length) k x h => HIt.out HT.out i hi k x h)
    have HIb2 := hidden (HIb.out fr)
    have HIw2 := hidden (HIw.out fr)
    have q9 : ((placesOf g t).length != (placesOf g t).length) = false := by simp
    clear HF5 hPn HPn HPl HIt HIb HIw HLv hb5 HSm HSt HRi HR4
    have hne : t ≠ [] := by intro e; have := tree_len HT.out; subst e; simp at this
    obtain ⟨b1, o1, c1, hv1, _, _, _, _⟩ := (HAt.out _ hb0).open_ hne
    simp only [Value.slice.injEq] at hv1
    obtain ⟨rfl, _, rfl⟩ := hv1
    have HNd := hidden (fun (W' : World) (hb : Below w.heap.size w W') k x (hx : t[k]? = some x) => by
      obtain ⟨b2, o2, c2, hv, _, _, _, hat1⟩ := (HAt.out W' hb).open_ hne
      simp only [Value.slice.injEq, Option.some.injEq, Addr.mk.injEq] at hv
      obtain ⟨⟨rfl, rfl, _⟩, _, _⟩ := hv
      exact hat1 k x hx)
    have HBc : Hid (∀ W' : World, Below w5.heap.size w5 W' → W'.cell? ⟨w.heap.size, 2, none⟩ = some (.slice A3 g.prods.length k3)) := hidden (fun W' hb => (HB0.out.below hb HB0.out.lt).cell 2)
    have hPk : ∀ i, Go.Proofs.Ytbjheaiiajpifaa.T.kidsL t i = kidsL t i := fun _ => rfl
    clear hPk HNo hne HB0
    generalize hP9 : placesOf g t = P at *
    clear hP9
    go_wp2_with fail
    go_loopg [6] t.length (fun gh ii wr => ∃ i : Nat, i ≤ t.length ∧ gh = t.length - i ∧ ii = .int .i64 i ∧ Below w5.heap.size w5 wr)
    case atStart => exact ⟨0, by omega, by omega, by go_num, Below.refl _ _⟩
    case round =>
      obtain ⟨i, hi, rfl, rfl, hb5⟩ := hrel
      have hbw := below_more hb0 hb5
      by_cases hlt : i < t.length
      · have hx := List.getElem?_eq_getElem hlt
        have HKi := hidden (HKd.out wr hbw (by omega) i)
        rw [kidsOf_in HT.out hlt] at HKi
        have HIi := hidden (HIk.out i hlt)
        have HCs := hidden (fun k x h => cntTo_succ (t := t) (L := kidsL t i) (k := k) (x := x) h)
        have HUp := hidden (fun k x h => by have h1 := kid_up HT.out hlt (List.mem_of_getElem? (show (kidsL t i)[k]? = some x from h)); have h2 := tree_node HT.out hlt; have h3 := tree_node HT.out (k := x) (by omega); exact (⟨by omega, h3.1, h3.2.1⟩ : x < t.length ∧ 1 ≤ sz t x ∧ x + sz t x ≤ t.length))
        have HC0 : Hid (cntTo t (kidsL t i) 0 = 0) := hidden (by unfold cntTo; simp)
        have hkl : (kidsL t i).length ≤ t.length := by
          have := kidsFrom_len t (i + sz t i) _ (i + 1) (Nat.le_refl _)
          have := tree_node HT.out hlt
          unfold kidsL
          omega
        have HRa := hidden (fun (p : Prod) (h : prodAt g t i = some p) => (by unfold rightAt; rw [h] : rightAt g t i = p.right))
        have HPr : Hid (∀ (nx : Nat) (p : Prod), t[i].kind = 2 → t[i].n = (nx : Int) → g.prods[nx]? = some p → prodAt g t i = some p) := hidden (fun nx p h1 h2 h3 => by
          unfold prodAt
          rw [hx]
          dsimp only
          rw [if_pos ⟨h1, by omega⟩, h2, Int.toNat_natCast, h3])
        go_wp2_with fail
        refine HKi.out.mono ?_
        rintro r w6 ⟨⟨u6, rfl, HM6⟩, hb6⟩
        have hb56 := hb5.trans (hb6.mono hb5.size)
        have hbw6 := below_more hb0 hb56
        have HKr := hidden (HM6.out.rd (T := Old w6) (fun _ _ _ h => h))
        obtain ⟨A8, c8, rfl, e1, e2⟩ := HKr.out.val
        unfold maxLen at e2
        generalize hL9 : kidsL t i = L at *
        have HKc := hidden (fun (W' : World) (hb : Below w6.heap.size w6 W') k q (h : L[k]? = some q) => Rd.ints_at (Rd.old HKr.out hb) h)
        obtain ⟨_, x0, x1, _, _, _, _⟩ := HNd.out _ hbw6 i _ hx
        have xg := HBc.out _ hb56
        clear HM6 HKr hb6 hL9 HKi hx
        generalize hx9 : t[i] = x at *
        have HX9 := hidden hx9
        clear hx9
        have hcs : x.kind ≠ 2 ∨ (x.kind = 2 ∧ x.n < 0) ∨ (x.kind = 2 ∧ 0 ≤ x.n ∧ (g.prods.length : Int) ≤ x.n) ∨ (x.kind = 2 ∧ 0 ≤ x.n ∧ x.n < g.prods.length) := by omega
        have y0 := Ext.cell x0; have y1 := Ext.cell x1; have yg := Ext.cell xg
        clear x0 x1 xg
        rcases hcs with p1 | ⟨p1, p2⟩ | ⟨p1, p2, p3⟩ | ⟨p1, p2, p3⟩
        · have q1 : (x.kind != 2) = true := by simpa using p1
          go_wp2_with fail
          refine wp_region_ext (by kernel_rfl) (by kernel_rfl) ?_
          repeat (go_big_quiet_step (fail))
          refine wpQuiet_nil ?_
          intro w7 hbw7
          have hbn := hb56.trans (hbw7.mono hb56.size)
          clear hbw7 y0 y1 yg
          go_wp2
          go_roundg (t.length - (i + 1))
          case measure => omega
          case rel => exact ⟨i + 1, by omega, rfl, by go_num, hbn⟩
        · have q1 : (x.kind != 2) = false := by simpa using p1
          have q2 : decide (x.n < 0) = true := by simp [p2]
          go_wp2_with fail
          refine wp_region_ext (by kernel_rfl) (by kernel_rfl) ?_
          repeat (go_big_quiet_step (fail))
          refine wpQuiet_nil ?_
          intro w7 hbw7
          have hbn := hb56.trans (hbw7.mono hb56.size)
          clear hbw7 y0 y1 yg
          go_wp2
          go_roundg (t.length - (i + 1))
          case measure => omega
          case rel => exact ⟨i + 1, by omega, rfl, by go_num, hbn⟩
        · have q1 : (x.kind != 2) = false := by simpa using p1
          have q2 : decide (x.n < 0) = false := by simp; omega
          have q3 : decide ((g.prods.length : Int) ≤ x.n) = true := by simp [p3]
          go_wp2_with fail
          refine wp_region_ext (by kernel_rfl) (by kernel_rfl) ?_
          repeat (go_big_quiet_step (fail))
          refine wpQuiet_nil ?_
          intro w7 hbw7
          have hbn := hb56.trans (hbw7.mono hb56.size)
          clear hbw7 y0 y1 yg
          go_wp2
          go_roundg (t.length - (i + 1))
          case measure => omega
          case rel => exact ⟨i + 1, by omega, rfl, by go_num, hbn⟩
        · have q1 : (x.kind != 2) = false := by simpa using p1
          obtain ⟨nx, hnx⟩ := Int.eq_ofNat_of_zero_le p2
          rw [hnx] at p3 y1
          have hnl : nx < g.prods.length := by omega
          have hpr := List.getElem?_eq_getElem hnl
          have q2 : decide ((nx : Int) < 0) = false := by simp
          have q3 : decide (g.prods.length ≤ nx) = false := by simp; omega
          have HRi := hidden (HRa.out _ (HPr.out nx _ p1 hnx hpr))
          obtain ⟨b6, o6, l6, rfl, hT6, hat6, hrt⟩ := HRc.out.at_ hpr
          generalize g.prods[nx] = p at *
          have z1 : w.cell? ⟨b6, o6 + nx * 2 + 1, none⟩ = some l6 := hat6 1 _ rfl
          have hrt : Rd w (Old w) 4 l6 p.right.length (p.right.flatMap itCells) := hrt
          obtain ⟨A9, c9, rfl, v9, m9⟩ := hrt.val
          unfold maxLen at m9
          have HRt := hidden hrt
          have HZ1 := hidden (fun (W' : World) (hb : Below w.heap.size w W') => cell_on z1 hb)
          have HX1 : Hid (∀ W' : World, Below w.heap.size w W' → W'.cell? ⟨b1, o1 + i * 5 + 1, none⟩ = some (.int .i64 nx)) := hidden (fun W' hb => by
            obtain ⟨_, _, x1, _⟩ := HNd.out W' hb i _ (List.getElem?_eq_getElem hlt)
            rw [HX9.out, hnx] at x1
            exact x1)
          clear hat6 hrt hpr HPr HRa z1 hnx p1 p3
          go_wp2_with fail
          refine wp_region_ext (by kernel_rfl) (by kernel_rfl) ?_
          repeat (go_big_quiet_step (fail))
          refine wpQuiet_nil ?_
          intro w7 hbw7
          have hb57 := hb56.trans (hbw7.mono hb56.size)
          have hb67 := hbw7
          clear hbw7 y0 y1 yg q1 q2 q3
          have hbw7 := below_more hb0 hb57
          go_wp2_with fail
          go_loopg [8, 9] L.length (fun gh nn kk wr2 => ∃ k n : Nat, k ≤ L.length ∧ gh = L.length - k ∧ nn = .int .i64 n ∧ kk = .int .i64 k ∧ Hid (n = min (cntTo t L k) p.right.length) ∧ Below w7.heap.size w7 wr2)
          case atStart => exact ⟨0, 0, by omega, by omega, by go_num, by go_num, hidden (by rw [HC0.out]; simp), Below.refl _ _⟩
          case round =>
            obtain ⟨k, n, hk, rfl, rfl, rfl, HNn, hb7⟩ := hrel
            by_cases hkl2 : k < L.length
            · have hu := List.getElem?_eq_getElem hkl2
              have HCk9 := hidden (HCs.out k _ hu)
              have HIq := hidden (HIi.out k _ hu)
              obtain ⟨q1, q2, q3⟩ := HUp.out k _ hu
              obtain ⟨b5, o5, rfl, _, l0⟩ := HKc.out wr (hb67.trans (hb7.mono hb67.size)) k _ hu
              have HKq := hidden (fun (W' : World) (hb : Below w6.heap.size w6 W') => by
                have := HKc.out W' hb k _ hu
                obtain ⟨b9, o9, e9, _, l9⟩ := this
                simp only [Option.some.injEq, Addr.mk.injEq] at e9
                obtain ⟨rfl, rfl, _⟩ := e9
                exact l9)
              have hb58 := hb57.trans (hb7.mono hb57.size)
              have hbw8 := below_more hb0 hb58
              obtain ⟨_, x0, _, x2, _, _, _⟩ := HNd.out wr hbw8 _ _ (List.getElem?_eq_getElem q1)
              have hsz := (tree_node HT.out q1).2.2
              rw [hsz] at x2
              have HSz : Hid (∀ W' : World, Below w.heap.size w W' → W'.cell? ⟨b1, o1 + L[k] * 5 + 2, none⟩ = some (.int .i64 (sz t L[k]))) := hidden (fun W' hb => by
                obtain ⟨_, _, _, x3, _⟩ := HNd.out W' hb _ _ (List.getElem?_eq_getElem q1)
                rw [hsz] at x3
                exact x3)
              have HBq : Hid (badAt t L[k] = decide (t[L[k]].kind = 4)) := hidden (by unfold badAt; rw [List.getElem?_eq_getElem q1])
              have xg := HBc.out _ hb58
              have x1 := HX1.out _ hbw8
              have z1 := HZ1.out _ hbw8
              generalize hLk : L[k] = q at *
              generalize hqk : t[q].kind = kq at *
              clear hLk hu hsz hqk
              have y0 := Ext.cell x0; have yl := Ext.cell l0; have yg := Ext.cell xg; have y1 := Ext.cell x1; have yz := Ext.cell z1
              clear x0 x2 l0 xg x1 z1
              by_cases hb4 : kq = 4
              · have q4 : (kq == 4) = true := by simpa using hb4
                have HN2 : Hid (n = min (cntTo t L (k + 1)) p.right.length) := hidden (by rw [HCk9.out, if_pos (by rw [HBq.out]; simpa using hb4), Nat.add_zero]; exact HNn.out)
                clear HNn HCk9 HIq HBq hb4
                go_wp2_with fail
                refine wp_region_ext (by kernel_rfl) (by kernel_rfl) ?_
                repeat (go_big_quiet_step (fail))
                refine wpQuiet_nil ?_
                intro w9 hbw9
                have hb79 := hb7.trans (hbw9.mono hb7.size)
                clear hbw9 y0 yl yg y1 yz q4
                go_wp2
                go_roundg (L.length - (k + 1))
                case measure => omega
                case rel => exact ⟨k + 1, n, by omega, rfl, by go_num, by go_num, HN2, hb79⟩
              · have q4 : (kq == 4) = false := by simpa using hb4
                have hbf : badAt t q = false := by rw [HBq.out]; simpa using hb4
                by_cases hnl2 : p.right.length ≤ n
                · have q5 : decide (p.right.length ≤ n) = true := by simp [hnl2]
                  have HN2 : Hid (n = min (cntTo t L (k + 1)) p.right.length) := hidden (by rw [HCk9.out, if_neg (by rw [hbf]; decide)]; have := HNn.out; omega)
                  clear HNn HCk9 HIq HBq hb4
                  go_wp2_with fail
                  refine wp_region_ext (by kernel_rfl) (by kernel_rfl) ?_
                  repeat (go_big_quiet_step (fail))
                  refine wpQuiet_nil ?_
                  intro w9 hbw9
                  have hb79 := hb7.trans (hbw9.mono hb7.size)
                  clear hbw9 y0 yl yg y1 yz q4 q5
                  go_wp2
                  go_roundg (L.length - (k + 1))
                  case measure => omega
                  case rel => exact ⟨k + 1, n, by omega, rfl, by go_num, by go_num, HN2, hb79⟩
                · have q5 : decide (p.right.length ≤ n) = false := by simp; omega
                  have hcn : cntTo t L k = n := by have := HNn.out; omega
                  have hnr : n < p.right.length := by omega
                  have hit := List.getElem?_eq_getElem hnr
                  have HN2 : Hid (n + 1 = min (cntTo t L (k + 1)) p.right.length) := hidden (by rw [HCk9.out, if_neg (by rw [hbf]; decide), hcn]; omega)
                  have HIt2 : Hid (itemOf g t q = some p.right[n]) := hidden (by rw [HIq.out, if_neg (by rw [hbf]; decide), HRi.out, hcn]; exact hit)
                  obtain ⟨b8, o8, rfl, hT8, hit8⟩ := HRt.out.flat_at (fun _ => rfl) (by decide) hit
                  generalize p.right[n] = it at *
                  have i0 := hit8 0 _ rfl; have i1 := hit8 1 _ rfl; have i2 := hit8 2 _ rfl; have i3 := hit8 3 _ rfl
                  rw [Nat.add_zero] at i0
                  clear HNn HCk9 HIq HBq hb4 hcn hit hit8
                  go_wp2_with fail
                  refine wp_region_ext (by kernel_rfl) (by kernel_rfl) ?_
                  repeat (go_big_quiet_step (fail))
                  refine wpQuiet_nil ?_
                  intro w9 hbw9
                  have hbw9 := hbw9
                  clear hbw9 y0 yl yg y1 yz q4 q5
                  have hb59 := hb58.trans (hbw9.mono hb58.size)
                  have hbww := below_more hb0 hb59
                  have xg := HBc.out _ hb59
                  have x1 := HX1.out _ hbww
                  have z1 := HZ1.out _ hbww
                  replace i0 := cell_on i0 hbww; replace i1 := cell_on i1 hbww; replace i2 := cell_on i2 hbww; replace i3 := cell_on i3 hbww
                  have HGi : Hid (gapIt g t q = it.gap) := hidden (by unfold gapIt; rw [HIt2.out]; rfl)
                  have HIi2 : Hid (inIt g t q = it.in_) := hidden (by unfold inIt; rw [HIt2.out]; rfl)
                  have hk5 := hb67.trans ((hb7.trans (hbw9.mono hb7.size)).mono hb67.size)
                  have HC9 := hidden (And.intro xg (And.intro x1 (And.intro z1 (And.intro i0 (And.intro i1 (And.intro i2 i3))))))
                  clear HIt2 xg x1 z1 i0 i1 i2 i3
                  generalize hpl9 : p.right.length = pl at *
                  clear hpl9
                  go_wp2_with fail
                  refine (wpIn_wide (n := 5)).1 ?_
                  refine wpIn_region_take (fun wv => Below w9.heap.size w9 wv) 14 (by kernel_rfl) ?_
                  have hCd : Below w9.heap.size w9 w9.drew := (Below.refl _ _).drew
                  refine take_read (i := 0) (v := ?_) (by kernel_rfl) (by rfl) rfl (by rfl) (by kernel_rfl) (by kernel_rfl) (fun _ _ _ h => h) hCd ⟨Or.inl ⟨by rfl, fun wv hw => ?_⟩, fun _ => rfl⟩ ?_
                  rotate_left
                  · clear hw
                    go_simp
                    try rfl
                  refine take_read (i := 1) (v := ?_) (by kernel_rfl) (by rfl) rfl (by rfl) (by kernel_rfl) (by kernel_rfl) (fun _ _ _ h => h) hCd ⟨Or.inl ⟨by rfl, fun wv hw => ?_⟩, fun _ => rfl⟩ ?_
                  rotate_left
                  · have r0 := cell_on HC9.out.1 hw; clear hw
                    go_simp
                    try rfl
                  refine take_read (i := 2) (v := ?_) (by kernel_rfl) (by rfl) rfl (by rfl) (by kernel_rfl) (by kernel_rfl) (fun _ _ _ h => h) hCd ⟨Or.inl ⟨by rfl, fun wv hw => ?_⟩, fun _ => rfl⟩ ?_
                  rotate_left
                  · clear hw
                    go_simp
                    try rfl
                  refine take_read (i := 3) (v := ?_) (by kernel_rfl) (by rfl) rfl (by rfl) (by kernel_rfl) (by kernel_rfl) (fun _ _ _ h => h) hCd ⟨Or.inl ⟨by rfl, fun wv hw => ?_⟩, fun _ => rfl⟩ ?_
                  rotate_left
                  · clear hw
                    go_simp
                    try rfl
                  refine take_read (i := 4) (v := ?_) (by kernel_rfl) (by rfl) rfl (by rfl) (by kernel_rfl) (by kernel_rfl) (fun _ _ _ h => h) hCd ⟨Or.inl ⟨by rfl, fun wv hw => ?_⟩, fun _ => rfl⟩ ?_
                  rotate_left
                  · clear hw
                    go_simp
                    try rfl
                  refine take_read (i := 5) (v := ?_) (by kernel_rfl) (by rfl) rfl (by rfl) (by kernel_rfl) (by kernel_rfl) (fun _ _ _ h => h) hCd ⟨Or.inl ⟨by rfl, fun wv hw => ?_⟩, fun _ => rfl⟩ ?_
                  rotate_left
                  · clear hw
                    go_simp
                    try rfl
                  refine take_read (i := 6) (v := ?_) (by kernel_rfl) (by rfl) rfl (by rfl) (by kernel_rfl) (by kernel_rfl) (fun _ _ _ h => h) hCd ⟨Or.inl ⟨by rfl, fun wv hw => ?_⟩, fun _ => rfl⟩ ?_
                  rotate_left
                  · have r0 := cell_on HC9.out.2.1 hw; clear hw
                    go_simp
                    try rfl
                  refine take_read (i := 7) (v := ?_) (by kernel_rfl) (by rfl) rfl (by rfl) (by kernel_rfl) (by kernel_rfl) (fun _ _ _ h => h) hCd ⟨Or.inl ⟨by rfl, fun wv hw => ?_⟩, fun _ => rfl⟩ ?_
                  rotate_left
                  · clear hw
                    go_simp
                    try rfl
                  refine take_read (i := 8) (v := ?_) (by kernel_rfl) (by rfl) rfl (by rfl) (by kernel_rfl) (by kernel_rfl) (fun _ _ _ h => h) hCd ⟨Or.inl ⟨by rfl, fun wv hw => ?_⟩, fun _ => rfl⟩ ?_
                  rotate_left
                  · clear hw
                    go_simp
                    try rfl
                  refine take_read (i := 9) (v := ?_) (by kernel_rfl) (by rfl) rfl (by rfl) (by kernel_rfl) (by kernel_rfl) (fun _ _ _ h => h) hCd ⟨Or.inl ⟨by rfl, fun wv hw => ?_⟩, fun _ => rfl⟩ ?_
                  rotate_left
                  · have r0 := cell_on HC9.out.2.2.1 hw; clear hw
                    go_simp
                    try rfl
                  refine take_read (i := 10) (v := ?_) (by kernel_rfl) (by rfl) rfl (by rfl) (by kernel_rfl) (by kernel_rfl) (fun _ _ _ h => h) hCd ⟨Or.inl ⟨by rfl, fun wv hw => ?_⟩, fun _ => rfl⟩ ?_
                  rotate_left
                  · clear hw
                    go_simp
                    try rfl
                  refine take_read (i := 11) (v := ?_) (by kernel_rfl) (by rfl) rfl (by rfl) (by kernel_rfl) (by kernel_rfl) (fun _ _ _ h => h) hCd ⟨Or.inl ⟨by rfl, fun wv hw => ?_⟩, fun _ => rfl⟩ ?_
                  rotate_left
                  · clear hw
                    go_simp
                    try rfl
                  refine take_read (i := 12) (v := ?_) (by kernel_rfl) (by rfl) rfl (by rfl) (by kernel_rfl) (by kernel_rfl) (fun _ _ _ h => h) hCd ⟨Or.inl ⟨by rfl, fun wv hw => ?_⟩, fun _ => rfl⟩ ?_
                  rotate_left
                  · have r0 := cell_on HC9.out.2.2.2.1 hw; have r1 := cell_on HC9.out.2.2.2.2.1 hw; have r2 := cell_on HC9.out.2.2.2.2.2.1 hw; have r3 := cell_on HC9.out.2.2.2.2.2.2 hw; clear hw
                    go_simp
                    try rfl
                  generalize hwd : w9.drew = wd at *
                  have hzd := hCd.size
                  clear hwd
                  refine take_only (i := 13) (by kernel_rfl) rfl rfl (by rfl) (fun K hK => ?_)
                  go_simp
                  refine hK _ _ (hCd.alloc hzd _) ?_
                  clear hK K
                  refine take_tail (by kernel_rfl) (by kernel_rfl) ?_
                  simp only [List.drop_succ_cons, List.drop_zero]
                  gi_wp2_with fail
                  have HXb := hidden (Holds.new wd 80 #[.bool it.rule, .int .i64 it.n, .int .i64 it.gap, .int .i64 it.in_])
                  have hbe := hCd.alloc hzd (.cells #[.bool it.rule, .int .i64 it.n, .int .i64 it.gap, .int .i64 it.in_] 80)
                  have hb5e := hb59.trans (hbe.mono hb59.size)
                  have hk5e := hk5.trans (hbe.mono hk5.size)
                  have hbwe := below_more hb0 hb5e
                  have hb7e := (hb7.trans (hbw9.mono hb7.size)).trans (hbe.mono (hb7.trans (hbw9.mono hb7.size)).size)
                  generalize wd.alloc (.cells #[.bool it.rule, .int .i64 it.n, .int .i64 it.gap, .int .i64 it.in_] 80) = we at *
                  generalize wd.heap.size = be at *
                  clear hbe hCd hzd HC9
                  go_wp2_with fail
                  go_loopg [11, 12] P.length (fun gh fb jj wr => ∃ (j : Nat) (f : Bool), j ≤ P.length ∧ gh = P.length - j ∧ fb = .bool f ∧ jj = .int .i64 j ∧ Hid (f = true → ∀ m l, m < j → (texts t t.length)[m]? = some l → ¬ (q ≤ l ∧ l < q + sz t q)) ∧ Below we.heap.size we wr)
                  case atStart => exact ⟨0, true, by omega, by omega, rfl, by go_num, hidden (fun _ m l h => by omega), Below.refl _ _⟩
                  case round =>
                    obtain ⟨j, f, hj, rfl, rfl, rfl, HF, hbj⟩ := hrel
                    by_cases hjl : j < P.length
                    · have hpj := List.getElem?_eq_getElem hjl
                      obtain ⟨l, hl1, hl2, hl3⟩ := HPa.out j _ hpj
                      have hb5j := hb5e.trans (hbj.mono hb5e.size)
                      have hbwj := below_more hb0 hb5j
                      obtain ⟨b9, o9, rfl, _, hp9⟩ := HPc.out wr hb5j j _ hpj
                      rw [hl3] at hp9
                      have y0 : wr.cell? ⟨b9, o9 + j * 3, none⟩ = some (.int .i64 l) := hp9 0 _ rfl
                      have y1 : wr.cell? ⟨b9, o9 + j * 3 + 1, none⟩ = some (.int .i64 (gapUp g t l l)) := hp9 1 _ rfl
                      have y2 : wr.cell? ⟨b9, o9 + j * 3 + 2, none⟩ = some (.int .i64 (inUp g t l)) := hp9 2 _ rfl
                      have y3 := HKq.out wr (hk5e.trans (hbj.mono hk5e.size))
                      have y4 := HSz.out wr hbwj
                      have y5 : wr.cell? ⟨be, 2, none⟩ = some (.int .i64 it.gap) := (HXb.out.below hbj HXb.out.lt).cell 2
                      have y6 : wr.cell? ⟨be, 3, none⟩ = some (.int .i64 it.in_) := (HXb.out.below hbj HXb.out.lt).cell 3
                      have hIn := HIw2.out q l
                      have hGp := fun h => gap_within (g := g) (t := t) (k := q) (b := l) h l
                      rw [HGi.out] at hGp
                      rw [HIi2.out] at hIn
                      have HNl : Hid (f = true → l < q + sz t q → noLeaf t q l = true) := hidden (fun h1 h2 => none_ahead hl1 h2 (fun m l9 h9 h8 => HF.out h1 m l9 h9 h8))
                      have HOu : Hid (¬ (q ≤ l ∧ l < q + sz t q) → f = true → ∀ m l, m < j + 1 → (texts t t.length)[m]? = some l → ¬ (q ≤ l ∧ l < q + sz t q)) := hidden (fun ho hf m l9 h9 h8 => by
                        by_cases e : m = j
                        · subst e; rw [hl1] at h8; cases h8; exact ho
                        · exact HF.out hf m l9 (by omega) h8)
                      have HIN := hidden hIn; have HGP := hidden hGp
                      have e0 := Ext.cell y0; have e1 := Ext.cell y1; have e2 := Ext.cell y2; have e3 := Ext.cell y3; have e4 := Ext.cell y4; have e5 := Ext.cell y5; have e6 := Ext.cell y6
                      clear hpj hl1 hl3 hp9 y0 y1 y2 y3 y4 y5 y6 hIn hGp HF
                      generalize hsq : sz t q = sq at *
                      clear hsq
                      generalize gapUp g t l l = gp at *
                      generalize inUp g t l = inn at *
                      by_cases c1 : l < q
                      · have q6 : decide (l < q) = true := by simp [c1]
                        go_wp2_with fail
                        refine wp_region_ext (by kernel_rfl) (by kernel_rfl) ?_
                        repeat (go_big_quiet_step (fail))
                        refine wpQuiet_nil ?_
                        intro w10 hbw10
                        have hbj2 := hbj.trans (hbw10.mono hbj.size)
                        clear hbw10 e0 e1 e2 e3 e4 e5 e6 q6
                        go_wp2
                        go_roundg (P.length - (j + 1))
                        case measure => omega
                        case rel => exact ⟨j + 1, f, by omega, rfl, rfl, by go_num, hidden (HOu.out (by omega)), hbj2⟩
                      · have q6 : decide (l < q) = false := by simp; omega
                        by_cases c2 : q + sq ≤ l
                        · have q7 : decide ((q : Int) + (sq : Int) ≤ (l : Int)) = true := by simp; omega
                          go_wp2_with fail
                          refine wp_region_ext (by kernel_rfl) (by kernel_rfl) ?_
                          repeat (go_big_quiet_step (fail))
                          refine wpQuiet_nil ?_
                          intro w10 hbw10
                          have hbj2 := hbj.trans (hbw10.mono hbj.size)
                          clear hbw10 e0 e1 e2 e3 e4 e5 e6 q6 q7
                          go_wp2
                          go_roundg (P.length - (j + 1))
                          case measure => omega
                          case rel => exact ⟨j + 1, f, by omega, rfl, rfl, by go_num, hidden (HOu.out (by omega)), hbj2⟩
                        · have q7 : decide ((q : Int) + (sq : Int) ≤ (l : Int)) = false := by simp; omega
                          have q8 : decide (inn < it.in_) = false := by have := HIN.out (by omega) (by omega); simp; omega
                          go_wp2_with fail
                          refine wp_region_ext (by kernel_rfl) (by kernel_rfl) ?_
                          repeat (go_big_quiet_step (fail))
                          refine wpQuiet_nil ?_
                          intro w10 hbw10
                          have hbj2 := hbj.trans (hbw10.mono hbj.size)
                          replace e1 := cell_on (e1 ⟨wr, Below.refl _ _⟩) hbw10
                          replace e2 := cell_on (e2 ⟨wr, Below.refl _ _⟩) hbw10
                          replace e5 := cell_on (e5 ⟨wr, Below.refl _ _⟩) hbw10
                          replace e6 := cell_on (e6 ⟨wr, Below.refl _ _⟩) hbw10
                          clear hbw10 e0 e3 e4 q6 q7
                          have f1 := Ext.cell e1; have f2 := Ext.cell e2; have f5 := Ext.cell e5; have f6 := Ext.cell e6
                          clear e1 e2 e5 e6
                          cases f with
                          | true =>
                            have q9 : decide (gp < it.gap) = false := by have := HGP.out (HNl.out rfl (by omega)) (by omega) (by omega); simp; omega
                            go_wp2_with fail
                            refine wp_region_ext (by kernel_rfl) (by kernel_rfl) ?_
                            repeat (go_big_quiet_step (fail))
                            refine wpQuiet_nil ?_
                            intro w11 hbw11
                            replace hbj2 := hbj2.trans (hbw11.mono hbj2.size)
                            clear hbw11 f1 f2 f5 f6 q8 q9
                            go_wp2
                            go_roundg (P.length - (j + 1))
                            case measure => omega
                            case rel => exact ⟨j + 1, false, by omega, rfl, rfl, by go_num, hidden (fun h => by cases h), hbj2⟩
                          | false =>
                            go_wp2_with fail
                            refine wp_region_ext (by kernel_rfl) (by kernel_rfl) ?_
                            repeat (go_big_quiet_step (fail))
                            refine wpQuiet_nil ?_
                            intro w11 hbw11
                            replace hbj2 := hbj2.trans (hbw11.mono hbj2.size)
                            clear hbw11 f1 f2 f5 f6 q8
                            go_wp2
                            go_roundg (P.length - (j + 1))
                            case measure => omega
                            case rel => exact ⟨j + 1, false, by omega, rfl, rfl, by go_num, hidden (fun h => by cases h), hbj2⟩
                    · go_wp2
                      go_roundg (L.length - (k + 1))
                      case measure => omega
                      case rel => exact ⟨k + 1, n + 1, by omega, rfl, by go_num, by go_num, HN2, hb7e.trans (hbj.mono hb7e.size)⟩
            · go_wp2
              go_roundg (t.length - (i + 1))
              case measure => omega
              case rel => exact ⟨i + 1, by omega, rfl, by go_num, hb57.trans (hb7.mono hb57.size)⟩
      · obtain rfl : i = t.length := by omega
        go_wp2_with fail
        refine (HKn.out _).mono ?_
        rintro r w9 ⟨rfl, hb9⟩
        have hbz9 := below_more hbw hb9
        clear hb9
        go_wp2
        go_ret
        exact ⟨rfl, hbz9⟩

end Go.Proofs.Ytbjheaiiajpifaa.T
