/-
  The document's ShowItem.
-/
import Derived.Test.YtfmdmeokbbpmlaaGreatGprF
namespace Go.Proofs.YtfmdmeokbbpmlaaGreat
open Go.RowKit Go.Shelf

theorem nil_ba (s : ByteArray) : (⟨#[]⟩ : ByteArray) ++ s = s := by
  obtain ⟨⟨l⟩⟩ := s
  exact bytes_app [] l
theorem itemT_is {g : Gram} {x : Item} {nm : ByteArray} (hn : nameOf g x = nm) (h0 : nm ≠ ByteArray.empty) (h1 : 0 ≤ x.gap) (h2 : x.gap ≤ 2) (h3 : 0 ≤ x.in_) (h4 : x.in_ ≤ 8) : itemT g x = gapW x.gap ++ (nm ++ inW x) := by
  unfold itemT itemOk
  rw [hn, ba_ne h0, decide_eq_true h1, decide_eq_true h2, decide_eq_true h3, decide_eq_true h4]
  rfl
theorem itemT_not {g : Gram} {x : Item} (h : ¬ (nameOf g x ≠ ByteArray.empty ∧ 0 ≤ x.gap ∧ x.gap ≤ 2 ∧ 0 ≤ x.in_ ∧ x.in_ ≤ 8)) : itemT g x = ByteArray.empty := by
  refine itemT_none ?_
  cases e : itemOk g x with
  | false => rfl
  | true =>
    unfold itemOk at e
    simp only [Bool.and_eq_true, Bool.not_eq_true', decide_eq_true_eq] at e
    exact absurd ⟨fun k => by rw [k, ba_same] at e; exact absurd e.1 (by decide), e.2⟩ h
theorem name_some {s : ByteArray} (h : nameB s = true) : s ≠ ByteArray.empty := by
  intro e
  subst e
  by_cases hn : IsName ByteArray.empty
  · have := hn.1; exact absurd this (by decide)
  · unfold nameB at h; rw [holdsB_false hn] at h; cases h

set_option maxRecDepth 20000 in
set_option maxHeartbeats 16000000 in
theorem ref_ShowItem19 (a b c : Value) (g : Gram) (x : Item) (w : World) (HG : GramIs w (Old w) a b c g) (s1 : g.toks.length ≤ 100000) (s2 : g.rules.length ≤ 100000) (s3 : g.prods.length ≤ 100000) (hz : Named g) :
    Calls Tryz.prog 57 #[.agg (gramCells a b c g), .agg (itV x)] w fun r w' => r = .returned (.string (showItem g x)) ∧ Below w.heap.size w w' := by
  have HR := hidden (fun (w' : World) (hb : Below w.heap.size w w') => ref_Check a b c g w' (HG.old hb) s1 s2 s3 hz)
  have hq1 : Hid (∀ w, (Op.equalIn 10000 35 (.agg #[.int .i64 (checkOf g).kind, .int .i64 (checkOf g).at_, .int .i64 (checkOf g).more]) (.agg #[.int .i64 0, .int .i64 0, .int .i64 0])).run Tryz.prog w = .ok (rightB g) w) := hidden (fun w => by
    have := def_eq_run w (checkOf g) D0
    rw [right_eq] at this
    exact this)
  have HRt := hidden (fun (h : rightB g = true) => (right_iff g).1 (of_decide_eq_true h))
  obtain ⟨A1, k1, rfl, h11, h12⟩ := HG.1.value
  obtain ⟨A2, k2, rfl, h21, h22⟩ := HG.2.1.val
  obtain ⟨A3, k3, rfl, h31, h32⟩ := HG.2.2.value
  unfold maxLen at h12 h22 h32
  have hb1 := ((Below.refl w.heap.size w).alloc (Nat.le_refl _) (.cells (gramCells (.slice A1 g.toks.length k1) (.slice A2 g.rules.length k2) (.slice A3 g.prods.length k3) g) 27))
  have hb := hb1.alloc hb1.size (.cells (itV x) 47)
  have HJ := (Holds.new w 27 (gramCells (.slice A1 g.toks.length k1) (.slice A2 g.rules.length k2) (.slice A3 g.prods.length k3) g)).alloc (.cells (itV x) 47)
  have HB := Holds.new (w.alloc (.cells (gramCells (.slice A1 g.toks.length k1) (.slice A2 g.rules.length k2) (.slice A3 g.prods.length k3) g) 27)) 47 (itV x)
  rw [World.size_alloc] at HB
  have HJx := hidden HJ
  have HBx := hidden HB
  obtain ⟨res, HE⟩ : ∃ res, Hid (showItem g x = res) := ⟨_, hidden rfl⟩
  rw [HE.out]
  have HNo := hidden (fun h => itemT_not (g := g) (x := x) h)
  have HYes := hidden (fun nm hn h0 h1 h2 h3 h4 => itemT_is (g := g) (x := x) (nm := nm) hn h0 h1 h2 h3 h4)
  have HSh := hidden (fun (h : x.in_ ≤ 9223372036854775807) (w' : World) => ref_Show01 x.in_ w' h)
  have HRu := hidden (fun (w' : World) (hb : Below w.heap.size w w') (k : Nat) (s : ByteArray) (hs : g.rules[k]? = some s) => strs_at (Rd.old HG.2.1 hb) hs)
  have HTo := hidden (fun (w' : World) (hb : Below w.heap.size w w') (k : Nat) (t : Token) (ht : g.toks[k]? = some t) => (HG.1.old hb).at_ ht)
  obtain ⟨xr, xn, xg, xi⟩ := x
  unfold gramCells itV defC at *
  dsimp only at HYes HNo HSh
  clear HG hz HJ HB hb1
  go_enter Tryz.func57, Tryz.ntmps57
  go_upto_region 1 with fail
  generalize ((w.alloc (.cells #[.slice A1 g.toks.length k1, .slice A2 g.rules.length k2, .slice A3 g.prods.length k3, .int .i64 g.start, .int .i64 g.states, .int .i64 g.text, .int .i64 g.nodes, .int .i64 g.pairs] 27)).alloc (.cells #[.bool xr, .int .i64 xn, .int .i64 xg, .int .i64 xi] 47)) = w1 at *
  obtain ⟨g0, g1, g2, g3, g4, g5, g6, g7⟩ := gcells HJx.out
  have HX := hidden (HR.out w1 hb)
  go_wp2_with fail
  refine HX.out.mono ?_
  rintro r w2 ⟨rfl, hb2⟩
  replace HJx := hidden (HJx.out.below hb2 HJx.out.lt)
  replace HBx := hidden (HBx.out.below hb2 HBx.out.lt)
  have hb3 := hb.trans (hb2.mono hb.size)
  clear g0 g1 g2 g3 g4 g5 g6 g7 HX HR hb hb2
  obtain ⟨g0, g1, g2, g3, g4, g5, g6, g7⟩ := gcells HJx.out
  obtain ⟨i0, i1, i2, i3⟩ := four HBx.out
  have hq := hq1.out
  cases hr : rightB g with
  | false =>
    rw [hr] at hq
    have e0 : res = ByteArray.empty := by rw [← HE.out]; unfold showItem; rw [hr]; rfl
    subst e0
    clear HE HRt hr HNo HYes HSh HRu HTo hq1
    go_wp2
    go_ret
    exact ⟨rfl, hb3⟩
  | true =>
    rw [hr] at hq
    have HE2 : Hid (itemT g ⟨xr, xn, xg, xi⟩ = res) := hidden (by rw [← HE.out]; unfold showItem; rw [hr]; rfl)
    have HRg := hidden (HRt.out hr)
    clear HE HRt hr hq1
    by_cases hall : 0 ≤ xg ∧ xg ≤ 2 ∧ 0 ≤ xi ∧ xi ≤ 8 ∧ 0 ≤ xn
    · obtain ⟨l1, l2, l3, l4, l5⟩ := hall
      obtain ⟨k, rfl⟩ : ∃ k : Nat, xn = (k : Int) := ⟨xn.toNat, by omega⟩
      have r3 : ¬ xi < 0 := by omega
      have r4 : ¬ (8 : Int) < xi := by omega
      have r5 : ¬ (k : Int) < 0 := by omega
      have r6 : (0 : Int) ≤ (k : Int) := by omega
      cases xr with
      | true =>
        by_cases hk : k < g.rules.length
        · have hx := List.getElem?_eq_getElem hk
          obtain ⟨b5, off5, e5, hT5, hc5⟩ := HRu.out w2 hb3 k _ hx
          have hnm := (HRg.out.ruleName hx).1
          have hno : nameOf g ⟨true, (k : Int), xg, xi⟩ = g.rules[k] := by unfold nameOf; rw [if_neg r5, if_pos rfl]; show (g.rules[k]?).getD _ = _; rw [hx]; rfl
          have HE3 := hidden ((HYes.out _ hno (name_some hnm) l1 l2 l3 l4).symm.trans HE2.out)
          have hsz := nameB_size hnm
          have q2 : (k : Int) < (g.rules.length : Int) := by omega
          generalize g.rules[k] = nm at *
          subst e5
          clear HNo HYes HE2 HRu HTo hno hnm hx hT5 HRg
          have hg3 : xg = 0 ∨ xg = 1 ∨ xg = 2 := by omega
          by_cases h5 : 0 < xi
          · have HSx := hidden (fun w' => HSh.out (by omega) w')
            have hss := show_small l3 l4
            have HE4 : Hid (∀ gw, gapW xg = gw → gw ++ nm ++ (⟨#[43]⟩ : ByteArray) ++ ⟨(showI xi).toArray⟩ = res) := hidden (fun gw hgw => by rw [← HE3.out, hgw]; unfold inW; rw [if_pos h5]; simp only [ba_assoc])
            generalize (⟨(showI xi).toArray⟩ : ByteArray) = sh at *
            have hss2 : sh.size ≤ 1 := by omega
            clear HE3 hss
            rcases hg3 with rfl | rfl | rfl
            all_goals
              have HE5 := hidden (HE4.out _ rfl)
              clear HE4
              go_wp2_with fail
              refine (HSx.out _).mono ?_
              rintro r w3 ⟨rfl, hb4⟩
              go_wp2
              go_ret
              exact ⟨by rw [← HE5.out]; rfl, hb3.trans (hb4.mono hb3.size)⟩
          · have HE4 : Hid (∀ gw, gapW xg = gw → gw ++ nm = res) := hidden (fun gw hgw => by rw [← HE3.out, hgw]; unfold inW; rw [if_neg h5, ba_nil])
            clear HE3 HSh
            rcases hg3 with rfl | rfl | rfl
            all_goals
              have HE5 := hidden (HE4.out _ rfl)
              clear HE4
              go_wp2
              go_ret
              exact ⟨by rw [← HE5.out]; rfl, hb3⟩
        · have q2 : ¬ (k : Int) < (g.rules.length : Int) := by omega
          have hno : nameOf g ⟨true, (k : Int), xg, xi⟩ = ByteArray.empty := by unfold nameOf; rw [if_neg r5, if_pos rfl]; show (g.rules[k]?).getD _ = _; rw [List.getElem?_eq_none (by omega)]; rfl
          have e0 : res = ByteArray.empty := by rw [← HE2.out]; exact HNo.out (fun h => h.1 hno)
          subst e0
          clear HNo HYes HE2 HRu HTo hno HRg HSh
          have hg3 : xg = 0 ∨ xg = 1 ∨ xg = 2 := by omega
          rcases hg3 with rfl | rfl | rfl
          all_goals
            go_wp2
            go_ret
            exact ⟨rfl, hb3⟩
      | false =>
        by_cases hk : k < g.toks.length
        · have hx := List.getElem?_eq_getElem hk
          obtain ⟨b5, off5, l9, e5, hT5, hc, -⟩ := HTo.out w2 hb3 k _ hx
          have hc5 := hc 0 _ rfl
          rw [show tokR.k = 3 from rfl, Nat.add_zero] at hc5
          have hnm := (HRg.out.tokName hx).1
          have hno : nameOf g ⟨false, (k : Int), xg, xi⟩ = g.toks[k].name := by unfold nameOf; rw [if_neg r5, if_neg Bool.false_ne_true]; show ((g.toks[k]?).map _).getD _ = _; rw [hx]; rfl
          have HE3 := hidden ((HYes.out _ hno (name_some hnm) l1 l2 l3 l4).symm.trans HE2.out)
          have hsz := nameB_size hnm
          have q2 : (k : Int) < (g.toks.length : Int) := by omega
          generalize g.toks[k].name = nm at *
          subst e5
          clear HNo HYes HE2 HRu HTo hno hnm hx hT5 HRg hc
          have hg3 : xg = 0 ∨ xg = 1 ∨ xg = 2 := by omega
          by_cases h5 : 0 < xi
          · have HSx := hidden (fun w' => HSh.out (by omega) w')
            have hss := show_small l3 l4
            have HE4 : Hid (∀ gw, gapW xg = gw → gw ++ nm ++ (⟨#[43]⟩ : ByteArray) ++ ⟨(showI xi).toArray⟩ = res) := hidden (fun gw hgw => by rw [← HE3.out, hgw]; unfold inW; rw [if_pos h5]; simp only [ba_assoc])
            generalize (⟨(showI xi).toArray⟩ : ByteArray) = sh at *
            have hss2 : sh.size ≤ 1 := by omega
            clear HE3 hss
            rcases hg3 with rfl | rfl | rfl
            all_goals
              have HE5 := hidden (HE4.out _ rfl)
              clear HE4
              go_wp2_with fail
              refine (HSx.out _).mono ?_
              rintro r w3 ⟨rfl, hb4⟩
              go_wp2
              go_ret
              exact ⟨by rw [← HE5.out]; rfl, hb3.trans (hb4.mono hb3.size)⟩
          · have HE4 : Hid (∀ gw, gapW xg = gw → gw ++ nm = res) := hidden (fun gw hgw => by rw [← HE3.out, hgw]; unfold inW; rw [if_neg h5, ba_nil])
            clear HE3 HSh
            rcases hg3 with rfl | rfl | rfl
            all_goals
              have HE5 := hidden (HE4.out _ rfl)
              clear HE4
              go_wp2
              go_ret
              exact ⟨by rw [← HE5.out]; rfl, hb3⟩
        · have q2 : ¬ (k : Int) < (g.toks.length : Int) := by omega
          have hno : nameOf g ⟨false, (k : Int), xg, xi⟩ = ByteArray.empty := by unfold nameOf; rw [if_neg r5, if_neg Bool.false_ne_true]; show ((g.toks[k]?).map _).getD _ = _; rw [List.getElem?_eq_none (by omega)]; rfl
          have e0 : res = ByteArray.empty := by rw [← HE2.out]; exact HNo.out (fun h => h.1 hno)
          subst e0
          clear HNo HYes HE2 HRu HTo hno HRg HSh
          have hg3 : xg = 0 ∨ xg = 1 ∨ xg = 2 := by omega
          rcases hg3 with rfl | rfl | rfl
          all_goals
            go_wp2
            go_ret
            exact ⟨rfl, hb3⟩
    · have e0 : res = ByteArray.empty := by
        rw [← HE2.out]
        by_cases hn : xn < 0
        · exact HNo.out (fun h => h.1 (by unfold nameOf; rw [if_pos hn]))
        · exact HNo.out (fun h => hall ⟨h.2.1, h.2.2.1, h.2.2.2.1, h.2.2.2.2, by omega⟩)
      subst e0
      clear HNo HYes HE2 HRu HTo HRg HSh
      by_cases t1 : xg < 0
      · clear hall
        go_wp2
        go_ret
        exact ⟨rfl, hb3⟩
      · by_cases t2 : 2 < xg
        · clear hall
          go_wp2
          go_ret
          exact ⟨rfl, hb3⟩
        · by_cases t3 : xi < 0
          · clear hall
            go_wp2
            go_ret
            exact ⟨rfl, hb3⟩
          · by_cases t4 : 8 < xi
            · clear hall
              go_wp2
              go_ret
              exact ⟨rfl, hb3⟩
            · have t5 : xn < 0 := by omega
              clear hall
              go_wp2
              go_ret
              exact ⟨rfl, hb3⟩
end Go.Proofs.YtfmdmeokbbpmlaaGreat
