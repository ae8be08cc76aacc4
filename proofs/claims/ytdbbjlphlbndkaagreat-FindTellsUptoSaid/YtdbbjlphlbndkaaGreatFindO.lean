/-
  What a selector finds: find.Of.
-/
import Derived.Test.YtdbbjlphlbndkaaGreatFindOP
namespace Go.Proofs.YtdbbjlphlbndkaaGreat.T
open Go.RowKit Go.Shelf
attribute [local go_sem] Oper.semAt_some
attribute [local simp] wide_round_fn

theorem checkF_right {g : Gram} {s : ByteArray} (h : checkF g s = 0) : rightB g = true ∧ s.size ≤ 256 := by
  unfold checkF at h
  split at h
  · cases h
  · rename_i h1
    split at h
    · cases h
    · rename_i h2
      exact ⟨by simpa using h1, by omega⟩

/-- What holds at each step's begin. -/
def OfI (w : World) (g : Gram) (cs : Array Value) (t : List Node) (v : Value) (Bs : Nat) (pn : Nat) (pre : List Step) (W : World) : Prop :=
  ∃ q : Nat, q ≠ Bs ∧ w.heap.size + 1 < q ∧ q ≠ pn ∧ Holds W pn 48 #[.slice (some ⟨q, 0, none⟩) t.length t.length] ∧ BoolsAt W q (nowO g t (pre.map (·.1))) ∧
    Holds W w.heap.size 26 cs ∧ Holds W (w.heap.size + 1) 27 #[v] ∧ Below w.heap.size w W

set_option maxRecDepth 20000 in
set_option maxHeartbeats 16000000 in
theorem find_Of (a b c v : Value) (g : Gram) (t : List Node) (s : ByteArray) (w : World) (HG : GramIs w (Old w) a b c g) (hsm : Small g) (hs : s.size ≤ maxLen) (h4 : t.length ≤ 140737488355) (HN : Nds w (Old w) v t) :
    Calls Tryz.prog 7 #[.agg (gramCells a b c g), v, .string s] w fun r w' => (∃ u, r = .returned (.tuple #[u, .int .i64 (ofErr g t s)]) ∧ Hid (Mine w' w.heap.size 3 1 u (ofRow g t s).length (ints (ofRow g t s)))) ∧ Below w.heap.size w w' := by
  have HCk := hidden (fun (w' : World) (hb : Below w.heap.size w w') => find_Check a b c g s w' (HG.old hb) hsm hs)
  have HAr := hidden (fun (w' : World) (hb : Below w.heap.size w w') => arena_right v t w' h4 (HN.old hb))
  have hG := hidden HG
  have hN := hidden HN
  obtain ⟨⟨A1, k1, rfl, v1, m1⟩, ⟨A2, k2, rfl, v2, m2⟩, ⟨A3, k3, rfl, v3, m3⟩⟩ := HG.vals
  obtain ⟨A, cc, rfl, hc1, hc2⟩ := HN.value
  unfold maxLen at m1 m2 m3 hs hc2
  have hE : Hid (ofErr g t s = if checkF g s ≠ 0 then checkF g s else if treeB t = false then 1 else 0) := hidden rfl
  have hR : Hid (ofRow g t s = if ofErr g t s ≠ 0 then [] else foundO (nowO g t (stepsL s.data.toList))) := hidden rfl
  have hcr := hidden (fun (h : checkF g s = 0) => checkF_right h)
  generalize ofErr g t s = err at *
  generalize ofRow g t s = row at *
  unfold gramCells at *
  have hb1 : Below w.heap.size w ((w.alloc (.cells #[.slice A1 g.toks.length k1, .slice A2 g.rules.length k2, .slice A3 g.prods.length k3, .int .i64 g.start, .int .i64 g.states, .int .i64 g.text, .int .i64 g.nodes, .int .i64 g.pairs] 26)).alloc (.cells #[.slice A t.length cc] 27)) := ((Below.refl _ _).alloc (Nat.le_refl _) _).alloc (by simp) _
  have HB1 : Hid (Holds ((w.alloc (.cells #[.slice A1 g.toks.length k1, .slice A2 g.rules.length k2, .slice A3 g.prods.length k3, .int .i64 g.start, .int .i64 g.states, .int .i64 g.text, .int .i64 g.nodes, .int .i64 g.pairs] 26)).alloc (.cells #[.slice A t.length cc] 27)) w.heap.size 26 #[.slice A1 g.toks.length k1, .slice A2 g.rules.length k2, .slice A3 g.prods.length k3, .int .i64 g.start, .int .i64 g.states, .int .i64 g.text, .int .i64 g.nodes, .int .i64 g.pairs]) := hidden (by repeat (first | (with_reducible assumption) | ((with_reducible refine holds_new ?_); (focus (first | rfl | (simp; done)))) | (with_reducible refine Holds.alloc ?_ _) | (with_reducible refine Holds.drew ?_)))
  have HB2 : Hid (Holds ((w.alloc (.cells #[.slice A1 g.toks.length k1, .slice A2 g.rules.length k2, .slice A3 g.prods.length k3, .int .i64 g.start, .int .i64 g.states, .int .i64 g.text, .int .i64 g.nodes, .int .i64 g.pairs] 26)).alloc (.cells #[.slice A t.length cc] 27)) (w.heap.size + 1) 27 #[.slice A t.length cc]) := hidden (Holds.new_at (by simp))
  clear HG HN hsm
  by_cases hck : checkF g s = 0
  case neg =>
    have he : Hid (err = checkF g s ∧ row = []) := hidden (by have e : err = checkF g s := by rw [hE.out, if_pos hck]
                                                              exact ⟨e, by rw [hR.out, e, if_pos hck]⟩)
    have hne : (checkF g s != 0) = true := by simpa using hck
    generalize checkF g s = ck at *
    go_enter Tryz.func7, Tryz.ntmps7
    go_upto_region 1 with fail
    generalize ((w.alloc (.cells #[.slice A1 g.toks.length k1, .slice A2 g.rules.length k2, .slice A3 g.prods.length k3, .int .i64 g.start, .int .i64 g.states, .int .i64 g.text, .int .i64 g.nodes, .int .i64 g.pairs] 26)).alloc (.cells #[.slice A t.length cc] 27)) = w1 at *
    have x0 := HB1.out.cell 0; have x1 := HB1.out.cell 1; have x2 := HB1.out.cell 2; have x3 := HB1.out.cell 3
    have x4 := HB1.out.cell 4; have x5 := HB1.out.cell 5; have x6 := HB1.out.cell 6; have x7 := HB1.out.cell 7
    go_wp2_with fail
    refine (HCk.out _ hb1).mono ?_
    rintro r w2 ⟨rfl, hb2⟩
    replace hb1 := hb1.trans (hb2.mono hb1.size)
    go_wp2
    refine bodyPost_ret (v := .tuple #[.slice none 0 0, .int .i64 (ck)]) (by simp [results, Tryz.results7, go_sem]) rfl ?_
    exact ⟨⟨_, by rw [he.out.1], hidden (by rw [he.out.2]; exact Mine.nil _ _ _ _)⟩, hb1⟩
  case pos =>
  obtain ⟨hrt, hsz⟩ := hcr.out hck
  rw [hck] at HCk
  cases htr : treeB t
  · have he : Hid (err = 1 ∧ row = []) := hidden (by have e : err = 1 := by rw [hE.out, if_neg (by simpa using hck), if_pos htr]
                                                     exact ⟨e, by rw [hR.out, e, if_pos (by decide)]⟩)
    rw [htr] at HAr
    go_enter Tryz.func7, Tryz.ntmps7
    go_upto_region 1 with fail
    generalize ((w.alloc (.cells #[.slice A1 g.toks.length k1, .slice A2 g.rules.length k2, .slice A3 g.prods.length k3, .int .i64 g.start, .int .i64 g.states, .int .i64 g.text, .int .i64 g.nodes, .int .i64 g.pairs] 26)).alloc (.cells #[.slice A t.length cc] 27)) = w1 at *
    have x0 := HB1.out.cell 0; have x1 := HB1.out.cell 1; have x2 := HB1.out.cell 2; have x3 := HB1.out.cell 3
    have x4 := HB1.out.cell 4; have x5 := HB1.out.cell 5; have x6 := HB1.out.cell 6; have x7 := HB1.out.cell 7
    go_wp2_with fail
    refine (HCk.out _ hb1).mono ?_
    rintro r w2 ⟨rfl, hb2⟩
    have y0 := (HB2.out.below hb2 HB2.out.lt).c0
    replace hb1 := hb1.trans (hb2.mono hb1.size)
    go_wp2_with fail
    refine (HAr.out _ hb1).mono ?_
    rintro r w3 ⟨rfl, hb3⟩
    replace hb1 := hb1.trans (hb3.mono hb1.size)
    go_wp2
    refine bodyPost_ret (v := .tuple #[.slice none 0 0, .int .i64 (1)]) (by simp [results, Tryz.results7, go_sem]) rfl ?_
    exact ⟨⟨_, by rw [he.out.1], hidden (by rw [he.out.2]; exact Mine.nil _ _ _ _)⟩, hb1⟩
  · have ht := treeB_iff.1 htr
    have hpos : 0 < t.length := by have := (tree_sz0 ht); have := ht.1; obtain ⟨x, hx, _⟩ := this; exact (List.getElem?_eq_some_iff.1 hx).1
    have he : Hid (err = 0 ∧ row = foundO (nowO g t (stepsL s.data.toList))) := hidden (by have e : err = 0 := by rw [hE.out, if_neg (by simpa using hck), if_neg (by rw [htr]; decide)]
                                                                                           exact ⟨e, by rw [hR.out, e, if_neg (by decide)]⟩)
    rw [htr] at HAr
    have hs' := rightB_sound hrt
    have hsl : s.data.toList.length ≤ 256 := by rw [dataL]; omega
    have hmk : ∀ w, (Instr.makeSlice 48 (.int .i64 (t.length : Int)) (.int .i64 (t.length : Int))).run Tryz.prog w = .ok (.slice (some ⟨w.heap.size, 0, none⟩) t.length t.length) (w.alloc (.cells (bcells (List.replicate t.length false)) 4)) := fun w => by
      rw [← made_bools]
      exact run_make_row' (P := Tryz.prog) 48 4 (.bool false) 1 (by kernel_rfl) (by kernel_rfl) rfl .i64 .i64 t.length (by omega) (by omega) w
    obtain ⟨R0, hR0⟩ : ∃ R0, R0 = bcells (List.replicate t.length false) := ⟨_, rfl⟩
    have hR1 : R0[0]? = some (.bool false) := by rw [hR0]; unfold bcells; simp [hpos]
    have hR2 : R0.size = t.length := by rw [hR0]; unfold bcells; simp
    have hR3 : 0 < R0.size := by omega
    have hR4 := hidden (show R0.setIfInBounds 0 (.bool true) = bcells ((List.replicate t.length false).set 0 true) from by rw [hR0]; unfold bcells; apply Array.toList_inj.1; simp)
    rw [← hR0] at hmk
    have hR5 := hidden hR0
    have hR6 := hidden hR2
    clear hE hR hcr hck hR0 hR2
    obtain ⟨b0, o0, hA⟩ : ∃ b0 o0, A = some ⟨b0, o0, none⟩ := by
      obtain ⟨b0, o0, c', hv, _⟩ := hN.out.open_ (by intro e; rw [e] at hpos; simp at hpos)
      cases hv
      exact ⟨b0, o0, rfl⟩
    subst hA
    have HSC := hidden (fun (k : Nat) (hk : k < t.length) (w' : World) (hb : Below w.heap.size w w') => cellF (Nds.size_cell hN.out ht hk) hb)
    refine (callsIn_wide (n := 5)).1 ?_
    refine callsIn_of_wp_marks Tryz.func7 rfl trivial ?_ rfl
    simp only [Tryz.ntmps7, List.size_toArray, List.length_cons, List.length_nil, Nat.reduceAdd, Nat.reduceSub, Array.replicate_succ, Array.replicate_zero, List.push_toArray, List.append_toArray, List.nil_append, List.cons_append]
    have x0 := HB1.out.cell 0; have x1 := HB1.out.cell 1; have x2 := HB1.out.cell 2; have x3 := HB1.out.cell 3
    have x4 := HB1.out.cell 4; have x5 := HB1.out.cell 5; have x6 := HB1.out.cell 6; have x7 := HB1.out.cell 7
    gi_wp2_with fail
    refine ⟨trivial, (callsIn_wide.2 (HCk.out _ hb1)).mono ?_⟩
    rintro r w2 ⟨rfl, hb2⟩
    replace HB1 := hidden (HB1.out.below hb2 HB1.out.lt)
    replace HB2 := hidden (HB2.out.below hb2 HB2.out.lt)
    replace hb1 := hb1.trans (hb2.mono hb1.size)
    clear x0 x1 x2 x3 x4 x5 x6 x7 hb2 HCk
    have y0 := HB2.out.c0
    gi_wp2_with fail
    refine ⟨trivial, (callsIn_wide.2 (HAr.out _ hb1)).mono ?_⟩
    rintro r w3 ⟨rfl, hb3⟩
    replace HB1 := hidden (HB1.out.below hb3 HB1.out.lt)
    replace HB2 := hidden (HB2.out.below hb3 HB2.out.lt)
    have HB2p := hidden HB2.out
    have HB1p := hidden HB1.out
    replace hb1 := hb1.trans (hb3.mono hb1.size)
    clear y0 hb3 HAr
    have y0 := HB2.out.c0
    gi_wp2_with fail
    have hz3 := hb1.size
    have hBo : Hid (BoolsAt ((w3.alloc (Obj.cells (R0.setIfInBounds 0 (Value.bool true)) 4)).alloc (Obj.cells #[Value.slice (some { block := w3.heap.size, off := 0 }) t.length t.length] 48)) w3.heap.size (nowO g t [])) := hidden (by
      rw [hR4.out]; exact (Holds.new w3 _ _).alloc _)
    have hHn : Hid (Holds ((w3.alloc (Obj.cells (R0.setIfInBounds 0 (Value.bool true)) 4)).alloc (Obj.cells #[Value.slice (some { block := w3.heap.size, off := 0 }) t.length t.length] 48)) (w3.heap.size + 1) 48 #[.slice (some ⟨w3.heap.size, 0, none⟩) t.length t.length]) := hidden (Holds.new_at (by simp))
    have hbS : Below w.heap.size w ((w3.alloc (Obj.cells (R0.setIfInBounds 0 (Value.bool true)) 4)).alloc (Obj.cells #[Value.slice (some { block := w3.heap.size, off := 0 }) t.length t.length] 48)) := (hb1.alloc hb1.size _).alloc (by simp; omega) _
    have HB1 := hidden ((HB1.out.alloc (Obj.cells (R0.setIfInBounds 0 (Value.bool true)) 4)).alloc (Obj.cells #[Value.slice (some { block := w3.heap.size, off := 0 }) t.length t.length] 48))
    have HB2 := hidden ((HB2.out.alloc (Obj.cells (R0.setIfInBounds 0 (Value.bool true)) 4)).alloc (Obj.cells #[Value.slice (some { block := w3.heap.size, off := 0 }) t.length t.length] 48))
    have hzS : ((w3.alloc (Obj.cells (R0.setIfInBounds 0 (Value.bool true)) 4)).alloc (Obj.cells #[Value.slice (some { block := w3.heap.size, off := 0 }) t.length t.length] 48)).heap.size = w3.heap.size + 2 := by simp
    have hw3 : w.heap.size + 1 < w3.heap.size := HB2p.out.lt
    clear HB1p HB2p hb1 y0
    generalize (w3.alloc (Obj.cells (R0.setIfInBounds 0 (Value.bool true)) 4)).alloc (Obj.cells #[Value.slice (some { block := w3.heap.size, off := 0 }) t.length t.length] 48) = wS at *
    generalize w3.heap.size = q0 at *
    refine ⟨trivial, (callsIn_wide.2 (find_steps s wS)).mono ?_⟩
    rintro r wT ⟨rfl, rfl⟩
    have HZS := hidden hzS
    clear hzS hR1 hR3 hR4 hR6
    gi_wp2_with fail
    have hzS := HZS.out
    refine range_lawW (by omega) rfl (enters_of Tryz.func42 (by kernel_rfl) rfl)
      (steps1_seq 4 (by omega) wS.heap.size (fun k => k = wS.heap.size) s.data.toList (by omega) (wS.alloc (.cells #[.string s] 9)) (by rintro k rfl; simp) rfl (Holds.new wS _ _)) (Below.refl _ _) (by rintro k rfl; simp) (by simp) (fun _ => rfl)
      (OfI w g #[.slice A1 g.toks.length k1, .slice A2 g.rules.length k2, .slice A3 g.prods.length k3, .int .i64 g.start, .int .i64 g.states, .int .i64 g.text, .int .i64 g.nodes, .int .i64 g.pairs] t (.slice (some ⟨b0, o0, none⟩) t.length cc) wS.heap.size (q0 + 1)) (fun _ _ _ => False) ?i0 (fun _ _ _ _ h => h.elim) ?iw ?start ?round ?done (fun _ _ _ _ _ _ h => h.elim)
    case i0 =>
      rintro pre W W' ⟨q, a1, a2, a3, h0, h1, h2, h3, hb⟩ hc
      exact ⟨q, a1, a2, a3, hc.holds h0, hc.holds h1, hc.holds h2, hc.holds h3, hb.trans (hc.below (by simp; omega) hb.size)⟩
    case iw =>
      rintro pre W u ⟨q, a1, a2, a3, h0, h1, h2, h3, hb⟩
      exact ⟨q, a1, a2, a3, h0.far (by show q0 + 1 ≠ wS.heap.size; omega) u, h1.far (by show q ≠ wS.heap.size; exact a1) u, h2.far (by show w.heap.size ≠ wS.heap.size; omega) u, h3.far (by show w.heap.size + 1 ≠ wS.heap.size; omega) u, hb.setCell (by show w.heap.size ≤ wS.heap.size; omega) u⟩
    case start => exact ⟨q0, by omega, by omega, by omega, hHn.out.alloc _, hBo.out.alloc _, HB1.out.alloc _, HB2.out.alloc _, hbS.alloc hbS.size _⟩
    case round =>
      clear hzS hHn hBo HB1 HB2 hbS
      rintro l pre x W ⟨q, a1, a2, a3, h0, h1, h2, h3, hb⟩
      have hbz := hb.size
      dsimp only [encT]
      gi_wp2
      refine ⟨KeepsOthers.alloc _ _, (Keeps.refl _ _).alloc _, ⟨q, a1, a2, a3, h0.alloc _, h1.alloc _, h2.alloc _, h3.alloc _, hb.alloc hbz _⟩, ?_⟩
      have hnm := Holds.new W 9 #[.string x.1.1]
      clear h0 h1 h2 h3 hb a1 a2 a3 q
      rintro W2 l2 pre2 hc2 ⟨q, a1, a2, a3, h0, h1, h2, h3, hb⟩ hlen hl2 hr2
      have hnm2 := hc2.holds hnm
      have hbz2 := hb.size
      generalize W.heap.size = pnm at *
      have hlS : wS.heap.size < W2.heap.size := by
        obtain ⟨r2, hr2⟩ := hr2
        have hh := (Array.getElem?_eq_some_iff.1 hr2).1
        simp at hl2
        omega
      clear hc2 hnm hbz hr2
      obtain ⟨⟨nm, al⟩, hx⟩ := x
      dsimp only at *
      have y3 := h3.c0
      have y0 := h0.c0
      have hl0 := h0.lt; have hl3 := h3.lt; have hln := hnm2.lt; have hl1 := h1.lt; have hl2' := h2.lt
      have hl0b : q0 + 1 < W2.heap.size + 1 := by omega
      have HIH := hidden (show nowO g t ((pre2 ++ [(⟨(nm, al), hx⟩ : Step)]).map (fun y => y.1)) = passO g t (nowO g t (pre2.map (fun y => y.1))) (nm, al) from by rw [List.map_append]; exact nowO_snoc _ _ _ _)
      have hnl := nowO_len g t (pre2.map (·.1))
      generalize nowO g t (pre2.map (·.1)) = now at *
      have HNL := hidden hnl
      clear hnl
      gi_wp2
      clear hl0b
      have hbX : Below w.heap.size w ((W2.alloc (Obj.cells R0 4)).alloc (Obj.cells #[Value.slice (some { block := W2.heap.size, off := 0 }) t.length t.length] 48)) := (hb.alloc hbz2 _).alloc (by simp; omega) _
      have HS0 : Hid (BoolsAt ((W2.alloc (Obj.cells R0 4)).alloc (Obj.cells #[Value.slice (some { block := W2.heap.size, off := 0 }) t.length t.length] 48)) W2.heap.size (passK g t (nm, al) now 0)) := hidden (by rw [hR5.out]; exact (Holds.new W2 _ _).alloc _)
      have Hnx : Hid (Holds ((W2.alloc (Obj.cells R0 4)).alloc (Obj.cells #[Value.slice (some { block := W2.heap.size, off := 0 }) t.length t.length] 48)) (W2.heap.size + 1) 48 #[.slice (some ⟨W2.heap.size, 0, none⟩) t.length t.length]) := hidden (Holds.new_at (by simp))
      have H0 := hidden ((h0.alloc (Obj.cells R0 4)).alloc (Obj.cells #[Value.slice (some { block := W2.heap.size, off := 0 }) t.length t.length] 48))
      have H1 := hidden (Holds.alloc (Holds.alloc h1 (Obj.cells R0 4)) (Obj.cells #[Value.slice (some { block := W2.heap.size, off := 0 }) t.length t.length] 48))
      have H2 := hidden ((h2.alloc (Obj.cells R0 4)).alloc (Obj.cells #[Value.slice (some { block := W2.heap.size, off := 0 }) t.length t.length] 48))
      have H3 := hidden ((h3.alloc (Obj.cells R0 4)).alloc (Obj.cells #[Value.slice (some { block := W2.heap.size, off := 0 }) t.length t.length] 48))
      have HNm := hidden ((hnm2.alloc (Obj.cells R0 4)).alloc (Obj.cells #[Value.slice (some { block := W2.heap.size, off := 0 }) t.length t.length] 48))
      have hkX : KeepsOthers W2 ((W2.alloc (Obj.cells R0 4)).alloc (Obj.cells #[Value.slice (some { block := W2.heap.size, off := 0 }) t.length t.length] 48)) := (KeepsOthers.alloc _ _).trans (KeepsOthers.alloc _ _)
      have htX : Keeps (fun k => k = wS.heap.size) W2 ((W2.alloc (Obj.cells R0 4)).alloc (Obj.cells #[Value.slice (some { block := W2.heap.size, off := 0 }) t.length t.length] 48)) := ((Keeps.refl _ _).alloc _).alloc _
      clear h0 h1 h2 h3 hnm2 y0 y3 hb
      generalize ((W2.alloc (Obj.cells R0 4)).alloc (Obj.cells #[Value.slice (some { block := W2.heap.size, off := 0 }) t.length t.length] 48)) = wX at *
      generalize hqn : W2.heap.size = qn at *
      have HKX := hidden hkX; have HTX := hidden htX; have HBX := hidden hbX
      have HLT := hidden (show q < qn ∧ w.heap.size < qn ∧ w.heap.size + 1 < qn ∧ pnm < qn ∧ q0 + 1 < qn ∧ wS.heap.size < qn from ⟨hl1, by omega, by omega, hln, hl0, by omega⟩)
      have HT := hidden (fun (wr : World) (s1 : List Bool) (i : Nat) (x : Node) (u : Bool) (hB : But qn wX wr) (hS : BoolsAt wr qn s1) (hx : t[i]? = some x) (hu : s1[i]? = some u) (hl : s1.length = t.length) =>
        show Calls Tryz.prog 21 #[.int .i64 (i : Int), .pointer (some ⟨qn + 1, 0, none⟩), .pointer (some ⟨w.heap.size, 0, none⟩), .pointer (some ⟨w.heap.size + 1, 0, none⟩), .pointer (some ⟨pnm, 0, none⟩)] wr fun r W' => (∃ v, r = .returned v) ∧ Hid (BoolsAt W' qn (takeF g t nm s1 i)) ∧ Hid (But qn wr W') from
        (find_take _ _ _ _ g t nm w hG.out hs' hN.out wr (HBX.out.trans (hB.below (by have := HLT.out; omega) HBX.out.size)) (qn + 1) qn t.length w.heap.size (w.heap.size + 1) pnm s1 i x u hx hu hl.symm
          (Hnx.out.but hB (by omega)) (H2.out.but hB (by have := HLT.out; omega)) (H3.out.but hB (by have := HLT.out; omega)) (HNm.out.but hB (by have := HLT.out; omega)) hS).mono (by
            rintro r W' ⟨h1, h2, h3⟩
            exact ⟨h1, hidden (by rw [takeF_at hx hu]; exact h2), hidden h3⟩))
      clear hkX htX hbX hqn hl0 hl3 hln hl1 hl2' hbz2 hlS
      have HSX := hidden HS0.out
      gi_loopw [46] (fun kk wr => ∃ k : Nat, kk = .int .i64 k ∧ k ≤ t.length ∧ Hid (BoolsAt wr qn (passK g t (nm, al) now k)) ∧ Hid (But qn wX wr)) (fun kk wr => t.length - (intOf kk).toNat)
      case atStart => exact ⟨0, by go_num, Nat.zero_le _, HS0, hidden (But.refl _ _)⟩
      case round =>
        clear HS0
        obtain ⟨k, rfl, hk, HS, HB⟩ := hrel
        have hkz : (intOf (.int .i64 (k : Int))).toNat = k := by simp [intOf]
        by_cases hlt : k < t.length
        · obtain ⟨bk, hbk⟩ : ∃ bk, now[k]? = some bk := ⟨_, List.getElem?_eq_getElem (by rw [HNL.out]; exact hlt)⟩
          have c1 := BoolsAt.at_ (Holds.but H1.out HB.out (by have := HLT.out; omega)) hbk
          have hps := hidden (passK_succ g t (nm, al) now k)
          rw [hbk] at hps
          have qlt : (k : Int) < (t.length : Int) := by omega
          cases bk
          · have HS2 : Hid (BoolsAt wr qn (passK g t (nm, al) now (k + 1))) := hidden (by rw [hps.out]; exact HS.out)
            clear hbk hps
            gi_wp2
            go_roundw
            case rel => exact ⟨k + 1, by go_num, by omega, HS2, HB⟩
            case measure => simp [intOf]; omega
          · have hk2 := HLT.out
            have hsz1 := tree_node ht hlt
            have d3 := (Holds.but H3.out HB.out (by omega)).c0
            cases al
            · have hrow := hidden (show ∀ s1 : List Bool, oneO g t (nm, false) s1 k true = (kidsOf t (k : Int)).foldl (takeF g t nm) s1 from fun s1 => rfl)
              have hs1l := hidden (passK_len g t (nm, false) now k)
              have HKd := hidden (arena_Kids _ t (k : Int) wr h4 (hN.out.old (HBX.out.trans (HB.out.below (by omega) HBX.out.size))))
              have hky := hidden (fun y hy => kidsOf_lt ht hlt (y := y) hy)
              have hkn : (kidsOf t (k : Int)).length ≤ t.length := by
                unfold kidsOf
                split
                · rw [Int.toNat_natCast]
                  exact Nat.le_trans (kidsL_len k) (by omega)
                · exact Nat.zero_le _
              generalize kidsOf t (k : Int) = ks at *
              generalize passK g t (nm, false) now k = s1 at *
              gi_wp2_with fail
              refine CallsIn.mono (F := Fence.wide.inRound l2) (callsIn_wide.2 HKd.out) ?_
              rintro e W4 ⟨⟨u4, rfl, HM⟩, hb4⟩
              obtain ⟨A4, c4, rfl⟩ := HM.out.value
              have hqw := HSX.out.lt
              have hqw2 := HB.out.size
              have HRd := hidden (HM.out.rd (T := fun k => wr.heap.size ≤ k) (fun g _ h _ => h))
              have HS4 := hidden (Holds.below HS.out hb4 HS.out.lt)
              have HB4 := hidden (HB.out.trans (But.of_below hb4))
              have hqr : qn < wr.heap.size := by omega
              clear HM HKd c1 d3 HS HB hb4 hqw hqw2
              generalize hrz : wr.heap.size = rz at *
              gi_wp2
              gi_loopw [55] (fun jj wi => ∃ j : Nat, jj = .int .i64 j ∧ j ≤ ks.length ∧ Hid (BoolsAt wi qn ((ks.take j).foldl (takeF g t nm) s1)) ∧ Hid (But qn W4 wi)) (fun jj wi => ks.length - (intOf jj).toNat)
              case atStart => exact ⟨0, by go_num, Nat.zero_le _, HS4, hidden (But.refl _ _)⟩
              case round =>
                clear HS4
                obtain ⟨j, rfl, hj, HS, HB⟩ := hrel
                by_cases hjl : j < ks.length
                · have hy := List.getElem?_eq_getElem hjl
                  have hyl := hky.out _ (List.getElem_mem hjl)
                  generalize ks[j] = y at *
                  obtain ⟨_, A5, c5, hv5, _, _, hop⟩ := HRd.out
                  obtain ⟨b4, o4, hA4, hT4, hc4⟩ := hop (by unfold ints; rw [List.length_map]; omega)
                  subst hA4
                  cases hv5
                  have c4' := hc4 j (.int .i64 (y : Int)) (by unfold ints; rw [List.getElem?_map, hy]; rfl)
                  have c4 := HB.out.keepsT (T := fun k => k = b4) (by rintro k rfl; omega) |>.cell (a := ⟨b4, o4 + j, none⟩) rfl c4'
                  have qj : (j : Int) < (ks.length : Int) := by omega
                  have hu := List.getElem?_eq_getElem (l := (ks.take j).foldl (takeF g t nm) s1) (i := y) (by rw [takes_len, hs1l.out]; exact hyl)
                  have HT2 := hidden (HT.out _ _ y _ _ (HB4.out.trans HB.out) HS.out (List.getElem?_eq_getElem hyl) hu (by rw [takes_len, hs1l.out]))
                  have hsn := hidden (takes_take g t nm ks hy s1)
                  have hyz : y ≤ 140737488355 := by omega
                  clear hu HT hop hc4 c4' hy
                  gi_wp2_with fail
                  refine CallsIn.mono (F := Fence.wide.inRound l2) (callsIn_wide.2 HT2.out) ?_
                  rintro e W5 ⟨⟨v5, rfl⟩, HS5, HB5⟩
                  have HS6 := hidden HS5.out
                  rw [← hsn.out] at HS6
                  have HB6 := hidden (HB.out.trans HB5.out)
                  clear HS HB HS5 HB5 c4 HT2 hsn
                  gi_wp2
                  exact ⟨⟨j + 1, by go_num, by omega, HS6, HB6⟩, by simp [intOf]; omega⟩
                · have hje : j = ks.length := by omega
                  have qj : ¬ (j : Int) < (ks.length : Int) := by omega
                  have HS2 : Hid (BoolsAt wr qn (passK g t (nm, false) now (k + 1))) := hidden (by
                    rw [hps.out]
                    show BoolsAt wr qn (oneO g t (nm, false) s1 k true)
                    rw [hrow.out]
                    have := HS.out
                    rw [hje, List.take_length] at this
                    exact this)
                  have HB2 := hidden (HB4.out.trans HB.out)
                  clear hps hrow HS HB HB4
                  gi_wp2
                  exact ⟨⟨k + 1, by go_num, by omega, HS2, HB2⟩, by simp [intOf]; omega⟩
            · have hrow := hidden (show ∀ s1 : List Bool, oneO g t (nm, true) s1 k true = (List.range' (k + 1) (sz t k - 1)).foldl (takeF g t nm) s1 from fun s1 => rfl)
              have hs1l := hidden (passK_len g t (nm, true) now k)
              generalize passK g t (nm, true) now k = s1 at *
              gi_wp2
              gi_loopw [16] (fun ii wi => ∃ i : Nat, ii = .int .i64 i ∧ k + 1 ≤ i ∧ i ≤ k + sz t k ∧ Hid (BoolsAt wi qn ((List.range' (k + 1) (i - (k + 1))).foldl (takeF g t nm) s1)) ∧ Hid (But qn wX wi)) (fun ii wi => k + sz t k - (intOf ii).toNat)
              case atStart => exact ⟨k + 1, by go_num, Nat.le_refl _, by omega, hidden (by rw [Nat.sub_self]; exact HS.out), HB⟩
              case round =>
                clear HS HB c1 d3
                obtain ⟨i, rfl, hi1, hi2, HS, HB⟩ := hrel
                have d3 := (Holds.but H3.out HB.out (by omega)).c0
                have z3 := HSC.out k hlt _ (HBX.out.trans (HB.out.below (by omega) HBX.out.size))
                by_cases hil : i < k + sz t k
                · have qil : decide ((i : Int) < (k : Int) + (sz t k : Int)) = true := decide_eq_true (by omega)
                  have hin : i < t.length := by omega
                  have hu := List.getElem?_eq_getElem (l := (List.range' (k + 1) (i - (k + 1))).foldl (takeF g t nm) s1) (i := i) (by rw [takes_len, hs1l.out]; exact hin)
                  have HT2 := hidden (HT.out _ _ i _ _ HB.out HS.out (List.getElem?_eq_getElem hin) hu (by rw [takes_len, hs1l.out]))
                  have hsn := hidden (takes_snoc g t nm (k + 1) (i - (k + 1)) s1)
                  rw [show k + 1 + (i - (k + 1)) = i by omega, show i - (k + 1) + 1 = i + 1 - (k + 1) by omega] at hsn
                  clear hu HT
                  gi_wp2_with fail
                  refine CallsIn.mono (F := Fence.wide.inRound l2) (callsIn_wide.2 HT2.out) ?_
                  rintro e W5 ⟨⟨v5, rfl⟩, HS5, HB5⟩
                  have HS6 := hidden HS5.out
                  rw [← hsn.out] at HS6
                  have HB6 := hidden (HB.out.trans HB5.out)
                  clear HS HB HS5 HB5 z3 d3 HT2 hsn
                  gi_wp2
                  exact ⟨⟨i + 1, by go_num, by omega, by omega, HS6, HB6⟩, by simp [intOf]; omega⟩
                · have hie : i = k + sz t k := by omega
                  have qil : decide ((i : Int) < (k : Int) + (sz t k : Int)) = false := decide_eq_false (by omega)
                  have HS2 : Hid (BoolsAt wr qn (passK g t (nm, true) now (k + 1))) := hidden (by
                    rw [hps.out]
                    show BoolsAt wr qn (oneO g t (nm, true) s1 k true)
                    rw [hrow.out, show sz t k - 1 = i - (k + 1) by omega]
                    exact HS.out)
                  clear hie hps hrow
                  gi_wp2
                  exact ⟨⟨k + 1, by go_num, by omega, HS2, HB⟩, by simp [intOf]; omega⟩
        · have hkn : k = t.length := by omega
          subst hkn
          have c0 := (Holds.but Hnx.out HB.out (by omega)).c0
          have d0 := Holds.but H0.out HB.out (by have := HLT.out; omega)
          have e0 := d0.c0
          have f0 := d0.frozen 0
          have hfin : Hid (KeepsOthers W2 (wr.setCell ⟨q0 + 1, 0, none⟩ (.slice (some ⟨qn, 0, none⟩) t.length t.length)) ∧ Keeps (fun k => k = wS.heap.size) W2 (wr.setCell ⟨q0 + 1, 0, none⟩ (.slice (some ⟨qn, 0, none⟩) t.length t.length)) ∧
              OfI w g #[.slice A1 g.toks.length k1, .slice A2 g.rules.length k2, .slice A3 g.prods.length k3, .int .i64 g.start, .int .i64 g.states, .int .i64 g.text, .int .i64 g.nodes, .int .i64 g.pairs] t (.slice (some ⟨b0, o0, none⟩) t.length cc) wS.heap.size (q0 + 1) (pre2 ++ [⟨(nm, al), hx⟩]) (wr.setCell ⟨q0 + 1, 0, none⟩ (.slice (some ⟨qn, 0, none⟩) t.length t.length))) := hidden (by
            obtain ⟨l1, l2, l3, l4, l5, l6⟩ := HLT.out
            have hzS := HZS.out
            refine ⟨(HKX.out.trans (others_but HB.out HSX.out)).trans (KeepsOthers.setCell _ _ _), (HTX.out.trans (HB.out.keepsT (by rintro k rfl; omega))).setCell (by show ¬ q0 + 1 = wS.heap.size; omega) _, qn, by omega, by omega, by omega, ?_, ?_, ?_, ?_, ?_⟩
            · exact d0.set 0 _
            · refine Holds.far ?_ (by show qn ≠ q0 + 1; omega) _
              rw [HIH.out]
              exact HS.out
            · exact (Holds.but H2.out HB.out (by omega)).far (by show w.heap.size ≠ q0 + 1; omega) _
            · exact (Holds.but H3.out HB.out (by omega)).far (by show w.heap.size + 1 ≠ q0 + 1; omega) _
            · exact (HBX.out.trans (HB.out.below (by omega) HBX.out.size)).setCell (by show w.heap.size ≤ q0 + 1; omega) _)
          clear HIH HSX
          gi_wp2
          exact hfin.out
    case done =>
      rintro D xs W hD hS ⟨q, a1, a2, a3, h0, h1, h2, h3, hb⟩ hK
      rw [hS] at h1
      have hnl := hidden (nowO_len g t (stepsL s.data.toList))
      have hER := he.out
      generalize nowO g t (stepsL s.data.toList) = now at *
      obtain ⟨hER1, hER2⟩ := hER
      have HE1 := hidden hER1
      have HE2 : Hid (row = foundK now t.length) := hidden (by rw [hER2]; unfold foundO; rw [hnl.out])
      clear hER1 hER2 he
      have y0 := h0.c0
      have HH1 := hidden h1
      have hbz := hb.size
      have hql := h1.lt
      have hDl := (Array.getElem?_eq_some_iff.1 hK).1
      have HKD := hidden hK
      have HBW := hidden hb
      have hD2 : w.heap.size ≤ D := by simp at hD; omega
      have HZS2 := hidden hzS
      clear h0 h1 h2 h3 hb hK hS hD hzS hHn hBo HB1 HB2 hbS
      gi_wp2
      refine (wpIn_wide (n := 5)).2 ?_
      go_loopw [19, 88] (fun o kk wr => ∃ k : Nat, kk = .int .i64 k ∧ k ≤ t.length ∧ Hid (Mine wr W.heap.size 3 1 o (foundK now k).length (ints (foundK now k))) ∧ Hid (Below W.heap.size W wr)) (fun o kk wr => t.length - (intOf kk).toNat)
      case atStart => exact ⟨0, by go_num, Nat.zero_le _, hidden (Mine.nil _ _ _ _), hidden (Below.refl _ _)⟩
      case round =>
        obtain ⟨k, rfl, hk, HM, HB⟩ := hrel
        have hbr := HB.out.size
        obtain ⟨A8, c8, e8⟩ := HM.out.value
        by_cases hlt : k < t.length
        · obtain ⟨bk, hbk⟩ : ∃ bk, now[k]? = some bk := ⟨_, List.getElem?_eq_getElem (by rw [hnl.out]; exact hlt)⟩
          have c1 := BoolsAt.at_ (Holds.below HH1.out HB.out hql) hbk
          have hfk := hidden (foundK_succ now k)
          rw [hbk] at hfk
          have qlt : (k : Int) < (t.length : Int) := by omega
          have hfl := foundK_len now k
          cases bk
          · have HM2 : Hid (Mine wr W.heap.size 3 1 u19 (foundK now (k + 1)).length (ints (foundK now (k + 1)))) := hidden (by rw [hfk.out]; exact HM.out)
            clear hbk hfk
            go_wp2
            go_roundw
            case rel => exact ⟨k + 1, by go_num, by omega, HM2, HB⟩
            case measure => simp [intOf]; omega
          · subst e8
            have hn8 : (foundK now k).length ≤ 1000000000000 := by omega
            have hfl2 := hidden (show foundK now (k + 1) = foundK now k ++ [k] from by rw [hfk.out]; rfl)
            clear hbk hfk
            generalize foundK now k = fk at *
            go_wp2_with (at_builtin; refine wpList_append_int rfl _ _ 35 3 3 rfl (by kernel_rfl) int_info W.heap.size _ _ _ HM _ rfl rfl rfl (by first | rfl | simp) (by omega) hbr ?_; intro v' w' hA)
            have HM2 : Hid (Mine w' W.heap.size 3 1 v' (foundK now (k + 1)).length (ints (foundK now (k + 1)))) := hidden (by
              rw [hfl2.out, List.length_append, ints_snoc]; exact hA.out.mine)
            have HB2 : Hid (Below W.heap.size W w') := hidden ((HB.out.alloc hbr _).trans hA.out.below)
            clear hA HM HB c1 hfl2
            go_wp2
            go_roundw
            case rel => exact ⟨k + 1, by go_num, by omega, HM2, HB2⟩
            case measure => simp [intOf]; omega
        · have hkn : k = t.length := by omega
          subst hkn
          subst e8
          have HM2 := hidden (show Mine wr W.heap.size 3 1 (.slice A8 row.length c8) row.length (ints row) from by rw [HE2.out]; exact HM.out)
          have hrl := HE2.out
          rw [← hrl]
          clear HM HE2
          have hDs := hidden (show wr.heap[D]? = some (.deferred (some [])) from (HB.out.block D hDl).trans HKD.out)
          have hbF := hidden (HBW.out.trans (HB.out.mono hbz))
          have hbz2 := hbF.out.size
          clear HB HBW HKD
          go_wp2
          gi_wp2
          refine leaves_marks (B := w.heap.size) [D] _ ⟨by simp, ?_⟩ ?_
          · intro D' hD'
            simp at hD'
            subst hD'
            exact ⟨hD2, hDs.out⟩
          · intro W' hc
            refine ⟨.tuple #[.slice A8 row.length c8, .int .i64 0], ?_, ⟨⟨_, by rw [HE1.out], hidden ((Mine.calm HM2.out hc).base hbz)⟩, hbF.out.trans (hc.below (Nat.le_refl _) hbz2)⟩⟩
            simp [results, Tryz.f7, go_sem]
end Go.Proofs.YtdbbjlphlbndkaaGreat.T
