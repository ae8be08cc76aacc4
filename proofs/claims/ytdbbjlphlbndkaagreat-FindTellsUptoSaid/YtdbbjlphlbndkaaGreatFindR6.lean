/-
  The document's selectors: facsimileref41.Texts.
-/
import Derived.Test.YtdbbjlphlbndkaaGreatFindR5
import Derived.Test.YtdbbjlphlbndkaaGreatYR
namespace Go.Proofs.YtdbbjlphlbndkaaGreat.T
open Go.RowKit Go.Shelf
attribute [local go_sem] Oper.semAt_some

set_option maxRecDepth 20000 in
set_option maxHeartbeats 16000000 in
theorem ref_Texts41 (a b c v : Value) (g : Gram) (t : List Node) (s : ByteArray) (w : World) (HG : GramIs w (Old w) a b c g) (hsm : Small g) (hs : s.size ≤ maxLen) (hbk : bulkT t ≤ 1048576) (hln : t.length ≤ 60) (HN : Nds w (Old w) v t)
    (hsp : Tree t → ∀ i : Nat, i < t.length → (spanOf t (i : Int)).1 ≤ (spanOf t (i : Int)).2.1 ∧ (spanOf t (i : Int)).2.1 ≤ (textOf t).length) :
    Calls Tryz.prog 10 #[.agg (gramCells a b c g), v, .string s] w fun r w' => (∃ u, r = .returned (.tuple #[u, .int .i64 (ofErr g t s)]) ∧ Hid (StrsM w' w.heap.size u (textsO g t s))) ∧ Below w.heap.size w w' := by
  have h5 := bulk_len t
  have HOf := hidden (fun (w' : World) (hb : Below w.heap.size w w') => ref_Of41 a b c v g t s w' (HG.old hb) hsm hs hln (HN.old hb))
  have HTx := hidden (fun (w' : World) (hb : Below w.heap.size w w') => ref_text v t w' (by omega) (HN.old hb))
  have HSp := hidden (fun (ht : Tree t) (i : Nat) (hi : i < t.length) (w' : World) (hb : Below w.heap.size w w') => ref_span_yes v t i w' (by omega) (HN.old hb) (placeB_iff.2 ⟨by omega, by omega, ht⟩))
  obtain ⟨⟨A1, k1, rfl, v1, m1⟩, ⟨A2, k2, rfl, v2, m2⟩, ⟨A3, k3, rfl, v3, m3⟩⟩ := HG.vals
  obtain ⟨A, cc, rfl, hc1, hc2⟩ := HN.value
  unfold maxLen at m1 m2 m3 hs hc2
  have hlt := hidden (ofRow_lt (g := g) (t := t) (s := s))
  have hle := ofRow_len (g := g) (t := t) (s := s)
  have hez := hidden (fun h => treeB_iff.1 (ofErr_zero (g := g) (t := t) (s := s) h).2)
  have hE : Hid (textsO g t s = (ofRow g t s).map (partT t)) := hidden rfl
  have hE0 : Hid (ofErr g t s ≠ 0 → ofRow g t s = []) := hidden (fun h => by unfold ofRow; rw [if_pos h])
  generalize ofErr g t s = err at *
  generalize ofRow g t s = row at *
  generalize textsO g t s = out at *
  unfold gramCells at *
  have hb1 : Below w.heap.size w (w.alloc (.cells #[.slice A1 g.toks.length k1, .slice A2 g.rules.length k2, .slice A3 g.prods.length k3, .int .i64 g.start, .int .i64 g.states, .int .i64 g.text, .int .i64 g.nodes, .int .i64 g.pairs] 26)) := (Below.refl _ _).alloc (Nat.le_refl _) _
  have HB1 : Hid (Holds (w.alloc (.cells #[.slice A1 g.toks.length k1, .slice A2 g.rules.length k2, .slice A3 g.prods.length k3, .int .i64 g.start, .int .i64 g.states, .int .i64 g.text, .int .i64 g.nodes, .int .i64 g.pairs] 26)) w.heap.size 26 #[.slice A1 g.toks.length k1, .slice A2 g.rules.length k2, .slice A3 g.prods.length k3, .int .i64 g.start, .int .i64 g.states, .int .i64 g.text, .int .i64 g.nodes, .int .i64 g.pairs]) := hidden (by repeat (first | (with_reducible assumption) | ((with_reducible refine holds_new ?_); (focus (first | rfl | (simp; done)))) | (with_reducible refine Holds.alloc ?_ _) | (with_reducible refine Holds.drew ?_)))
  clear HG HN hsm
  go_enter Tryz.func10, Tryz.ntmps10
  go_upto_region 1 with fail
  generalize (w.alloc (.cells #[.slice A1 g.toks.length k1, .slice A2 g.rules.length k2, .slice A3 g.prods.length k3, .int .i64 g.start, .int .i64 g.states, .int .i64 g.text, .int .i64 g.nodes, .int .i64 g.pairs] 26)) = w1 at *
  have x0 := HB1.out.cell 0; have x1 := HB1.out.cell 1; have x2 := HB1.out.cell 2; have x3 := HB1.out.cell 3
  have x4 := HB1.out.cell 4; have x5 := HB1.out.cell 5; have x6 := HB1.out.cell 6; have x7 := HB1.out.cell 7
  have hOf1 := hidden (HOf.out _ hb1)
  go_wp2_with fail
  refine hOf1.out.mono ?_
  rintro r w2 ⟨⟨u, rfl, HM⟩, hb2⟩
  replace hb1 := hb1.trans (hb2.mono hb1.size)
  clear x0 x1 x2 x3 x4 x5 x6 x7 hOf1 HOf HB1
  by_cases he : err = 0
  · subst he
    have ht := hez.out rfl
    have hRd := hidden ((rd_of_cast HM.out).mono (T' := Old w2) (fun k h => h.2))
    obtain ⟨A4, c4, rfl, _, _⟩ := HM.out.val
    rw [castE_len] at hRd ⊢
    have hT1 := hidden (HTx.out _ hb1)
    unfold catB at hT1
    clear hez hE0 HM hb2 HTx
    go_wp2_with fail
    refine hT1.out.mono ?_
    rintro r w3 ⟨rfl, hb3⟩
    replace hRd := hidden ((hRd.out.below hb3 old_lt).mono (T' := Old w3) (fun k hk => Nat.lt_of_lt_of_le hk hb3.size))
    replace hb1 := hb1.trans (hb3.mono hb1.size)
    clear hT1 hb3
    have hsp2 := hidden (hsp ht)
    clear hsp
    have hEp := hidden (show ∀ i, partT t i = (⟨(textOf t).toArray⟩ : ByteArray).extract (spanOf t (i : Int)).1 (spanOf t (i : Int)).2.1 from fun _ => rfl)
    have htz : (⟨(textOf t).toArray⟩ : ByteArray).size = (textOf t).length := by show (textOf t).toArray.size = _; simp
    have hSp2 := hidden (fun i hi => HSp.out ht i hi)
    clear HSp
    generalize spanOf t = sp at *
    have hsp3 := hidden hsp2.out
    rw [← htz] at hsp3
    clear htz
    generalize (⟨(textOf t).toArray⟩ : ByteArray) = txt at *
    have hRL : row.length ≤ 1000000 := by omega
    go_wp2
    go_loopw [11, 12] (fun o kk wr => ∃ k : Nat, kk = .int .i64 k ∧ k ≤ row.length ∧ Hid (StrsM wr w3.heap.size o ((row.take k).map (partT t))) ∧ Hid (Below w3.heap.size w3 wr)) (fun o kk wr => row.length - (intOf kk).toNat)
    case atStart => exact ⟨0, by go_num, Nat.zero_le _, hidden (.inr ⟨rfl, rfl, _, rfl⟩), hidden ((Below.refl _ _).alloc (Nat.le_refl _) _)⟩
    case round =>
      obtain ⟨k, rfl, hk, HM, HB⟩ := hrel
      obtain ⟨A8, c8, e8⟩ := HM.out.value
      subst e8
      by_cases hlt2 : k < row.length
      · have hy := List.getElem?_eq_getElem hlt2
        have hyl := hlt.out _ (List.getElem_mem hlt2)
        generalize row[k] = y at *
        have hty : (row.take (k + 1)).map (partT t) = (row.take k).map (partT t) ++ [partT t y] := by rw [List.take_add_one, hy, List.map_append]; rfl
        rw [hEp.out] at hty
        obtain ⟨_, A5, c5, hv5, _, _, hop⟩ := hRd.out.below HB.out old_lt
        obtain ⟨b4, o4, hA4, hT4, hc4⟩ := hop (by unfold ints; rw [List.length_map]; omega)
        subst hA4
        cases hv5
        have c4' := hc4 k (.int .i64 (y : Int)) (by unfold ints; rw [List.getElem?_map, hy]; rfl)
        have qk : (k : Int) < (row.length : Int) := by omega
        have hbw := hb1.trans (HB.out.mono hb1.size)
        have hS := hidden (hSp2.out y hyl _ hbw)
        obtain ⟨hs1, hs2⟩ := hsp3.out y hyl
        have HTY := hidden hty
        clear hty hop hc4 hy hSp2 hsp3 hsp2 hEp hlt
        generalize sp (y : Int) = spy at *
        obtain ⟨f1, f2, f3⟩ := spy
        dsimp only at *
        have hn8 : ((row.take k).map (partT t)).length ≤ 1000000 := by rw [List.length_map, List.length_take]; omega
        generalize (row.take k).map (partT t) = acc at *
        go_wp2_with fail
        refine hS.out.mono ?_
        rintro r w4 ⟨rfl, hb4⟩
        have hbz := HB.out.size
        have HM4 := hidden (Mine.below HM.out hb4)
        have HB4 := hidden (HB.out.trans (hb4.mono hbz))
        have hb4z := HB4.out.size
        clear HM HB hS hb4 c4' hbz
        have hb4z2 : w3.heap.size ≤ w4.heap.size + 1 := by omega
        have HM5 : Hid (StrsM (w4.alloc (.cells #[.int .i64 (f1 : Int), .int .i64 (f2 : Int)] 60)) w3.heap.size (.slice A8 acc.length c8) acc) := hidden (Mine.alloc HM4.out _)
        go_wp2_with (at_builtin; refine wpList_append_str rfl _ _ rfl w3.heap.size _ _ HM5 _ rfl rfl rfl (by first | rfl | simp) hn8 (by rw [World.size_alloc]; exact hb4z2) ?_; intro v' w' hA hb5 hK5)
        exact ⟨⟨k + 1, by go_num, by omega, hidden (by rw [HTY.out]; exact hA.out), hidden ((HB4.out.alloc hb4z _).trans hb5)⟩, by simp [intOf]; omega⟩
      · have hkn : k = row.length := by omega
        subst hkn
        have qk : ¬ ((row.length : Int) < (row.length : Int)) := by omega
        have HM6 : Hid (StrsM wr w3.heap.size (.slice A8 ((row.take row.length).map (partT t)).length c8) out) := hidden (by
          rw [hE.out]
          have := HM.out
          rw [List.take_length] at this
          have e : (row.take row.length).map (partT t) = row.map (partT t) := by rw [List.take_length]
          rw [e]
          exact this)
        have hbF := hb1.trans (HB.out.mono hb1.size)
        have hbz := hb1.size
        clear HM HB
        generalize ((row.take row.length).map (partT t)).length = n9 at *
        go_wp2
        refine bodyPost_ret (v := .tuple #[.slice A8 n9 c8, .int .i64 0]) (by simp [results, Tryz.results10, go_sem]) rfl ?_
        exact ⟨⟨_, rfl, hidden (Mine.base HM6.out hbz)⟩, hbF⟩
  · have hrw := hE0.out he
    have hne : (err != 0) = true := by simpa using he
    subst hrw
    have ho : out = [] := hE.out
    clear hE hE0
    go_wp2
    refine bodyPost_ret (v := .tuple #[.slice none 0 0, .int .i64 err]) (by simp [results, Tryz.results10, go_sem]) rfl ?_
    exact ⟨⟨_, rfl, hidden (by rw [ho]; exact Mine.nil _ _ _ _)⟩, hb1⟩
end Go.Proofs.YtdbbjlphlbndkaaGreat.T
