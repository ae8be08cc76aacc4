/-
  FindAll: the walk.
-/
import Derived.Test.YtdbbjlphlbndkaaFindK
import Derived.Test.YtdbbjlphlbndkaaFindAP
import Derived.Test.YtdbbjlphlbndkaaFindL
import Derived.Test.YtdbbjlphlbndkaaRight11
namespace Go.Proofs.Ytdbbjlphlbndkaa.T
open Go.RowKit Go.Shelf
attribute [local simp] wide_fn

theorem few_len {t : List Node} (h : fewB t = true) : t.length ≤ 120 := by
  unfold fewB at h
  rw [Bool.and_eq_true, decide_eq_true_iff] at h
  exact h.1
theorem two_size {nm : ByteArray} (h : nm.size ≤ 32) : ((⟨#[47, 47]⟩ : ByteArray) ++ nm).size ≤ maxLen := by
  have e : ((⟨#[47, 47]⟩ : ByteArray) ++ nm).size = 2 + nm.size := by rw [ByteArray.size_append]; rfl
  rw [e]
  unfold maxLen
  omega
theorem cnt_nil (g : Gram) (t : List Node) : cntA g t [] = 0 := by
  unfold cntA
  refine List.length_eq_zero_iff.2 (List.filter_eq_nil_iff.2 (fun i _ h => ?_))
  rw [Bool.and_eq_true] at h
  obtain ⟨_, h⟩ := h
  split at h
  · have := holdsB_iff.1 h
    cases this
  · cases h
theorem cast_mem {l : List Nat} {i : Nat} : (i : Int) ∈ castL l ↔ i ∈ l := by
  unfold castL
  rw [List.mem_map]
  exact ⟨fun ⟨a, h, e⟩ => by have : a = i := by omega
                             exact this ▸ h, fun h => ⟨i, h, rfl⟩⟩

set_option maxRecDepth 100000 in
set_option maxHeartbeats 16000000 in
theorem law_findAll (a b c v : Value) (g : Gram) (t : List Node) (w : World) (HG : GramIs w (Old w) a b c g) (hz : Named g) (HN : Nds w (Old w) v t) :
    Calls Try.prog 4 #[.agg (gramCells a b c g), v] w fun r w' => r = .returned (.bool true) ∧ Below w.heap.size w w' := by
  have HSm := hidden (fun (w' : World) (hb : Below w.heap.size w w') => law_Small a b c g w' (HG.old hb) hz)
  have HFw := hidden (fun (w' : World) (hb : Below w.heap.size w w') => few_any v t w' (HN.old hb))
  have HRt := hidden (fun (h4 : t.length ≤ 120) (w' : World) (hb : Below w.heap.size w w') => ref_right v t w' (by omega) (HN.old hb))
  have HCk := hidden (fun (hs : Small g) (w' : World) (hb : Below w.heap.size w w') => ref_Check a b c g w' (HG.old hb) hs.toks hs.rules hs.prods hs.names)
  have HNs := hidden (fun (hs : Small g) (w' : World) (hb : Below w.heap.size w w') => ref_Names a b c g w' (HG.old hb) hs.toks hs.rules)
  have HKn := hidden knows41
  have HOf := hidden (fun (hs : Small g) (h4 : t.length ≤ 120) (s : ByteArray) (hz : s.size ≤ maxLen) (w' : World) (hb : Below w.heap.size w w') => find_Of a b c v g t s w' (HG.old hb) hs hz (by omega) (HN.old hb))
  have HNd := hidden (fun (hs : Small g) (l : Value) (x : Node) (s : ByteArray) (w' : World) (hb : Below w.heap.size w w') => find_Named a b c l g x s w' (HG.old hb) hs)
  have hN := hidden HN
  have HSI := hidden (fun (h : smallB g = true) => (show Small g ∧ (allNames g).length ≤ 24 from ⟨(small_is h hz).1, by
    have := smallB_iff.1 h
    unfold allNames tokNames
    rw [List.length_append, List.length_map]
    omega⟩))
  have HAL := hidden (fun (ht : Tree t) (hr : rightB g = true) => all_laws (g := g) ht hr)
  obtain ⟨⟨A1, k1, rfl, v1, m1⟩, ⟨A2, k2, rfl, v2, m2⟩, ⟨A3, k3, rfl, v3, m3⟩⟩ := HG.vals
  obtain ⟨A, cc, rfl, hc1, hc2⟩ := HN.value
  have hq1 : Hid (∀ w, (Op.equalIn 10000 41 (.agg #[.int .i64 (checkOf g).kind, .int .i64 (checkOf g).at_, .int .i64 (checkOf g).more]) (.agg #[.int .i64 0, .int .i64 0, .int .i64 0])).run Try.prog w = .ok (rightB g) w) := hidden (fun w => by
    have := def_eq_run w (checkOf g) D0
    rw [right_eq] at this
    exact this)
  unfold maxLen at m1 m2 m3 hc2
  unfold gramCells defC at *
  have hb1 : Below w.heap.size w (w.alloc (.cells #[.slice A1 g.toks.length k1, .slice A2 g.rules.length k2, .slice A3 g.prods.length k3, .int .i64 g.start, .int .i64 g.states, .int .i64 g.text, .int .i64 g.nodes, .int .i64 g.pairs] 26)) := (Below.refl _ _).alloc (Nat.le_refl _) _
  have HB1 : Hid (Holds (w.alloc (.cells #[.slice A1 g.toks.length k1, .slice A2 g.rules.length k2, .slice A3 g.prods.length k3, .int .i64 g.start, .int .i64 g.states, .int .i64 g.text, .int .i64 g.nodes, .int .i64 g.pairs] 26)) w.heap.size 26 #[.slice A1 g.toks.length k1, .slice A2 g.rules.length k2, .slice A3 g.prods.length k3, .int .i64 g.start, .int .i64 g.states, .int .i64 g.text, .int .i64 g.nodes, .int .i64 g.pairs]) := hidden (Holds.new w _ _)
  clear HG HN
  generalize checkOf g = df at *
  cases hs1 : smallB g
  · rw [hs1] at HSm
    go_enter Try.func4, Try.ntmps4
    go_upto_region 1 with fail
    generalize (w.alloc (.cells #[.slice A1 g.toks.length k1, .slice A2 g.rules.length k2, .slice A3 g.prods.length k3, .int .i64 g.start, .int .i64 g.states, .int .i64 g.text, .int .i64 g.nodes, .int .i64 g.pairs] 26)) = w1 at *
    have x0 := HB1.out.cell 0; have x1 := HB1.out.cell 1; have x2 := HB1.out.cell 2; have x3 := HB1.out.cell 3; have x4 := HB1.out.cell 4; have x5 := HB1.out.cell 5; have x6 := HB1.out.cell 6; have x7 := HB1.out.cell 7
    have HX := hidden (HSm.out _ hb1)
    go_wp2_with fail
    refine HX.out.mono ?_
    rintro r w2 ⟨rfl, hbn⟩
    replace HB1 := hidden (HB1.out.below hbn HB1.out.lt)
    replace hb1 := hb1.trans (hbn.mono hb1.size)
    clear x0 x1 x2 x3 x4 x5 x6 x7 hbn HX
    have x0 := HB1.out.cell 0; have x1 := HB1.out.cell 1; have x2 := HB1.out.cell 2; have x3 := HB1.out.cell 3; have x4 := HB1.out.cell 4; have x5 := HB1.out.cell 5; have x6 := HB1.out.cell 6; have x7 := HB1.out.cell 7
    have HX := hidden (HKn.out w2)
    go_wp2_with fail
    refine HX.out.mono ?_
    rintro r w3 ⟨rfl, hbn⟩
    replace HB1 := hidden (HB1.out.below hbn HB1.out.lt)
    replace hb1 := hb1.trans (hbn.mono hb1.size)
    clear x0 x1 x2 x3 x4 x5 x6 x7 hbn HX
    go_wp2
    go_ret
    exact ⟨rfl, hb1⟩
  · rw [hs1] at HSm
    obtain ⟨hsm, hnl⟩ := HSI.out hs1
    cases hs2 : fewB t
    · rw [hs2] at HFw
      go_enter Try.func4, Try.ntmps4
      go_upto_region 1 with fail
      generalize (w.alloc (.cells #[.slice A1 g.toks.length k1, .slice A2 g.rules.length k2, .slice A3 g.prods.length k3, .int .i64 g.start, .int .i64 g.states, .int .i64 g.text, .int .i64 g.nodes, .int .i64 g.pairs] 26)) = w1 at *
      have x0 := HB1.out.cell 0; have x1 := HB1.out.cell 1; have x2 := HB1.out.cell 2; have x3 := HB1.out.cell 3; have x4 := HB1.out.cell 4; have x5 := HB1.out.cell 5; have x6 := HB1.out.cell 6; have x7 := HB1.out.cell 7
      have HX := hidden (HSm.out _ hb1)
      go_wp2_with fail
      refine HX.out.mono ?_
      rintro r w2 ⟨rfl, hbn⟩
      replace HB1 := hidden (HB1.out.below hbn HB1.out.lt)
      replace hb1 := hb1.trans (hbn.mono hb1.size)
      clear x0 x1 x2 x3 x4 x5 x6 x7 hbn HX
      have x0 := HB1.out.cell 0; have x1 := HB1.out.cell 1; have x2 := HB1.out.cell 2; have x3 := HB1.out.cell 3; have x4 := HB1.out.cell 4; have x5 := HB1.out.cell 5; have x6 := HB1.out.cell 6; have x7 := HB1.out.cell 7
      have HX := hidden (HFw.out _ hb1)
      go_wp2_with fail
      refine HX.out.mono ?_
      rintro r w3 ⟨rfl, hbn⟩
      replace HB1 := hidden (HB1.out.below hbn HB1.out.lt)
      replace hb1 := hb1.trans (hbn.mono hb1.size)
      clear x0 x1 x2 x3 x4 x5 x6 x7 hbn HX
      have x0 := HB1.out.cell 0; have x1 := HB1.out.cell 1; have x2 := HB1.out.cell 2; have x3 := HB1.out.cell 3; have x4 := HB1.out.cell 4; have x5 := HB1.out.cell 5; have x6 := HB1.out.cell 6; have x7 := HB1.out.cell 7
      have HX := hidden (HKn.out w3)
      go_wp2_with fail
      refine HX.out.mono ?_
      rintro r w4 ⟨rfl, hbn⟩
      replace HB1 := hidden (HB1.out.below hbn HB1.out.lt)
      replace hb1 := hb1.trans (hbn.mono hb1.size)
      clear x0 x1 x2 x3 x4 x5 x6 x7 hbn HX
      go_wp2
      go_ret
      exact ⟨rfl, hb1⟩
    · rw [hs2] at HFw
      have h4 := few_len hs2
      cases hs5 : treeB t
      · rw [hs5] at HRt
        go_enter Try.func4, Try.ntmps4
        go_upto_region 1 with fail
        generalize (w.alloc (.cells #[.slice A1 g.toks.length k1, .slice A2 g.rules.length k2, .slice A3 g.prods.length k3, .int .i64 g.start, .int .i64 g.states, .int .i64 g.text, .int .i64 g.nodes, .int .i64 g.pairs] 26)) = w1 at *
        have x0 := HB1.out.cell 0; have x1 := HB1.out.cell 1; have x2 := HB1.out.cell 2; have x3 := HB1.out.cell 3; have x4 := HB1.out.cell 4; have x5 := HB1.out.cell 5; have x6 := HB1.out.cell 6; have x7 := HB1.out.cell 7
        have HX := hidden (HSm.out _ hb1)
        go_wp2_with fail
        refine HX.out.mono ?_
        rintro r w2 ⟨rfl, hbn⟩
        replace HB1 := hidden (HB1.out.below hbn HB1.out.lt)
        replace hb1 := hb1.trans (hbn.mono hb1.size)
        clear x0 x1 x2 x3 x4 x5 x6 x7 hbn HX
        have x0 := HB1.out.cell 0; have x1 := HB1.out.cell 1; have x2 := HB1.out.cell 2; have x3 := HB1.out.cell 3; have x4 := HB1.out.cell 4; have x5 := HB1.out.cell 5; have x6 := HB1.out.cell 6; have x7 := HB1.out.cell 7
        have HX := hidden (HFw.out _ hb1)
        go_wp2_with fail
        refine HX.out.mono ?_
        rintro r w3 ⟨rfl, hbn⟩
        replace HB1 := hidden (HB1.out.below hbn HB1.out.lt)
        replace hb1 := hb1.trans (hbn.mono hb1.size)
        clear x0 x1 x2 x3 x4 x5 x6 x7 hbn HX
        have x0 := HB1.out.cell 0; have x1 := HB1.out.cell 1; have x2 := HB1.out.cell 2; have x3 := HB1.out.cell 3; have x4 := HB1.out.cell 4; have x5 := HB1.out.cell 5; have x6 := HB1.out.cell 6; have x7 := HB1.out.cell 7
        have HX := hidden (HRt.out h4 _ hb1)
        go_wp2_with fail
        refine HX.out.mono ?_
        rintro r w4 ⟨rfl, hbn⟩
        replace HB1 := hidden (HB1.out.below hbn HB1.out.lt)
        replace hb1 := hb1.trans (hbn.mono hb1.size)
        clear x0 x1 x2 x3 x4 x5 x6 x7 hbn HX
        have x0 := HB1.out.cell 0; have x1 := HB1.out.cell 1; have x2 := HB1.out.cell 2; have x3 := HB1.out.cell 3; have x4 := HB1.out.cell 4; have x5 := HB1.out.cell 5; have x6 := HB1.out.cell 6; have x7 := HB1.out.cell 7
        have HX := hidden (HKn.out w4)
        go_wp2_with fail
        refine HX.out.mono ?_
        rintro r w5 ⟨rfl, hbn⟩
        replace HB1 := hidden (HB1.out.below hbn HB1.out.lt)
        replace hb1 := hb1.trans (hbn.mono hb1.size)
        clear x0 x1 x2 x3 x4 x5 x6 x7 hbn HX
        go_wp2
        go_ret
        exact ⟨rfl, hb1⟩
      · rw [hs5] at HRt
        cases hs6 : rightB g
        · rw [hs6] at hq1
          have q1 := hq1.out
          go_enter Try.func4, Try.ntmps4
          go_upto_region 1 with fail
          generalize (w.alloc (.cells #[.slice A1 g.toks.length k1, .slice A2 g.rules.length k2, .slice A3 g.prods.length k3, .int .i64 g.start, .int .i64 g.states, .int .i64 g.text, .int .i64 g.nodes, .int .i64 g.pairs] 26)) = w1 at *
          have x0 := HB1.out.cell 0; have x1 := HB1.out.cell 1; have x2 := HB1.out.cell 2; have x3 := HB1.out.cell 3; have x4 := HB1.out.cell 4; have x5 := HB1.out.cell 5; have x6 := HB1.out.cell 6; have x7 := HB1.out.cell 7
          have HX := hidden (HSm.out _ hb1)
          go_wp2_with fail
          refine HX.out.mono ?_
          rintro r w2 ⟨rfl, hbn⟩
          replace HB1 := hidden (HB1.out.below hbn HB1.out.lt)
          replace hb1 := hb1.trans (hbn.mono hb1.size)
          clear x0 x1 x2 x3 x4 x5 x6 x7 hbn HX
          have x0 := HB1.out.cell 0; have x1 := HB1.out.cell 1; have x2 := HB1.out.cell 2; have x3 := HB1.out.cell 3; have x4 := HB1.out.cell 4; have x5 := HB1.out.cell 5; have x6 := HB1.out.cell 6; have x7 := HB1.out.cell 7
          have HX := hidden (HFw.out _ hb1)
          go_wp2_with fail
          refine HX.out.mono ?_
          rintro r w3 ⟨rfl, hbn⟩
          replace HB1 := hidden (HB1.out.below hbn HB1.out.lt)
          replace hb1 := hb1.trans (hbn.mono hb1.size)
          clear x0 x1 x2 x3 x4 x5 x6 x7 hbn HX
          have x0 := HB1.out.cell 0; have x1 := HB1.out.cell 1; have x2 := HB1.out.cell 2; have x3 := HB1.out.cell 3; have x4 := HB1.out.cell 4; have x5 := HB1.out.cell 5; have x6 := HB1.out.cell 6; have x7 := HB1.out.cell 7
          have HX := hidden (HRt.out h4 _ hb1)
          go_wp2_with fail
          refine HX.out.mono ?_
          rintro r w4 ⟨rfl, hbn⟩
          replace HB1 := hidden (HB1.out.below hbn HB1.out.lt)
          replace hb1 := hb1.trans (hbn.mono hb1.size)
          clear x0 x1 x2 x3 x4 x5 x6 x7 hbn HX
          have x0 := HB1.out.cell 0; have x1 := HB1.out.cell 1; have x2 := HB1.out.cell 2; have x3 := HB1.out.cell 3; have x4 := HB1.out.cell 4; have x5 := HB1.out.cell 5; have x6 := HB1.out.cell 6; have x7 := HB1.out.cell 7
          have HX := hidden (HCk.out hsm _ hb1)
          go_wp2_with fail
          refine HX.out.mono ?_
          rintro r w5 ⟨rfl, hbn⟩
          replace HB1 := hidden (HB1.out.below hbn HB1.out.lt)
          replace hb1 := hb1.trans (hbn.mono hb1.size)
          clear x0 x1 x2 x3 x4 x5 x6 x7 hbn HX
          have x0 := HB1.out.cell 0; have x1 := HB1.out.cell 1; have x2 := HB1.out.cell 2; have x3 := HB1.out.cell 3; have x4 := HB1.out.cell 4; have x5 := HB1.out.cell 5; have x6 := HB1.out.cell 6; have x7 := HB1.out.cell 7
          have HX := hidden (HKn.out w5)
          go_wp2_with fail
          refine HX.out.mono ?_
          rintro r w6 ⟨rfl, hbn⟩
          replace HB1 := hidden (HB1.out.below hbn HB1.out.lt)
          replace hb1 := hb1.trans (hbn.mono hb1.size)
          clear x0 x1 x2 x3 x4 x5 x6 x7 hbn HX
          go_wp2
          go_ret
          exact ⟨rfl, hb1⟩
        · rw [hs6] at hq1
          have q1 := hq1.out
          have ht := treeB_iff.1 hs5
          obtain ⟨E1, E2, E3, E4, E5⟩ := HAL.out ht hs6
          have HOs := hidden (HOf.out hsm h4 star41 (by decide))
          rw [E1] at HOs
          have HON := hidden (fun (k : Nat) (nm : ByteArray) (hk : (allNames g)[k]? = some nm) (w' : World) hb => HOf.out hsm h4 ((⟨#[47, 47]⟩ : ByteArray) ++ nm) (two_size (E5 k nm hk).1) w' hb)
          have HE2 := hidden E2
          have HE5 := hidden E5
          have HE4 := hidden E4
          have HAs := hidden (castL_rise E3)
          have HL0 := hidden (show cntA g t ((allNames g).take 0) = 0 from by rw [List.take_zero]; exact cnt_nil g t)
          clear HSI HAL E1 E2 E3 E4 E5 hz
          go_enter Try.func4, Try.ntmps4
          go_upto_region 1 with fail
          generalize (w.alloc (.cells #[.slice A1 g.toks.length k1, .slice A2 g.rules.length k2, .slice A3 g.prods.length k3, .int .i64 g.start, .int .i64 g.states, .int .i64 g.text, .int .i64 g.nodes, .int .i64 g.pairs] 26)) = w1 at *
          have x0 := HB1.out.cell 0; have x1 := HB1.out.cell 1; have x2 := HB1.out.cell 2; have x3 := HB1.out.cell 3; have x4 := HB1.out.cell 4; have x5 := HB1.out.cell 5; have x6 := HB1.out.cell 6; have x7 := HB1.out.cell 7
          have HX := hidden (HSm.out _ hb1)
          go_wp2_with fail
          refine HX.out.mono ?_
          rintro r w2 ⟨rfl, hbn⟩
          replace HB1 := hidden (HB1.out.below hbn HB1.out.lt)
          replace hb1 := hb1.trans (hbn.mono hb1.size)
          clear x0 x1 x2 x3 x4 x5 x6 x7 hbn HX
          have x0 := HB1.out.cell 0; have x1 := HB1.out.cell 1; have x2 := HB1.out.cell 2; have x3 := HB1.out.cell 3; have x4 := HB1.out.cell 4; have x5 := HB1.out.cell 5; have x6 := HB1.out.cell 6; have x7 := HB1.out.cell 7
          have HX := hidden (HFw.out _ hb1)
          go_wp2_with fail
          refine HX.out.mono ?_
          rintro r w3 ⟨rfl, hbn⟩
          replace HB1 := hidden (HB1.out.below hbn HB1.out.lt)
          replace hb1 := hb1.trans (hbn.mono hb1.size)
          clear x0 x1 x2 x3 x4 x5 x6 x7 hbn HX
          have x0 := HB1.out.cell 0; have x1 := HB1.out.cell 1; have x2 := HB1.out.cell 2; have x3 := HB1.out.cell 3; have x4 := HB1.out.cell 4; have x5 := HB1.out.cell 5; have x6 := HB1.out.cell 6; have x7 := HB1.out.cell 7
          have HX := hidden (HRt.out h4 _ hb1)
          go_wp2_with fail
          refine HX.out.mono ?_
          rintro r w4 ⟨rfl, hbn⟩
          replace HB1 := hidden (HB1.out.below hbn HB1.out.lt)
          replace hb1 := hb1.trans (hbn.mono hb1.size)
          clear x0 x1 x2 x3 x4 x5 x6 x7 hbn HX
          have x0 := HB1.out.cell 0; have x1 := HB1.out.cell 1; have x2 := HB1.out.cell 2; have x3 := HB1.out.cell 3; have x4 := HB1.out.cell 4; have x5 := HB1.out.cell 5; have x6 := HB1.out.cell 6; have x7 := HB1.out.cell 7
          have HX := hidden (HCk.out hsm _ hb1)
          go_wp2_with fail
          refine HX.out.mono ?_
          rintro r w5 ⟨rfl, hbn⟩
          replace HB1 := hidden (HB1.out.below hbn HB1.out.lt)
          replace hb1 := hb1.trans (hbn.mono hb1.size)
          clear x0 x1 x2 x3 x4 x5 x6 x7 hbn HX
          have x0 := HB1.out.cell 0; have x1 := HB1.out.cell 1; have x2 := HB1.out.cell 2; have x3 := HB1.out.cell 3; have x4 := HB1.out.cell 4; have x5 := HB1.out.cell 5; have x6 := HB1.out.cell 6; have x7 := HB1.out.cell 7
          have HX := hidden (HOs.out _ hb1)
          go_wp2_with fail
          refine HX.out.mono ?_
          rintro r w6 ⟨⟨ua, rfl, HMa⟩, hbn⟩
          replace HB1 := hidden (HB1.out.below hbn HB1.out.lt)
          replace hb1 := hb1.trans (hbn.mono hb1.size)
          clear x0 x1 x2 x3 x4 x5 x6 x7 hbn HX
          have HAl : Hid (Ints w6 (Old w6) ua (castL (ofRow g t star41))) := hidden (by
            have := ints_rd HMa.out
            unfold Ints Row
            rw [cast_len, ints_cast]
            exact this)
          obtain ⟨Aa, ca, rfl⟩ := HMa.out.value
          clear HMa HOs
          have x0 := HB1.out.cell 0; have x1 := HB1.out.cell 1; have x2 := HB1.out.cell 2; have x3 := HB1.out.cell 3; have x4 := HB1.out.cell 4; have x5 := HB1.out.cell 5; have x6 := HB1.out.cell 6; have x7 := HB1.out.cell 7
          have HX := hidden (HNs.out hsm _ hb1)
          go_wp2_with fail
          refine HX.out.mono ?_
          rintro r w7 ⟨⟨un, rfl, HMn⟩, hbn⟩
          replace HB1 := hidden (HB1.out.below hbn HB1.out.lt)
          replace HAl := hidden (Rd.old HAl.out hbn)
          replace hb1 := hb1.trans (hbn.mono hb1.size)
          clear x0 x1 x2 x3 x4 x5 x6 x7 hbn HX
          have HSn := hidden (StrsM.rd HMn.out)
          obtain ⟨An, cn, rfl⟩ := HMn.out.value
          clear HMn HNs HSm HFw HRt HCk hq1 q1
          obtain ⟨b0, o0, hA⟩ : ∃ b0 o0, A = some ⟨b0, o0, none⟩ := by
            have hpos : 0 < t.length := by obtain ⟨⟨x, hx, _⟩, _⟩ := ht; exact (List.getElem?_eq_some_iff.1 hx).1
            obtain ⟨b0, o0, c', hv, _⟩ := hN.out.open_ (by intro e; rw [e] at hpos; simp at hpos)
            cases hv
            exact ⟨b0, o0, rfl⟩
          subst hA
          have htpos : 1 ≤ t.length := by obtain ⟨⟨x, hx, _⟩, _⟩ := ht; exact (List.getElem?_eq_some_iff.1 hx).1
          have HND := hidden (fun (i : Nat) (x : Node) (hx : t[i]? = some x) => (show ∃ l, w.cell? ⟨b0, o0 + i * 5, none⟩ = some (.int .i64 x.kind) ∧ w.cell? ⟨b0, o0 + i * 5 + 1, none⟩ = some (.int .i64 x.n) ∧ w.cell? ⟨b0, o0 + i * 5 + 2, none⟩ = some (.int .i64 x.size) ∧ w.cell? ⟨b0, o0 + i * 5 + 3, none⟩ = some l ∧ w.cell? ⟨b0, o0 + i * 5 + 4, none⟩ = some (.string x.text) from by
            obtain ⟨b', o', c', hv, _, _, _, hat⟩ := hN.out.open_ (by intro e; rw [e] at hx; simp at hx)
            cases hv
            obtain ⟨l, q0, q1, q2, q3, q4, _⟩ := hat i x hx
            exact ⟨l, q0, q1, q2, q3, q4⟩))
          have HIn := hidden (fun (i : Nat) (x : Node) (nm : ByteArray) (hx : t[i]? = some x) => (show namedB g x nm = isN g t nm i from by unfold namedB isN; rw [hs6, hx, Bool.true_and]))
          have HHs := hidden (fun (i : Nat) (w' : World) (hb : Below w7.heap.size w7 w') => (ref11_has _ _ (i : Int) (Old w') w' (Rd.old HAl.out hb)).mono (R' := fun r w'' => r = .returned (.bool (holdsB ((i : Int) ∈ castL (ofRow g t star41)))) ∧ Below w'.heap.size w' w'') (fun e w'' h => ⟨h.1, h.2 ▸ Below.refl _ _⟩))
          have hcm := hidden (fun k => (show cntA g t ((allNames g).take k) ≤ 120 from by
            unfold cntA
            refine Nat.le_trans (List.length_filter_le _ _) ?_
            rw [List.length_range]
            exact h4))
          have hn0 := hidden (show cntA g t (allNames g) = cntA g t ((allNames g).take (allNames g).length) from by rw [List.take_length])
          generalize ofRow g t star41 = ra at *
          generalize allNames g = ns at *
          have HNN := hidden (fun k => hcm.out k)
          go_wp2
          go_loopw [7, 9] (fun nn kk wr => ∃ k : Nat, kk = .int .i64 k ∧ k ≤ ns.length ∧ nn = .int .i64 (cntA g t (ns.take k) : Nat) ∧ Hid (Below w7.heap.size w7 wr)) (fun nn kk wr => ns.length - (intOf kk).toNat)
          case atStart => exact ⟨0, by go_num, Nat.zero_le _, by rw [HL0.out]; rfl, hidden (Below.refl _ _)⟩
          case round =>
            obtain ⟨k, rfl, hk, rfl, HB⟩ := hrel
            have hbr := HB.out.size
            have hbw := hb1.trans (HB.out.mono hb1.size)
            have HBx := hidden (HB1.out.below HB.out HB1.out.lt)
            by_cases hlt : k < ns.length
            · have hp := List.getElem?_eq_getElem hlt
              generalize ns[k] = nm at *
              obtain ⟨h32, e0, hcs, hrw⟩ := HE5.out k nm hp
              obtain ⟨bn, on, rfl, _, y7⟩ := strs_at HSn.out hp
              have y0 := cellF y7 HB.out
              have HY7 := hidden y7
              have qk : (k : Int) < (ns.length : Int) := by omega
              have HOl := hidden (fun w' hb => HON.out k nm hp w' (below_more hbw hb))
              rw [e0] at HOl
              have hc1 := hcm.out k
              have hc2 := hcm.out (k + 1)
              have HRW := hidden hrw
              have HCS := hidden hcs
              generalize ofRow g t ((⟨#[47, 47]⟩ : ByteArray) ++ nm) = rb at *
              have hrb : rb.length ≤ 120 := by have := HCS.out; omega
              have x0 := HBx.out.cell 0; have x1 := HBx.out.cell 1; have x2 := HBx.out.cell 2; have x3 := HBx.out.cell 3; have x4 := HBx.out.cell 4; have x5 := HBx.out.cell 5; have x6 := HBx.out.cell 6; have x7 := HBx.out.cell 7
              have ha0 : (⟨#[47, 47]⟩ : ByteArray).size = 2 := rfl
              have ha1 : ¬ (9223372036854775807 < (⟨#[47, 47]⟩ : ByteArray).size + nm.size) := by rw [ha0]; omega
              have ha2 : ¬ (9223372036854775807 < 2 + nm.size) := by omega
              have ha3 : (⟨#[47, 47]⟩ : ByteArray).size + nm.size ≤ 9223372036854775807 := by rw [ha0]; omega
              have ha4 : 2 + nm.size ≤ 9223372036854775807 := by omega
              clear ha0
              clear hrw hcs e0 y7 hp
              go_wp2_with fail
              go_region_held3 (fun w' => w'.cell? ⟨bn, on + k, none⟩ = some (.string nm) ∧ w'.cell? ⟨w.heap.size, 0, none⟩ = some (.slice A1 g.toks.length k1) ∧ w'.cell? ⟨w.heap.size, 1, none⟩ = some (.slice A2 g.rules.length k2) ∧ w'.cell? ⟨w.heap.size, 2, none⟩ = some (.slice A3 g.prods.length k3) ∧ w'.cell? ⟨w.heap.size, 3, none⟩ = some (.int .i64 g.start) ∧ w'.cell? ⟨w.heap.size, 4, none⟩ = some (.int .i64 g.states) ∧ w'.cell? ⟨w.heap.size, 5, none⟩ = some (.int .i64 g.text) ∧ w'.cell? ⟨w.heap.size, 6, none⟩ = some (.int .i64 g.nodes) ∧ w'.cell? ⟨w.heap.size, 7, none⟩ = some (.int .i64 g.pairs) ∧ Below wr.heap.size wr w')
                (first | exact ⟨y0, x0, x1, x2, x3, x4, x5, x6, x7, Below.drew (Below.refl _ _)⟩ | (go_split_ands; exact ⟨cell_more y0 (by (first | assumption | exact Below.drew (Below.refl _ _) | exact Below.refl _ _)) (by assumption), cell_more x0 (by (first | assumption | exact Below.drew (Below.refl _ _) | exact Below.refl _ _)) (by assumption), cell_more x1 (by (first | assumption | exact Below.drew (Below.refl _ _) | exact Below.refl _ _)) (by assumption), cell_more x2 (by (first | assumption | exact Below.drew (Below.refl _ _) | exact Below.refl _ _)) (by assumption), cell_more x3 (by (first | assumption | exact Below.drew (Below.refl _ _) | exact Below.refl _ _)) (by assumption), cell_more x4 (by (first | assumption | exact Below.drew (Below.refl _ _) | exact Below.refl _ _)) (by assumption), cell_more x5 (by (first | assumption | exact Below.drew (Below.refl _ _) | exact Below.refl _ _)) (by assumption), cell_more x6 (by (first | assumption | exact Below.drew (Below.refl _ _) | exact Below.refl _ _)) (by assumption), cell_more x7 (by (first | assumption | exact Below.drew (Below.refl _ _) | exact Below.refl _ _)) (by assumption), below_more (by (first | assumption | exact Below.drew (Below.refl _ _) | exact Below.refl _ _)) (by assumption)⟩))
                (first | (go_at_call 10; go_split_ands; refine (HOl.out _ (by (first | assumption | exact Below.drew (Below.refl _ _) | exact Below.refl _ _))).mono ?_; rintro e w8 ⟨⟨u6, rfl, HM6⟩, hb6⟩; obtain ⟨A6, c6, rfl⟩ := HM6.out.value))
              have hb6' : Below wr.heap.size wr w8 := ⟨hb6.os, hb6.tape, hb6.output, hb6.size, hb6.block⟩
              have HR6 := hidden (ints_rd HM6.out)
              have HB8 := hidden (HB.out.trans (hb6'.mono hbr))
              have hbw8 := hbw.trans (hb6'.mono hbw.size)
              have HB8x := hidden (HBx.out.below hb6' HBx.out.lt)
              clear x0 x1 x2 x3 x4 x5 x6 x7 y0 HBx HOl hb6 hb6' HM6 HB
              go_wp2
              go_loopw [12] (fun ii wr => ∃ i : Nat, ii = .int .i64 i ∧ i ≤ rb.length ∧ Hid (Below w8.heap.size w8 wr)) (fun ii wr => rb.length - (intOf ii).toNat)
              case atStart => exact ⟨0, by go_num, Nat.zero_le _, hidden (Below.refl _ _)⟩
              case round =>
                obtain ⟨i, rfl, hi, HB⟩ := hrel
                have hB7 := HB8.out.trans (HB.out.mono HB8.out.size)
                by_cases hil : i < rb.length
                · have hp := List.getElem?_eq_getElem hil
                  obtain ⟨hpl, hpa, hpn⟩ := HRW.out _ (List.getElem_mem hil)
                  generalize rb[i] = p at *
                  have hx := List.getElem?_eq_getElem hpl
                  generalize t[p] = x at *
                  obtain ⟨l0, z0, z1, z2, z3, z4⟩ := HND.out p x hx
                  have hIn := HIn.out p x nm hx
                  rw [hpn] at hIn
                  have HN2 := hidden (fun (w' : World) (hb : Below wr.heap.size wr w') => HNd.out hsm l0 x nm w' ((hbw8.trans (HB.out.mono hbw8.size)).trans (hb.mono (hbw8.trans (HB.out.mono hbw8.size)).size)))
                  rw [hIn] at HN2
                  have HH2 := hidden (fun (w' : World) (hb : Below wr.heap.size wr w') => HHs.out p w' (hB7.trans (hb.mono hB7.size)))
                  rw [show holdsB ((p : Int) ∈ castL ra) = true from holdsB_true (cast_mem.2 hpa)] at HH2
                  have hwi := hbw8.trans (HB.out.mono hbw8.size)
                  replace z0 := cellF z0 hwi; replace z1 := cellF z1 hwi; replace z2 := cellF z2 hwi; replace z3 := cellF z3 hwi; replace z4 := cellF z4 hwi
                  obtain ⟨_, A5, c5, hv5, _, _, hop⟩ := HR6.out.below HB.out old_lt
                  obtain ⟨b6, o6, hA6, _, hc6⟩ := hop (by unfold ints; rw [List.length_map]; omega)
                  subst hA6
                  cases hv5
                  have y1 : wr.cell? ⟨b6, o6 + i, none⟩ = some (.int .i64 (p : Int)) := hc6 i (.int .i64 (p : Int)) (by unfold ints; rw [List.getElem?_map, hp]; rfl)
                  have y0 := cellF HY7.out hB7
                  have HBy := hidden (HB8x.out.below HB.out HB8x.out.lt)
                  have qi : (i : Int) < (rb.length : Int) := by omega
                  have qp : (p : Int) < (t.length : Int) := by omega
                  obtain ⟨kd, n_, sz_, ld, tx⟩ := x
                  unfold ndV at HN2
                  dsimp only at *
                  have x0 := HBy.out.cell 0; have x1 := HBy.out.cell 1; have x2 := HBy.out.cell 2; have x3 := HBy.out.cell 3; have x4 := HBy.out.cell 4; have x5 := HBy.out.cell 5; have x6 := HBy.out.cell 6; have x7 := HBy.out.cell 7
                  clear hop hc6 hp hx hIn hpn hpa hwi HBy
                  go_wp2_with fail
                  refine (wpIn_wide (n := 5)).1 ?_
                  have e0 := Ext.cell x0; have e1 := Ext.cell x1; have e2 := Ext.cell x2; have e3 := Ext.cell x3; have e4 := Ext.cell x4; have e5 := Ext.cell x5; have e6 := Ext.cell x6; have e7 := Ext.cell x7
                  have g0 := Ext.cell z0; have g1 := Ext.cell z1; have g2 := Ext.cell z2; have g3 := Ext.cell z3; have g4 := Ext.cell z4; have g5 := Ext.cell y0; have g6 := Ext.cell y1
                  refine wpIn_region_ext (by kernel_rfl) (by kernel_rfl) rfl ?_
                  repeat (gi_big_quiet_step ((first | (gi_at_call 16; exact Ext.callIn (callsIn_wide.2 (HH2.out _ (Ext.below _)))) | (gi_at_call 17; exact Ext.callIn (callsIn_wide.2 (HN2.out _ (Ext.below _)))))))
                  refine wpQuietIn_nil ?_
                  intro w5 hb5
                  have HB5 := hidden (HB.out.trans (hb5.mono HB.out.size))
                  clear HB hb5 x0 x1 x2 x3 x4 x5 x6 x7 e0 e1 e2 e3 e4 e5 e6 e7 g0 g1 g2 g3 g4 g5 g6 y0 y1 z0 z1 z2 z3 z4 HN2 HH2 hB7
                  go_wp2
                  exact ⟨⟨i + 1, by go_num, by omega, HB5⟩, by simp [intOf]; omega⟩
                · have hie : i = rb.length := by omega
                  subst hie
                  have qi : ¬ ((rb.length : Int) < (rb.length : Int)) := by omega
                  have HB9 := hidden hB7
                  have hcs2 : ((cntA g t (ns.take k) : Nat) : Int) + (rb.length : Int) = ((cntA g t (ns.take (k + 1)) : Nat) : Int) := by have := HCS.out; omega
                  clear HB hB7
                  go_wp2
                  exact ⟨⟨k + 1, by go_num, by omega, rfl, HB9⟩, by simp [intOf]; omega⟩
            · have hkn : k = ns.length := by omega
              subst hkn
              have qk : ¬ ((ns.length : Int) < (ns.length : Int)) := by omega
              have hcn : Hid (cntA g t (ns.take ns.length) = ra.length) := hidden (by rw [HE4.out, hn0.out])
              rw [hcn.out]
              have HBz := HB
              clear HBx HE5 HON hbr
              go_wp2
              go_loopw [13] (fun ii wi => ∃ i : Nat, ii = .int .i64 i ∧ 1 ≤ i ∧ i ≤ t.length ∧ Hid (Below w7.heap.size w7 wi)) (fun ii wi => t.length - (intOf ii).toNat)
              case atStart => exact ⟨1, by go_num, Nat.le_refl _, htpos, HBz⟩
              case round =>
                obtain ⟨i, rfl, hi1, hi2, HB⟩ := hrel
                have hwi := hb1.trans (HB.out.mono hb1.size)
                by_cases hil : i < t.length
                · have hx := List.getElem?_eq_getElem hil
                  generalize t[i] = x at *
                  obtain ⟨l0, z0, z1, z2, z3, z4⟩ := HND.out i x hx
                  have hIn := HIn.out i x all41 hx
                  have hbb : holdsB ((i : Int) ∈ castL ra) = isN g t all41 i := by
                    rw [Bool.eq_iff_iff, holdsB_iff, cast_mem, HE2.out]
                    exact ⟨fun h => h.2.2, fun h => ⟨hi1, hil, h⟩⟩
                  have HN2 := hidden (fun (w' : World) (hb : Below wr.heap.size wr w') => HNd.out hsm l0 x all41 w' (hwi.trans (hb.mono hwi.size)))
                  rw [hIn] at HN2
                  have HH2 := hidden (fun (w' : World) (hb : Below wr.heap.size wr w') => HHs.out i w' (HB.out.trans (hb.mono HB.out.size)))
                  rw [hbb] at HH2
                  generalize isN g t all41 i = bb at *
                  replace z0 := cellF z0 hwi; replace z1 := cellF z1 hwi; replace z2 := cellF z2 hwi; replace z3 := cellF z3 hwi; replace z4 := cellF z4 hwi
                  have HBy := hidden (HB1.out.below HB.out HB1.out.lt)
                  have qi : (i : Int) < (t.length : Int) := by omega
                  have qb : (bb != bb) = false := by simp
                  obtain ⟨kd, n_, sz_, ld, tx⟩ := x
                  unfold ndV at HN2
                  dsimp only at *
                  have x0 := HBy.out.cell 0; have x1 := HBy.out.cell 1; have x2 := HBy.out.cell 2; have x3 := HBy.out.cell 3; have x4 := HBy.out.cell 4; have x5 := HBy.out.cell 5; have x6 := HBy.out.cell 6; have x7 := HBy.out.cell 7
                  clear hx hIn hbb hwi HBy
                  go_wp2_with fail
                  refine (wpIn_wide (n := 5)).1 ?_
                  have e0 := Ext.cell x0; have e1 := Ext.cell x1; have e2 := Ext.cell x2; have e3 := Ext.cell x3; have e4 := Ext.cell x4; have e5 := Ext.cell x5; have e6 := Ext.cell x6; have e7 := Ext.cell x7
                  have g0 := Ext.cell z0; have g1 := Ext.cell z1; have g2 := Ext.cell z2; have g3 := Ext.cell z3; have g4 := Ext.cell z4
                  refine wpIn_region_ext (by kernel_rfl) (by kernel_rfl) rfl ?_
                  repeat (gi_big_quiet_step ((first | (gi_at_call 16; exact Ext.callIn (callsIn_wide.2 (HH2.out _ (Ext.below _)))) | (gi_at_call 17; exact Ext.callIn (callsIn_wide.2 (HN2.out _ (Ext.below _)))))))
                  refine wpQuietIn_nil ?_
                  intro w5 hb5
                  have HB5 := hidden (HB.out.trans (hb5.mono HB.out.size))
                  clear HB hb5 x0 x1 x2 x3 x4 x5 x6 x7 e0 e1 e2 e3 e4 e5 e6 e7 g0 g1 g2 g3 g4 z0 z1 z2 z3 z4 HN2 HH2
                  cases bb
                  all_goals
                    go_wp2
                    exact ⟨⟨i + 1, by go_num, by omega, by omega, HB5⟩, by simp [intOf]; omega⟩
                · have qi : ¬ ((i : Int) < (t.length : Int)) := by omega
                  obtain ⟨w8, rfl⟩ : ∃ w8, w8 = wr := ⟨_, rfl⟩
                  replace HB1 := hidden (HB1.out.below HB.out HB1.out.lt)
                  replace HAl := hidden (Rd.old HAl.out HB.out)
                  clear hb1
                  have hb1 := hwi
                  clear HHs HND HIn HNd HE2
                  have x0 := HB1.out.cell 0; have x1 := HB1.out.cell 1; have x2 := HB1.out.cell 2; have x3 := HB1.out.cell 3; have x4 := HB1.out.cell 4; have x5 := HB1.out.cell 5; have x6 := HB1.out.cell 6; have x7 := HB1.out.cell 7
                  have HX := hidden (ref11_Right _ (castL ra) w8 HAl.out HAs.out)
                  go_wp2_with fail
                  refine HX.out.mono ?_
                  rintro r w9 ⟨rfl, hbn⟩
                  replace HB1 := hidden (HB1.out.below hbn HB1.out.lt)
                  replace hb1 := hb1.trans (hbn.mono hb1.size)
                  clear x0 x1 x2 x3 x4 x5 x6 x7 hbn HX
                  have x0 := HB1.out.cell 0; have x1 := HB1.out.cell 1; have x2 := HB1.out.cell 2; have x3 := HB1.out.cell 3; have x4 := HB1.out.cell 4; have x5 := HB1.out.cell 5; have x6 := HB1.out.cell 6; have x7 := HB1.out.cell 7
                  have HX := hidden (HKn.out w9)
                  go_wp2_with fail
                  refine HX.out.mono ?_
                  rintro r w10 ⟨rfl, hbn⟩
                  replace HB1 := hidden (HB1.out.below hbn HB1.out.lt)
                  replace hb1 := hb1.trans (hbn.mono hb1.size)
                  clear x0 x1 x2 x3 x4 x5 x6 x7 hbn HX
                  go_wp2
                  go_ret
                  exact ⟨rfl, hb1⟩
end Go.Proofs.Ytdbbjlphlbndkaa.T
