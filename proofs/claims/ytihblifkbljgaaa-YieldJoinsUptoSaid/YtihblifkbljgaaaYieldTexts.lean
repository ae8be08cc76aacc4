/-
  The law YieldTexts: the words, the pieces and the text of any nodes.
-/
import Derived.Test.YtihblifkbljgaaaYieldPieces
import Derived.Test.YtihblifkbljgaaaTreeSame
import Derived.Test.YtihblifkbljgaaaYieldKnows
namespace Go.Proofs.Ytihblifkbljgaaa
open Go.RowKit Go.Shelf
attribute [local go_sem] Oper.semAt_some

theorem Recs.cells_at {w : World} {T : Nat → Prop} {A : Option Addr} {n c : Nat} {ws : List Node} (h : Recs wordR w T (.slice A n c) ws) {k : Nat} {x : Node} (hx : ws[k]? = some x) :
    ∃ b off l, A = some ⟨b, off, none⟩ ∧ w.cell? ⟨b, off + k * 3, none⟩ = some l ∧ w.cell? ⟨b, off + k * 3 + 1, none⟩ = some (.int .i64 x.n) ∧ w.cell? ⟨b, off + k * 3 + 2, none⟩ = some (.string x.text) ∧ Pcs w T l x.lead ∧ T b := by
  obtain ⟨b, off, l, rfl, hT, hc, hP⟩ := h.at_ hx
  exact ⟨b, off, l, rfl, hc 0 _ rfl, hc 1 _ rfl, hc 2 _ rfl, hP, hT⟩

set_option maxRecDepth 20000 in
set_option maxHeartbeats 4000000 in
theorem same_words (a b : Value) (ws : List Node) (w : World) (hA : Recs wordR w (Old w) a ws) (hB : Recs wordR w (Old w) b ws) :
    Calls Try.prog 36 #[a, b] w fun r w' => r = .returned (.bool true) ∧ Below w.heap.size w w' := by
  obtain ⟨A1, c1, rfl, hc1, hc2⟩ := hA.value
  obtain ⟨A2, c2, rfl, hd1, hd2⟩ := hB.value
  unfold maxLen at hc2 hd2
  have HA := hidden hA
  have HB := hidden hB
  have q0 : ((ws.length : Int) != (ws.length : Int)) = false := by simp
  clear hA hB
  go_enter Try.func36, Try.ntmps36
  go_wp2
  clear q0
  go_loopw [5] (fun kk wr => ∃ k : Nat, k ≤ ws.length ∧ kk = .int .i64 k ∧ Below w.heap.size w wr) (fun kk _ => ws.length - (intOf kk).toNat)
  case atStart => exact ⟨0, by omega, rfl, Below.refl _ _⟩
  case round =>
    obtain ⟨k, hk, rfl, hb⟩ := hrel
    by_cases hlt : k < ws.length
    · have hx := List.getElem?_eq_getElem hlt
      obtain ⟨b1, o1, l1, rfl, x0, x1, x2, hP1, _⟩ := (HA.out.below hb (fun _ h => h)).cells_at hx
      obtain ⟨b2, o2, l2, rfl, y0, y1, y2, hP2, _⟩ := (HB.out.below hb (fun _ h => h)).cells_at hx
      have HS := hidden (fun (x : Ext wr) => same_pcs l1 l2 ws[k].lead ws[k].lead x.w ((hP1.mono (fun j hj => Nat.lt_of_lt_of_le (show j < w.heap.size from hj) hb.size) |> fun h => Rd.mono (h.keeps (Keeps.of_below x.below)) (fun j (hj : j < wr.heap.size) => Nat.lt_of_lt_of_le hj x.below.size)))
        ((hP2.mono (fun j hj => Nat.lt_of_lt_of_le (show j < w.heap.size from hj) hb.size) |> fun h => Rd.mono (h.keeps (Keeps.of_below x.below)) (fun j (hj : j < wr.heap.size) => Nat.lt_of_lt_of_le hj x.below.size))))
      rw [eqB_self] at HS
      obtain ⟨A3, c3, rfl, _, _⟩ := hP1.value
      obtain ⟨A4, c4, rfl, _, _⟩ := hP2.value
      generalize ws[k] = x at *
      have z0 := Ext.cell x0; have z1 := Ext.cell x1; have z2 := Ext.cell x2
      have z3 := Ext.cell y0; have z4 := Ext.cell y1; have z5 := Ext.cell y2
      have e1 : (x.n != x.n) = false := by simp
      have e2 : (!(x.text.toList == x.text.toList)) = false := by simp
      clear x0 x1 x2 y0 y1 y2 hP1 hP2 hx
      go_wp2
      refine wp_region_ext (by kernel_rfl) (by kernel_rfl) ?_
      repeat (go_big_quiet_step ((go_at_call 39; exact Ext.call (HS.out _))))
      refine wpQuiet_nil ?_
      intro w2 hb2
      clear z0 z1 z2 z3 z4 z5 HS
      replace hb := hb.trans (hb2.mono hb.size)
      go_wp2
      go_roundw
      case rel => exact ⟨k + 1, by omega, by go_num, hb⟩
      case measure => simp [intOf]; omega
    · obtain rfl : k = ws.length := by omega
      go_wp2
      go_ret
      exact ⟨rfl, hb⟩

theorem flat_take {ws : List Node} {k : Nat} (hk : k < ws.length) : (ws.take (k + 1)).flatMap wordPcs = (ws.take k).flatMap wordPcs ++ wordPcs ws[k] := by
  rw [List.take_succ_eq_append_getElem hk, List.flatMap_append]; simp
theorem flat_take_le (ws : List Node) (k : Nat) : ((ws.take k).flatMap wordPcs).length ≤ (ws.flatMap wordPcs).length := by
  conv => rhs; rw [← List.take_append_drop k ws, List.flatMap_append, List.length_append]
  omega

/-- What an append of pieces leaves, a draw or a new block ahead of it. -/
theorem Mine.put_pcs {w w' : World} {B : Nat} {v v' : Value} {L news : List Piece} (hA : Appended w B 59 2 v (L.length + news.length) (L.flatMap pcCells ++ news.flatMap pcCells) v' w') : Mine w' B 59 2 v' (L ++ news).length ((L ++ news).flatMap pcCells) := by
  rw [List.length_append, pcCells_app]; exact hA.mine

set_option maxRecDepth 20000 in
set_option maxHeartbeats 8000000 in
theorem ref_pieces (v : Value) (ws : List Node) (w : World) (hl : (ws.flatMap wordPcs).length ≤ 1000000000) (hlen : ws.length ≤ 1000000000) (hA : Recs wordR w (Old w) v ws) :
    Calls Try.prog 69 #[v] w fun r w' => (∃ u, r = .returned u ∧ Hid (Mine w' w.heap.size 59 2 u (ws.flatMap wordPcs).length ((ws.flatMap wordPcs).flatMap pcCells))) ∧ Below w.heap.size w w' := by
  obtain ⟨A1, c1, rfl, hc1, hc2⟩ := hA.value
  unfold maxLen at hc2
  have HA := hidden hA
  have HPi := piece_info
  have HFt := hidden (fun k => flat_take_le ws k)
  clear hA
  refine (callsIn_wide (n := 5)).1 ?_
  refine callsIn_of_wp Try.func69 rfl trivial ?_ rfl
  simp only [Try.ntmps69, List.size_toArray, List.length_cons, List.length_nil, Nat.reduceAdd, Nat.reduceSub, Array.replicate_succ, Array.replicate_zero, List.push_toArray, List.append_toArray, List.nil_append, List.cons_append]
  gi_wp2
  gi_loopw [3, 4] (fun o kk wr => ∃ k : Nat, k ≤ ws.length ∧ kk = .int .i64 k ∧ Hid (Mine wr w.heap.size 59 2 o ((ws.take k).flatMap wordPcs).length (((ws.take k).flatMap wordPcs).flatMap pcCells)) ∧ Hid (∀ g, o.ownBlock = some g → w.heap.size ≤ g) ∧ Below w.heap.size w wr) (fun _ kk _ => ws.length - (intOf kk).toNat)
  case atStart => exact ⟨0, by omega, rfl, hidden (.inr ⟨rfl, rfl, _, rfl⟩), hidden (fun g hg => by simp [Value.ownBlock] at hg; omega), (by repeat (first | (with_reducible exact Below.refl _ _) | (with_reducible assumption) | (with_reducible refine Below.drew ?_) | ((with_reducible refine below_alloc ?_ ?_); (focus (first | omega | (simp; done) | (simp; omega)))) | ((with_reducible refine below_set ?_ ?_); (focus (first | omega | (simp; done) | (simp; omega))))))⟩
  case round =>
    obtain ⟨k, hk, rfl, HM, HG, hb⟩ := hrel
    have hbz := hb.size
    by_cases hlt : k < ws.length
    · have hx := List.getElem?_eq_getElem hlt
      obtain ⟨b1, o1, l1, rfl, x0, x1, x2, hP0, hTb⟩ := HA.out.cells_at hx
      have hP1 := hP0.keeps (w' := wr) ⟨hb.size, fun j hj _ => hb.block j hj⟩
      have HCe := hidden (fun (W : World) (h : Below w.heap.size w W) => (⟨(h.cell (p := ⟨b1, _, none⟩) hTb).trans x0, (h.cell (p := ⟨b1, _, none⟩) hTb).trans x1, (h.cell (p := ⟨b1, _, none⟩) hTb).trans x2⟩ : W.cell? ⟨b1, o1 + k * 3, none⟩ = some l1 ∧ W.cell? ⟨b1, o1 + k * 3 + 1, none⟩ = some (.int .i64 ws[k].n) ∧ W.cell? ⟨b1, o1 + k * 3 + 2, none⟩ = some (.string ws[k].text)))
      have z0 := (HCe.out wr hb).1
      have HFk := hidden (flat_take hlt)
      have hfl := HFt.out (k + 1)
      rw [HFk.out, List.length_append] at hfl
      obtain ⟨A3, c3, rfl, _, d2⟩ := hP1.value
      unfold maxLen at d2
      have hwp : wordPcs ws[k] = ws[k].lead ++ if ws[k].n = -2 then [] else [⟨ws[k].n, ws[k].text⟩] := rfl
      generalize ws[k] = x at *
      generalize (ws.take k).flatMap wordPcs = L0 at *
      have hll : x.lead.length ≤ (wordPcs x).length := by rw [hwp, List.length_append]; omega
      have HX := hidden hP1
      have H1 := hidden (pc_oneCell x.lead)
      have h9 : (L0.length + x.lead.length) * 24 ≤ 140737488355328 := by omega
      have HMp : Hid (∀ v' w', Appended wr w.heap.size 59 2 u3 (L0.length + x.lead.length) (L0.flatMap pcCells ++ x.lead.flatMap pcCells) v' w' → Mine w' w.heap.size 59 2 v' (L0 ++ x.lead).length ((L0 ++ x.lead).flatMap pcCells)) := hidden (fun v' w' h => Mine.put_pcs h)
      have HXw := hidden hx
      have HB := hidden hb
      have HWp := hidden hwp
      have hgo : ∀ (v' : Value) (w' : World), Appended wr w.heap.size 59 2 u3 (L0.length + x.lead.length) (L0.flatMap pcCells ++ x.lead.flatMap pcCells) v' w' → (∀ g, v'.ownBlock = some g → w.heap.size ≤ g) ∧ Below w.heap.size w w' := fun v' w' h => by
        refine ⟨fun g e => ?_, HB.out.trans h.below⟩
        rcases h.at_ with h2 | ⟨g', h2, h3, _⟩
        · rw [h2] at e; exact HG.out g e
        · rw [h2] at e; cases e; omega
      have HGo := hidden hgo
      clear hx hwp hP1 hP0 hgo hb x0 x1 x2
      by_cases hn2 : x.n = -2
      · have qn : (x.n == -2) = true := by rw [hn2]; rfl
        have qn2 : (x.n != -2) = false := by rw [hn2]; rfl
        have hw2 : Hid (L0 ++ wordPcs x = L0 ++ x.lead) := hidden (by rw [HWp.out, if_pos hn2, List.append_nil])
        gi_wp2_with (gi_at_builtin; refine wpListIn_append_all rfl (.tmp 12) (.tmp 17) 27 59 rfl (by kernel_rfl) HPi rfl (by decide) w.heap.size _ _ _ HM _ _ _ HX H1 rfl rfl h9 (by decide) hbz ?_; intro v' w6 hA; obtain ⟨hg6, hb6⟩ := HGo.out v' w6 hA.out; have hM6 := hidden (HMp.out v' w6 hA.out); obtain ⟨q0, q1, q2⟩ := HCe.out w6 hb6; have HG6 := hidden hg6; have hbz6 := hb6.size; obtain ⟨A6, c6, rfl⟩ := hA.out.mine.value; clear hg6 hA)
        go_roundw
        case rel => exact ⟨k + 1, by omega, by go_num, by rw [HFk.out, hw2.out]; exact hM6, HG6, hb6⟩
        case measure => simp [intOf]; omega
      · have qn2 : (x.n != -2) = true := by simpa using hn2
        have hw2 : Hid (L0 ++ wordPcs x = (L0 ++ x.lead) ++ [⟨x.n, x.text⟩]) := hidden (by rw [HWp.out, if_neg hn2, List.append_assoc])
        have hl2 : (wordPcs x).length = x.lead.length + 1 := by rw [HWp.out, if_neg hn2]; simp
        gi_wp2_with (gi_at_builtin; refine wpListIn_append_all rfl (.tmp 12) (.tmp 17) 27 59 rfl (by kernel_rfl) HPi rfl (by decide) w.heap.size _ _ _ HM _ _ _ HX H1 rfl rfl h9 (by decide) hbz ?_; intro v' w6 hA; obtain ⟨hg6, hb6⟩ := HGo.out v' w6 hA.out; have hM6 := hidden (HMp.out v' w6 hA.out); obtain ⟨q0, q1, q2⟩ := HCe.out w6 hb6; have HG6 := hidden hg6; have hbz6 := hb6.size; obtain ⟨A6, c6, rfl⟩ := hA.out.mine.value; clear hg6 hA)
        refine wpIn_region_take (fun w' => Below w6.heap.size w6 w') 13 (by kernel_rfl) ?_
        have hCd : Below w6.heap.size w6 w6.drew := (Below.refl _ _).drew
        have y1 : ∀ w', Below w6.heap.size w6 w' → w'.cell? ⟨b1, o1 + k * 3 + 1, none⟩ = some (.int .i64 x.n) := fun w' h => (HCe.out w' (hb6.trans (h.mono hbz6))).2.1
        have y2 : ∀ w', Below w6.heap.size w6 w' → w'.cell? ⟨b1, o1 + k * 3 + 2, none⟩ = some (.string x.text) := fun w' h => (HCe.out w' (hb6.trans (h.mono hbz6))).2.2
        clear q0 q1 q2 z0
        refine take_read (i := 0) (v := ?_) (by kernel_rfl) (by rfl) rfl (by rfl) (by kernel_rfl) (by kernel_rfl) (fun _ _ _ h => h) hCd ⟨Or.inl ⟨by rfl, fun w hw => ?_⟩, fun _ => rfl⟩ ?_
        rotate_left
        · clear hw
          go_simp
          try rfl
        refine take_read (i := 1) (v := ?_) (by kernel_rfl) (by rfl) rfl (by rfl) (by kernel_rfl) (by kernel_rfl) (fun _ _ _ h => h) hCd ⟨Or.inl ⟨by rfl, fun w hw => ?_⟩, fun _ => rfl⟩ ?_
        rotate_left
        · clear hw
          go_simp
          try rfl
        refine take_read (i := 2) (v := ?_) (by kernel_rfl) (by rfl) rfl (by rfl) (by kernel_rfl) (by kernel_rfl) (fun _ _ _ h => h) hCd ⟨Or.inl ⟨by rfl, fun w hw => ?_⟩, fun _ => rfl⟩ ?_
        rotate_left
        · clear hw
          go_simp
          try rfl
        refine take_read (i := 3) (v := ?_) (by kernel_rfl) (by rfl) rfl (by rfl) (by kernel_rfl) (by kernel_rfl) (fun _ _ _ h => h) hCd ⟨Or.inl ⟨by rfl, fun w hw => ?_⟩, fun _ => rfl⟩ ?_
        rotate_left
        · clear hw
          go_simp
          try rfl
        refine take_read (i := 4) (v := ?_) (by kernel_rfl) (by rfl) rfl (by rfl) (by kernel_rfl) (by kernel_rfl) (fun _ _ _ h => h) hCd ⟨Or.inl ⟨by rfl, fun w hw => ?_⟩, fun _ => rfl⟩ ?_
        rotate_left
        · clear hw
          go_simp
          try rfl
        refine take_read (i := 5) (v := ?_) (by kernel_rfl) (by rfl) rfl (by rfl) (by kernel_rfl) (by kernel_rfl) (fun _ _ _ h => h) hCd ⟨Or.inl ⟨by rfl, fun w hw => ?_⟩, fun _ => rfl⟩ ?_
        rotate_left
        · have q := y1 w hw
          go_simp
          try rfl
        refine take_read (i := 6) (v := ?_) (by kernel_rfl) (by rfl) rfl (by rfl) (by kernel_rfl) (by kernel_rfl) (fun _ _ _ h => h) hCd ⟨Or.inl ⟨by rfl, fun w hw => ?_⟩, fun _ => rfl⟩ ?_
        rotate_left
        · clear hw
          go_simp
          try rfl
        refine take_read (i := 7) (v := ?_) (by kernel_rfl) (by rfl) rfl (by rfl) (by kernel_rfl) (by kernel_rfl) (fun _ _ _ h => h) hCd ⟨Or.inl ⟨by rfl, fun w hw => ?_⟩, fun _ => rfl⟩ ?_
        rotate_left
        · clear hw
          go_simp
          try rfl
        refine take_read (i := 8) (v := ?_) (by kernel_rfl) (by rfl) rfl (by rfl) (by kernel_rfl) (by kernel_rfl) (fun _ _ _ h => h) hCd ⟨Or.inl ⟨by rfl, fun w hw => ?_⟩, fun _ => rfl⟩ ?_
        rotate_left
        · clear hw
          go_simp
          try rfl
        refine take_read (i := 9) (v := ?_) (by kernel_rfl) (by rfl) rfl (by rfl) (by kernel_rfl) (by kernel_rfl) (fun _ _ _ h => h) hCd ⟨Or.inl ⟨by rfl, fun w hw => ?_⟩, fun _ => rfl⟩ ?_
        rotate_left
        · clear hw
          go_simp
          try rfl
        refine take_read (i := 10) (v := ?_) (by kernel_rfl) (by rfl) rfl (by rfl) (by kernel_rfl) (by kernel_rfl) (fun _ _ _ h => h) hCd ⟨Or.inl ⟨by rfl, fun w hw => ?_⟩, fun _ => rfl⟩ ?_
        rotate_left
        · have q := y2 w hw
          go_simp
          try rfl
        clear y1 y2
        refine take_only (i := 11) (by kernel_rfl) rfl rfl (by rfl) (fun K hK => ?_)
        go_simp
        refine hK _ _ hCd ?_
        clear hK K
        refine take_only (i := 12) (by kernel_rfl) rfl rfl (by rfl) (fun K hK => ?_)
        go_simp
        refine hK _ _ (hCd.alloc (Nat.le_refl _) _) ?_
        clear hK K
        refine take_tail (by kernel_rfl) (by kernel_rfl) ?_
        simp only [List.drop_succ_cons, List.drop_zero]
        have HM2 : Hid (Mine (w6.alloc (.cells #[.int .i64 x.n, .string x.text] 59)).drew w.heap.size 59 2 (.slice A6 (L0.length + x.lead.length) c6) (L0 ++ x.lead).length ((L0 ++ x.lead).flatMap pcCells)) := hidden (Mine.drew (hM6.out.alloc _))
        have HX2 : Hid (Rd (w6.alloc (.cells #[.int .i64 x.n, .string x.text] 59)).drew (fun _ => True) 2 (.slice (some ⟨w6.heap.size, 0, none⟩) 1 1) 1 [.int .i64 x.n, .string x.text]) := hidden (Rd.drew (Rd.fresh (cs := [.int .i64 x.n, .string x.text]) (n := 1) (size := 2) rfl (Nat.le_refl _) (by decide) trivial rfl))
        have H12 : Hid (∀ u ∈ [Value.int .i64 x.n, .string x.text], u.oneCell' = true) := hidden (by intro u hu; simp at hu; rcases hu with rfl | rfl <;> rfl)
        have h19 : ((L0 ++ x.lead).length + 1) * 24 ≤ 140737488355328 := by rw [List.length_append]; omega
        have h20 : w.heap.size ≤ ((w6.alloc (.cells #[.int .i64 x.n, .string x.text] 59)).drew).heap.size := by show _ ≤ (w6.alloc _).heap.size; simp; omega
        have hb7 : Below w.heap.size w (w6.alloc (.cells #[.int .i64 x.n, .string x.text] 59)).drew := (hb6.alloc hbz6 _).drew
        have HB7 := hidden hb7
        clear hM6 hb7 hCd
        refine wpListIn_append_all rfl _ _ 27 59 rfl (by kernel_rfl) HPi rfl (by decide) w.heap.size _ _ _ HM2 _ _ _ HX2 H12 rfl rfl h19 (by decide) h20 ?_
        intro v7 w7 hA
        have hM7 := hidden (Mine.put_pcs (news := [⟨x.n, x.text⟩]) hA.out)
        have hG7 : Hid (∀ g, v7.ownBlock = some g → w.heap.size ≤ g) := hidden (fun g e => by
          rcases hA.out.at_ with h2 | ⟨g', h2, h3, _⟩
          · rw [h2] at e; exact HG6.out g e
          · rw [h2] at e; cases e; exact Nat.le_trans h20 h3)
        have hb8 := HB7.out.trans hA.out.below
        clear hA HM2 HX2 H12 HB7 h19 h20
        gi_wp2
        go_roundw
        case rel => exact ⟨k + 1, by omega, by go_num, by rw [HFk.out, hw2.out]; exact hM7, hG7, hb8⟩
        case measure => simp [intOf]; omega
    · obtain rfl : k = ws.length := by omega
      rw [List.take_length] at HM
      gi_wp2
      exact bodyPost_ret (v := u3) (by simp [results, Try.f69, go_sem]) rfl ⟨⟨_, rfl, HM⟩, hb⟩

theorem pieces_bulk (t : List Node) : (piecesOf t).length ≤ bulkT t := by
  have h1 : ∀ l : List Node, (l.flatMap wordPcs).length ≤ (l.map bulkN).sum := by
    intro l
    induction l with
    | nil => simp
    | cons x l ih =>
      rw [List.flatMap_cons, List.length_append, List.map_cons, List.sum_cons]
      have := wordPcs_len x
      omega
  refine Nat.le_trans (h1 _) ?_
  unfold wordsOf leavesOf leavesTo
  split
  · rw [List.map_map]
    unfold texts
    refine Nat.le_trans (sum_filter_le _ _ _) ?_
    rw [show (bulkN ∘ leafAt t) = fun i => bulkN (leafAt t i) from rfl, sum_all t bulkN]
    exact Nat.le_refl _
  · simp

set_option maxRecDepth 20000 in
set_option maxHeartbeats 4000000 in
theorem ref_Pieces (v : Value) (t : List Node) (w : World) (h4 : bulkT t ≤ 1048576) (hN : Nds w (Old w) v t) :
    Calls Try.prog 41 #[v] w fun r w' => (∃ u, r = .returned u ∧ Hid (Mine w' w.heap.size 59 2 u (piecesOf t).length ((piecesOf t).flatMap pcCells))) ∧ Below w.heap.size w w' := by
  have h5 := bulk_len t
  have hll : (leavesOf t).length ≤ t.length := leavesTo_len t t.length
  have HW := hidden (ref_words v t w (by omega) hN)
  have hl := pieces_bulk t
  have HP : Hid (∀ u w', Recs wordR w' (Old w') u (wordsOf t) → Calls Try.prog 69 #[u] w' fun r w2 => (∃ u, r = .returned u ∧ Hid (Mine w2 w'.heap.size 59 2 u (piecesOf t).length ((piecesOf t).flatMap pcCells))) ∧ Below w'.heap.size w' w2) := hidden (fun u w' h => ref_pieces u (wordsOf t) w' (Nat.le_trans hl (by omega)) (by rw [wordsOf_len]; omega) h)
  obtain ⟨A, c, rfl, hc1, hc2⟩ := hN.value
  clear hN
  go_enter Try.func41, Try.ntmps41
  go_wp2_with fail
  refine HW.out.mono ?_
  rintro r w2 ⟨⟨u, rfl, HO⟩, hb⟩
  have HR := hidden (HP.out u w2 (HO.out.recs (fun k (hk : k < w.heap.size) => Nat.lt_of_lt_of_le hk hb.size)))
  have hv := (HO.out.recs (fun k (hk : k < w.heap.size) => Nat.lt_of_lt_of_le hk hb.size)).value
  obtain ⟨A2, c2, rfl, _⟩ := hv
  clear HW HP HO
  go_wp2_with fail
  refine HR.out.mono ?_
  rintro r w3 ⟨⟨u, rfl, HM⟩, hb3⟩
  have HM3 := hidden (HM.out.base (b' := w.heap.size) hb.size)
  obtain ⟨A3, c3, rfl⟩ := HM.out.value
  have hb4 := hb.trans (hb3.mono hb.size)
  clear HR HM hb hb3
  go_wp2
  go_ret
  exact ⟨⟨_, rfl, HM3⟩, hb4⟩

set_option maxRecDepth 20000 in
set_option maxHeartbeats 4000000 in
theorem law_texts (v : Value) (t : List Node) (w : World) (h4 : bulkT t ≤ 1048576) (hN : Nds w (Old w) v t) :
    Calls Try.prog 8 #[v] w fun r w' => r = .returned (.bool true) ∧ Below w.heap.size w w' := by
  have h5 := bulk_len t
  have HF := hidden (few v t w hN (by omega))
  have H1 := hidden (fun (w' : World) (hb : Below w.heap.size w w') => yield_Words v t w' h4 (hN.old hb))
  have H2 := hidden (fun (w' : World) (hb : Below w.heap.size w w') => ref_words v t w' (by omega) (hN.old hb))
  have H3 := hidden (fun (w' : World) (hb : Below w.heap.size w w') => yield_Pieces v t w' h4 (hN.old hb))
  have H4 := hidden (fun (w' : World) (hb : Below w.heap.size w w') => ref_Pieces v t w' h4 (hN.old hb))
  have H5 : Hid (∀ w', Below w.heap.size w w' → Calls Try.prog 26 #[v] w' fun r w2 => r = .returned (.string (catB (textOf t))) ∧ Below w'.heap.size w' w2) := hidden (fun (w' : World) (hb : Below w.heap.size w w') => yield_text v t w' h4 (hN.old hb))
  have H6 := hidden (fun (w' : World) (hb : Below w.heap.size w w') => ref_text v t w' (by omega) (hN.old hb))
  obtain ⟨A, c, rfl, hc1, hc2⟩ := hN.value
  generalize catB (textOf t) = S at *
  generalize piecesOf t = ps at *
  generalize wordsOf t = ws at *
  clear hN h4 h5
  cases hf : fewB t with
  | false =>
    rw [hf] at HF
    clear hf
    go_enter Try.func8, Try.ntmps8
    go_wp2_with fail
    refine HF.out.mono ?_
    rintro r w1 ⟨rfl, hb⟩
    go_wp2_with fail
    refine (knows28 w1).mono ?_
    rintro r w2 ⟨rfl, hb2⟩
    replace hb := hb.trans (hb2.mono hb.size)
    go_wp2
    go_ret
    exact ⟨rfl, hb⟩
  | true =>
    rw [hf] at HF
    clear hf
    have qs : (S.toList == S.toList) = true := by simp
    go_enter Try.func8, Try.ntmps8
    go_wp2_with fail
    refine HF.out.mono ?_
    rintro r w1 ⟨rfl, hb⟩
    go_wp2_with fail
    refine (H1.out w1 hb).mono ?_
    rintro r w2 ⟨⟨u1, rfl, HW⟩, hb2⟩
    replace hb := hb.trans (hb2.mono hb.size)
    have hR1 := hidden HW.out.recs
    obtain ⟨A1, c1, rfl, _⟩ := hR1.out.value
    clear HW hb2 H1
    go_wp2_with fail
    refine (H2.out w2 hb).mono ?_
    rintro r w3 ⟨⟨u2, rfl, HO⟩, hb3⟩
    have hR2 := HO.out.recs (fun k (hk : k < w2.heap.size) => Nat.lt_of_lt_of_le hk hb3.size)
    have hR3 : Recs wordR w3 (Old w3) (.slice A1 ws.length c1) ws := (hR1.out.keeps (Keeps.of_below hb3)).mono (fun k (hk : k < w2.heap.size) => Nat.lt_of_lt_of_le hk hb3.size)
    replace hb := hb.trans (hb3.mono hb.size)
    have HSW := hidden (same_words _ _ ws w3 hR3 hR2)
    obtain ⟨A2, c2, rfl, _⟩ := hR2.value
    clear HO hR1 hR2 hR3 hb3 H2
    go_wp2_with fail
    refine HSW.out.mono ?_
    rintro r w4 ⟨rfl, hb4⟩
    replace hb := hb.trans (hb4.mono hb.size)
    clear HSW hb4
    go_wp2_with fail
    refine (H3.out w4 hb).mono ?_
    rintro r w5 ⟨⟨u5, rfl, HM⟩, hb5⟩
    replace hb := hb.trans (hb5.mono hb.size)
    obtain ⟨A5, c5, rfl⟩ := HM.out.value
    clear hb5 H3
    go_wp2_with fail
    refine (H4.out w5 hb).mono ?_
    rintro r w6 ⟨⟨u6, rfl, HM2⟩, hb6⟩
    have hP1 : Pcs w6 (Old w6) (.slice A5 ps.length c5) ps := (HM.out.below hb6).rd (fun g _ _ h => h)
    have hP2 : Pcs w6 (Old w6) u6 ps := HM2.out.rd (fun g _ _ h => h)
    replace hb := hb.trans (hb6.mono hb.size)
    have HSP := hidden (same_pcs _ _ ps ps w6 hP1 hP2)
    rw [eqB_self] at HSP
    obtain ⟨A6, c6, rfl⟩ := HM2.out.value
    clear HM HM2 hP1 hP2 hb6 H4
    go_wp2_with fail
    refine HSP.out.mono ?_
    rintro r w7 ⟨rfl, hb7⟩
    replace hb := hb.trans (hb7.mono hb.size)
    clear HSP hb7
    go_wp2_with fail
    refine (H5.out w7 hb).mono ?_
    rintro r w8 ⟨rfl, hb8⟩
    replace hb := hb.trans (hb8.mono hb.size)
    clear hb8 H5
    go_wp2_with fail
    refine (H6.out w8 hb).mono ?_
    rintro r w9 ⟨rfl, hb9⟩
    replace hb := hb.trans (hb9.mono hb.size)
    clear hb9 H6
    go_wp2_with fail
    refine (knows28 w9).mono ?_
    rintro r w10 ⟨rfl, hb10⟩
    replace hb := hb.trans (hb10.mono hb.size)
    go_wp2
    go_ret
    exact ⟨rfl, hb⟩
end Go.Proofs.Ytihblifkbljgaaa
