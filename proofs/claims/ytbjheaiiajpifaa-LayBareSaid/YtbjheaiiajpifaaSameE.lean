/-
  The document's differ: do two trees differ so at a place?
-/
import Derived.Test.YtbjheaiiajpifaaSameD
namespace Go.Proofs.Ytbjheaiiajpifaa.T
open Go.RowKit Go.Shelf

theorem same_two (u v : Value) (L M : List Piece) {b6 b7 : Nat} {w6 w7 : World} (h6 : PcsM w6 b6 u L) (h7 : PcsM w7 b7 v M) (hb : Below w6.heap.size w6 w7) :
    Calls Try.prog 50 #[u, v] w7 fun r w' => r = .returned (.bool (eqB L M)) ∧ Below w7.heap.size w7 w' :=
  same_pcs _ _ L M w7 (Rd.old (FlatM.rd h6) hb) (FlatM.rd h7)

set_option maxRecDepth 20000 in
set_option maxHeartbeats 8000000 in
theorem ref_differ (va vb a' b' c' : Value) (g : Gram) (a b : List Node) (how i : Nat) (w : World) (HG : GramIs w (Old w) a' b' c' g) (hA : Nds w (Old w) va a) (hB : Nds w (Old w) vb b) (ka : NdsOk a) (kb : NdsOk b) (h1 : i < a.length) (h2 : i < b.length) (hh : 1 ≤ how ∧ how ≤ 4) :
    Calls Try.prog 44 #[.agg (gramCells a' b' c' g), va, vb, .int .i64 (how : Int), .int .i64 (i : Int)] w fun r w' => r = .returned (.bool (diffD g.toks a b how i)) ∧ Below w.heap.size w w' := by
  have HK1 := hidden (fun (w' : World) (hb : Below w.heap.size w w') => ref_kids va a (i : Int) w' ka.len (hA.old hb))
  have HK2 := hidden (fun (w' : World) (hb : Below w.heap.size w w') => ref_kids vb b (i : Int) w' kb.len (hB.old hb))
  obtain ⟨A0, c0, rfl, _, _⟩ := HG.1.value
  obtain ⟨A8, c8, rfl, _, _⟩ := HG.2.1.val
  obtain ⟨A9, c9, rfl, _, _⟩ := HG.2.2.value
  obtain ⟨b1, o1, c1, rfl, d1, e1, _, hat1⟩ := hA.open_ (by intro e; subst e; simp at h1)
  obtain ⟨b2, o2, c2, rfl, d2, e2, _, hat2⟩ := hB.open_ (by intro e; subst e; simp at h2)
  unfold maxLen at e1 e2
  have hx := List.getElem?_eq_getElem h1
  have hy := List.getElem?_eq_getElem h2
  have g1 := ka.lead _ (List.getElem_mem h1)
  have g2 := kb.lead _ (List.getElem_mem h2)
  obtain ⟨l1, x0, x1, x2, x3, x4, hl1⟩ := hat1 i _ hx
  obtain ⟨l2, y0, y1, y2, y3, y4, hl2⟩ := hat2 i _ hy
  have HD4 : Hid (diffD g.toks a b 4 i = (a[i].kind != b[i].kind || (a[i].n != b[i].n || (kidsOf a i).length != (kidsOf b i).length))) := hidden (by show nodesD a b i = _; unfold nodesD; rw [hx, hy])
  have HD3 : Hid (diffD g.toks a b 3 i = !(eqB a[i].text b[i].text)) := hidden (by show textsD a b i = _; unfold textsD; rw [hx, hy])
  have HD2 : Hid (diffD g.toks a b 2 i = !(eqB (notesOf g.toks a[i].lead) (notesOf g.toks b[i].lead))) := hidden (by show notesD g.toks a b i = _; unfold notesD; rw [hx, hy])
  have HD1 : Hid (diffD g.toks a b 1 i = !(eqB a[i].lead b[i].lead)) := hidden (by show blanksD a b i = _; unfold blanksD; rw [hx, hy])
  generalize diffD g.toks a b = D at *
  generalize a[i] = x at *
  generalize b[i] = y at *
  generalize kidsOf a i = K1 at *
  generalize kidsOf b i = K2 at *
  obtain ⟨A3, c3, rfl, _, _⟩ := hl1.value
  obtain ⟨A4, c4, rfl, _, _⟩ := hl2.value
  have HN1 := hidden (fun (w' : World) (hb : Below w.heap.size w w') => ref_Notes17 _ _ g.toks x.lead w' (HG.1.old hb) (Rd.old hl1 hb) g1)
  have HN2 := hidden (fun (w' : World) (hb : Below w.heap.size w w') => ref_Notes17 _ _ g.toks y.lead w' (HG.1.old hb) (Rd.old hl2 hb) g2)
  have HE2 := hidden (fun (w' : World) (hb : Below w.heap.size w w') => same_pcs _ _ x.lead y.lead w' (Rd.old hl1 hb) (Rd.old hl2 hb))
  have hse := strs_eql x.text y.text
  generalize notesOf g.toks x.lead = L at *
  generalize notesOf g.toks y.lead = M at *
  have hb0 : Below w.heap.size w (w.alloc (.cells #[.slice A0 g.toks.length c0, .slice A8 g.rules.length c8, .slice A9 g.prods.length c9, .int .i64 g.start, .int .i64 g.states, .int .i64 g.text, .int .i64 g.nodes, .int .i64 g.pairs] 26)) := (by repeat (first | (with_reducible exact Below.refl _ _) | (with_reducible assumption) | (with_reducible refine Below.drew ?_) | (with_reducible refine below_drewN ?_ _) | ((with_reducible refine below_alloc ?_ ?_); (focus (first | omega | (simp; done) | (simp; omega)))) | ((with_reducible refine below_set ?_ ?_); (focus (first | omega | (simp; done) | (simp; omega))))))
  have HB0 := hidden (Holds.new w 26 #[.slice A0 g.toks.length c0, .slice A8 g.rules.length c8, .slice A9 g.prods.length c9, .int .i64 g.start, .int .i64 g.states, .int .i64 g.text, .int .i64 g.nodes, .int .i64 g.pairs])
  have HS0 := hidden (And.intro x0 (And.intro x1 (And.intro x2 (And.intro x3 (And.intro x4 (And.intro y0 (And.intro y1 (And.intro y2 (And.intro y3 (y4))))))))))
  clear x0 x1 x2 x3 x4 y0 y1 y2 y3 y4 hat1 hat2 hx hy HG hA hB hl1 hl2
  have hw := hh
  unfold gramCells
  have hcs : how = 4 ∨ how = 3 ∨ how = 2 ∨ how = 1 := by omega
  go_enter Try.func44, Try.ntmps44
  go_upto_region 1 with fail
  generalize w.alloc (.cells #[.slice A0 g.toks.length c0, .slice A8 g.rules.length c8, .slice A9 g.prods.length c9, .int .i64 g.start, .int .i64 g.states, .int .i64 g.text, .int .i64 g.nodes, .int .i64 g.pairs] 26) = W at *
  have HS : Hid (W.cell? ⟨b1, o1 + i * 5, none⟩ = some (.int .i64 x.kind) ∧ W.cell? ⟨b1, o1 + i * 5 + 1, none⟩ = some (.int .i64 x.n) ∧ W.cell? ⟨b1, o1 + i * 5 + 2, none⟩ = some (.int .i64 x.size) ∧ W.cell? ⟨b1, o1 + i * 5 + 3, none⟩ = some (.slice A3 x.lead.length c3) ∧ W.cell? ⟨b1, o1 + i * 5 + 4, none⟩ = some (.string x.text) ∧ W.cell? ⟨b2, o2 + i * 5, none⟩ = some (.int .i64 y.kind) ∧ W.cell? ⟨b2, o2 + i * 5 + 1, none⟩ = some (.int .i64 y.n) ∧ W.cell? ⟨b2, o2 + i * 5 + 2, none⟩ = some (.int .i64 y.size) ∧ W.cell? ⟨b2, o2 + i * 5 + 3, none⟩ = some (.slice A4 y.lead.length c4) ∧ W.cell? ⟨b2, o2 + i * 5 + 4, none⟩ = some (.string y.text)) := hidden ⟨cell_at HS0.out.1 hb0, cell_at HS0.out.2.1 hb0, cell_at HS0.out.2.2.1 hb0, cell_at HS0.out.2.2.2.1 hb0, cell_at HS0.out.2.2.2.2.1 hb0, cell_at HS0.out.2.2.2.2.2.1 hb0, cell_at HS0.out.2.2.2.2.2.2.1 hb0, cell_at HS0.out.2.2.2.2.2.2.2.1 hb0, cell_at HS0.out.2.2.2.2.2.2.2.2.1 hb0, cell_at HS0.out.2.2.2.2.2.2.2.2.2 hb0⟩
  have hlW := HB0.out.lt
  clear HS0
  go_cut [11, 12] from 13 to 20 (fun v5 v6 wx => ∃ q5 q6 : Nat, v5 = .pointer (some ⟨q5, 0, none⟩) ∧ v6 = .pointer (some ⟨q6, 0, none⟩) ∧ Hid (Holds wx q5 58 #[.int .i64 x.kind, .int .i64 x.n, .int .i64 x.size, .slice A3 x.lead.length c3, .string x.text]) ∧ Hid (Holds wx q6 58 #[.int .i64 y.kind, .int .i64 y.n, .int .i64 y.size, .slice A4 y.lead.length c4, .string y.text]) ∧ Hid (Below W.heap.size W wx))
  case first =>
    refine (wpIn_wide (n := 5)).1 ?_
    refine wpIn_region_take (fun w9 => Below W.heap.size W w9) 11 (by kernel_rfl) ?_
    have hCd : Below W.heap.size W W.drew := (Below.refl _ _).drew
    refine take_read (i := 0) (v := ?_) (by kernel_rfl) (by rfl) rfl (by rfl) (by kernel_rfl) (by kernel_rfl) (fun _ _ _ h => h) hCd ⟨Or.inl ⟨by rfl, fun w9 hw => ?_⟩, fun _ => rfl⟩ ?_
    rotate_left
    · clear hw
      go_simp
      try rfl
    refine take_read (i := 1) (v := ?_) (by kernel_rfl) (by rfl) rfl (by rfl) (by kernel_rfl) (by kernel_rfl) (fun _ _ _ h => h) hCd ⟨Or.inl ⟨by rfl, fun w9 hw => ?_⟩, fun _ => rfl⟩ ?_
    rotate_left
    · clear hw
      go_simp
      try rfl
    refine take_read (i := 2) (v := ?_) (by kernel_rfl) (by rfl) rfl (by rfl) (by kernel_rfl) (by kernel_rfl) (fun _ _ _ h => h) hCd ⟨Or.inl ⟨by rfl, fun w9 hw => ?_⟩, fun _ => rfl⟩ ?_
    rotate_left
    · clear hw
      go_simp
      try rfl
    refine take_read (i := 3) (v := ?_) (by kernel_rfl) (by rfl) rfl (by rfl) (by kernel_rfl) (by kernel_rfl) (fun _ _ _ h => h) hCd ⟨Or.inl ⟨by rfl, fun w9 hw => ?_⟩, fun _ => rfl⟩ ?_
    rotate_left
    · have q0 := cell_at HS.out.1 hw; have q1 := cell_at HS.out.2.1 hw; have q2 := cell_at HS.out.2.2.1 hw; have q3 := cell_at HS.out.2.2.2.1 hw; have q4 := cell_at HS.out.2.2.2.2.1 hw; clear hw
      go_simp
      try rfl
    refine take_read (i := 4) (v := ?_) (by kernel_rfl) (by rfl) rfl (by rfl) (by kernel_rfl) (by kernel_rfl) (fun _ _ _ h => h) hCd ⟨Or.inl ⟨by rfl, fun w9 hw => ?_⟩, fun _ => rfl⟩ ?_
    rotate_left
    · clear hw
      go_simp
      try rfl
    refine take_read (i := 5) (v := ?_) (by kernel_rfl) (by rfl) rfl (by rfl) (by kernel_rfl) (by kernel_rfl) (fun _ _ _ h => h) hCd ⟨Or.inl ⟨by rfl, fun w9 hw => ?_⟩, fun _ => rfl⟩ ?_
    rotate_left
    · clear hw
      go_simp
      try rfl
    refine take_read (i := 6) (v := ?_) (by kernel_rfl) (by rfl) rfl (by rfl) (by kernel_rfl) (by kernel_rfl) (fun _ _ _ h => h) hCd ⟨Or.inl ⟨by rfl, fun w9 hw => ?_⟩, fun _ => rfl⟩ ?_
    rotate_left
    · clear hw
      go_simp
      try rfl
    refine take_read (i := 7) (v := ?_) (by kernel_rfl) (by rfl) rfl (by rfl) (by kernel_rfl) (by kernel_rfl) (fun _ _ _ h => h) hCd ⟨Or.inl ⟨by rfl, fun w9 hw => ?_⟩, fun _ => rfl⟩ ?_
    rotate_left
    · have q0 := cell_at HS.out.2.2.2.2.2.1 hw; have q1 := cell_at HS.out.2.2.2.2.2.2.1 hw; have q2 := cell_at HS.out.2.2.2.2.2.2.2.1 hw; have q3 := cell_at HS.out.2.2.2.2.2.2.2.2.1 hw; have q4 := cell_at HS.out.2.2.2.2.2.2.2.2.2 hw; clear hw
      go_simp
      try rfl
    generalize hwd : W.drew = wd at *
    have hzd := hCd.size
    clear hwd
    refine take_two (i := 8) (j := 9) (by kernel_rfl) rfl rfl rfl rfl (by rfl) (by rfl) (fun K hK => ?_) (fun K hK => ?_)
    · go_simp
      refine hK _ _ (by repeat (first | (with_reducible exact Below.refl _ _) | (with_reducible assumption) | (with_reducible refine Below.drew ?_) | (with_reducible refine below_drewN ?_ _) | ((with_reducible refine below_alloc ?_ ?_); (focus (first | omega | (simp; done) | (simp; omega)))) | ((with_reducible refine below_set ?_ ?_); (focus (first | omega | (simp; done) | (simp; omega)))))) ?_
      clear hK K
      refine take_only (i := 9) (by kernel_rfl) rfl rfl (by rfl) (fun K hK => ?_)
      go_simp
      refine hK _ _ (by repeat (first | (with_reducible exact Below.refl _ _) | (with_reducible assumption) | (with_reducible refine Below.drew ?_) | (with_reducible refine below_drewN ?_ _) | ((with_reducible refine below_alloc ?_ ?_); (focus (first | omega | (simp; done) | (simp; omega)))) | ((with_reducible refine below_set ?_ ?_); (focus (first | omega | (simp; done) | (simp; omega)))))) ?_
      clear hK K
      refine take_only (i := 10) (by kernel_rfl) rfl rfl (by rfl) (fun K hK => ?_)
      go_simp
      refine hK _ _ (by repeat (first | (with_reducible exact Below.refl _ _) | (with_reducible assumption) | (with_reducible refine Below.drew ?_) | (with_reducible refine below_drewN ?_ _) | ((with_reducible refine below_alloc ?_ ?_); (focus (first | omega | (simp; done) | (simp; omega)))) | ((with_reducible refine below_set ?_ ?_); (focus (first | omega | (simp; done) | (simp; omega)))))) ?_
      clear hK K
      refine take_tail (by kernel_rfl) (by kernel_rfl) ?_
      simp only [List.drop_succ_cons, List.drop_zero]
      gi_wp2
      go_meet
      exact ⟨_, _, rfl, rfl, hidden (by repeat (first | (with_reducible assumption) | ((with_reducible refine holds_new ?_); (focus (first | rfl | (simp; done)))) | (with_reducible refine Holds.alloc ?_ _) | (with_reducible refine Holds.drew ?_))), hidden (by repeat (first | (with_reducible assumption) | ((with_reducible refine holds_new ?_); (focus (first | rfl | (simp; done)))) | (with_reducible refine Holds.alloc ?_ _) | (with_reducible refine Holds.drew ?_))), hidden (by repeat (first | (with_reducible exact Below.refl _ _) | (with_reducible assumption) | (with_reducible refine Below.drew ?_) | (with_reducible refine below_drewN ?_ _) | ((with_reducible refine below_alloc ?_ ?_); (focus (first | omega | (simp; done) | (simp; omega)))) | ((with_reducible refine below_set ?_ ?_); (focus (first | omega | (simp; done) | (simp; omega))))))⟩
    · go_simp
      refine hK _ _ (by repeat (first | (with_reducible exact Below.refl _ _) | (with_reducible assumption) | (with_reducible refine Below.drew ?_) | (with_reducible refine below_drewN ?_ _) | ((with_reducible refine below_alloc ?_ ?_); (focus (first | omega | (simp; done) | (simp; omega)))) | ((with_reducible refine below_set ?_ ?_); (focus (first | omega | (simp; done) | (simp; omega)))))) ?_
      clear hK K
      refine take_only (i := 8) (by kernel_rfl) rfl rfl (by rfl) (fun K hK => ?_)
      go_simp
      refine hK _ _ (by repeat (first | (with_reducible exact Below.refl _ _) | (with_reducible assumption) | (with_reducible refine Below.drew ?_) | (with_reducible refine below_drewN ?_ _) | ((with_reducible refine below_alloc ?_ ?_); (focus (first | omega | (simp; done) | (simp; omega)))) | ((with_reducible refine below_set ?_ ?_); (focus (first | omega | (simp; done) | (simp; omega)))))) ?_
      clear hK K
      refine take_only (i := 10) (by kernel_rfl) rfl rfl (by rfl) (fun K hK => ?_)
      go_simp
      refine hK _ _ (by repeat (first | (with_reducible exact Below.refl _ _) | (with_reducible assumption) | (with_reducible refine Below.drew ?_) | (with_reducible refine below_drewN ?_ _) | ((with_reducible refine below_alloc ?_ ?_); (focus (first | omega | (simp; done) | (simp; omega)))) | ((with_reducible refine below_set ?_ ?_); (focus (first | omega | (simp; done) | (simp; omega)))))) ?_
      clear hK K
      refine take_tail (by kernel_rfl) (by kernel_rfl) ?_
      simp only [List.drop_succ_cons, List.drop_zero]
      gi_wp2
      go_meet
      exact ⟨_, _, rfl, rfl, hidden (by repeat (first | (with_reducible assumption) | ((with_reducible refine holds_new ?_); (focus (first | rfl | (simp; done)))) | (with_reducible refine Holds.alloc ?_ _) | (with_reducible refine Holds.drew ?_))), hidden (by repeat (first | (with_reducible assumption) | ((with_reducible refine holds_new ?_); (focus (first | rfl | (simp; done)))) | (with_reducible refine Holds.alloc ?_ _) | (with_reducible refine Holds.drew ?_))), hidden (by repeat (first | (with_reducible exact Below.refl _ _) | (with_reducible assumption) | (with_reducible refine Below.drew ?_) | (with_reducible refine below_drewN ?_ _) | ((with_reducible refine below_alloc ?_ ?_); (focus (first | omega | (simp; done) | (simp; omega)))) | ((with_reducible refine below_set ?_ ?_); (focus (first | omega | (simp; done) | (simp; omega))))))⟩
  case rest =>
    obtain ⟨q5, q6, rfl, rfl, B5, B6, HB⟩ := hcut
    have r0 : wc.cell? ⟨q5, 0, none⟩ = some (.int .i64 x.kind) := B5.out.cell 0
    have r1 : wc.cell? ⟨q5, 1, none⟩ = some (.int .i64 x.n) := B5.out.cell 1
    have r3 : wc.cell? ⟨q5, 3, none⟩ = some (.slice A3 x.lead.length c3) := B5.out.cell 3
    have r4 : wc.cell? ⟨q5, 4, none⟩ = some (.string x.text) := B5.out.cell 4
    have t0 : wc.cell? ⟨q6, 0, none⟩ = some (.int .i64 y.kind) := B6.out.cell 0
    have t1 : wc.cell? ⟨q6, 1, none⟩ = some (.int .i64 y.n) := B6.out.cell 1
    have t3 : wc.cell? ⟨q6, 3, none⟩ = some (.slice A4 y.lead.length c4) := B6.out.cell 3
    have t4 : wc.cell? ⟨q6, 4, none⟩ = some (.string y.text) := B6.out.cell 4
    have m0 : wc.cell? ⟨w.heap.size, 0, none⟩ = some (.slice A0 g.toks.length c0) := cell_at (HB0.out.cell 0) HB.out
    have hb : Below w.heap.size w wc := below_more hb0 HB.out
    clear B5 B6 HS HB0 HB hb0
    rcases hcs with rfl | rfl | rfl | rfl
    · have HE := HD4
      clear HD4 HD3 HD2 HD1 HN1 HN2 HE2 hse r3 r4 t3 t4 m0
      by_cases hk : x.kind = y.kind
      · by_cases hn : x.n = y.n
        · have e1 : (x.kind != y.kind) = false := by simp [hk]
          have e2 : (x.n != y.n) = false := by simp [hn]
          have HE3 : Hid (D 4 i = (K1.length != K2.length)) := hidden (by rw [HE.out, e1, e2, Bool.false_or, Bool.false_or])
          clear HE
          go_wp2_with fail
          refine (HK1.out _ hb).mono ?_
          rintro r w5 ⟨⟨u5, rfl, HM5⟩, hb5⟩
          obtain ⟨A5, c5, rfl⟩ := HM5.out.value
          replace hb := below_more hb hb5
          clear hb5 HM5 r0 r1 t0 t1
          go_wp2_with fail
          refine (HK2.out _ hb).mono ?_
          rintro r w6 ⟨⟨u6, rfl, HM6⟩, hb6⟩
          obtain ⟨A6, c6, rfl⟩ := HM6.out.value
          replace hb := below_more hb hb6
          clear hb6 HM6
          go_wp2
          go_ret
          exact ⟨ret_bool (by rw [show D (4 : Nat) i = _ from HE3.out, Bool.eq_iff_iff]; simp; try omega), hb⟩
        · have e1 : (x.kind != y.kind) = false := by simp [hk]
          have e2 : (x.n != y.n) = true := by simp [hn]
          have HE3 : Hid (D 4 i = true) := hidden (by rw [HE.out, e1, e2, Bool.true_or, Bool.false_or])
          clear HE HK1 HK2
          go_wp2
          go_ret
          exact ⟨by rw [HE3.out]; rfl, hb⟩
      · have e1 : (x.kind != y.kind) = true := by simp [hk]
        have HE3 : Hid (D 4 i = true) := hidden (by rw [HE.out, e1, Bool.true_or])
        clear HE HK1 HK2
        go_wp2
        go_ret
        exact ⟨by rw [HE3.out]; rfl, hb⟩
    · clear HD4 HD2 HD1 HN1 HN2 HE2 r0 r1 r3 t0 t1 t3 m0 HK1 HK2
      go_wp2
      go_ret
      exact ⟨by rw [HD3.out, ← hse]; rfl, hb⟩
    · clear HD4 HD3 HD1 HE2 hse r0 r1 r4 t0 t1 t4 HK1 HK2
      have HS := hidden (And.intro m0 (And.intro r3 t3))
      have HE := hidden (fun (u v : Value) (b6 b7 : Nat) (w6 w7 : World) (h6 : PcsM w6 b6 u L) (h7 : PcsM w7 b7 v M) (hb : Below w6.heap.size w6 w7) => same_two u v L M h6 h7 hb)
      have tok1 : True := trivial
      generalize eqB L M = r at *
      clear r3 t3 m0
      go_wp2_with fail
      go_region_held3 (fun w' => w'.cell? ⟨w.heap.size, 0, none⟩ = some (.slice A0 g.toks.length c0) ∧ w'.cell? ⟨q5, 3, none⟩ = some (.slice A3 x.lead.length c3) ∧ w'.cell? ⟨q6, 3, none⟩ = some (.slice A4 y.lead.length c4) ∧ Below wc.heap.size wc w') (first | exact ⟨HS.out.1, HS.out.2.1, HS.out.2.2, Below.drew (Below.refl _ _)⟩ | (go_split_ands; exact ⟨cell_more HS.out.1 (by (first | assumption | exact Below.drew (Below.refl _ _) | exact Below.refl _ _)) (by assumption), cell_more HS.out.2.1 (by (first | assumption | exact Below.drew (Below.refl _ _) | exact Below.refl _ _)) (by assumption), cell_more HS.out.2.2 (by (first | assumption | exact Below.drew (Below.refl _ _) | exact Below.refl _ _)) (by assumption), below_more (by (first | assumption | exact Below.drew (Below.refl _ _) | exact Below.refl _ _)) (by assumption)⟩)) (first | (go_at_call 79; have _t := tok1; go_split_ands; refine (HN1.out _ (below_more hb (by (first | assumption | exact Below.drew (Below.refl _ _) | exact Below.refl _ _)))).mono ?_; rintro e w6 ⟨⟨u6, rfl, HM6⟩, hb6⟩; clear tok1 _t; obtain ⟨A6, c6, rfl⟩ := HM6.out.value) | (go_at_call 79; go_split_ands; refine (HN2.out _ (below_more hb (by (first | assumption | exact Below.drew (Below.refl _ _) | exact Below.refl _ _)))).mono ?_; rintro e w7 ⟨⟨u7, rfl, HM7⟩, hb7⟩; obtain ⟨A7, c7, rfl⟩ := HM7.out.value) | (go_at_call 50; go_split_ands; refine (HE.out _ _ _ _ _ _ HM6.out HM7.out hb7).mono ?_; rintro e w8 ⟨rfl, hb8⟩))
      have hbe := hidden (below_more (below_more (below_more hb.drew hb6) hb7) hb8)
      clear hb6 hb7 hb8 HM6 HM7
      go_wp2
      go_ret
      exact ⟨by rw [HD2.out]; rfl, hbe.out⟩
    · clear HD4 HD3 HD2 HN1 HN2 hse r0 r1 r4 t0 t1 t4 m0 HK1 HK2
      generalize eqB x.lead y.lead = r at *
      go_wp2_with fail
      refine (HE2.out _ hb).mono ?_
      rintro r w6 ⟨rfl, hb6⟩
      replace hb := below_more hb hb6
      go_wp2
      go_ret
      exact ⟨by rw [HD1.out]; rfl, hb⟩
end Go.Proofs.Ytbjheaiiajpifaa.T
