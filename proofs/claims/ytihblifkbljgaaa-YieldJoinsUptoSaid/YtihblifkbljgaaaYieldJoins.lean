/-
  The law YieldJoins: a text is the texts of its pieces; what is handed out is by itself.
-/
import Derived.Test.YtihblifkbljgaaaYieldTexts
namespace Go.Proofs.Ytihblifkbljgaaa
open Go.RowKit Go.Shelf

theorem empty_toList : (⟨#[]⟩ : ByteArray).toList = [] := by rw [ByteArray.toList_eq]
/-- The end has no text. -/
def EndBare (ws : List Node) : Prop := ∀ x ∈ ws, x.n = -2 → x.text = ⟨#[]⟩
theorem join_text {ws : List Node} (h : EndBare ws) : pcBytes (ws.flatMap wordPcs) = ws.flatMap wordBytes := by
  induction ws with
  | nil => rfl
  | cons x ws ih =>
    rw [List.flatMap_cons, List.flatMap_cons]
    have e : pcBytes (wordPcs x) = wordBytes x := by
      unfold wordPcs wordBytes
      by_cases hn : x.n = -2
      · rw [if_pos hn, h x (by simp) hn]; simp
      · rw [if_neg hn]
        unfold pcBytes
        rw [List.flatMap_append]; simp
    rw [← e, ← ih (fun y hy => h y (by simp [hy]))]
    unfold pcBytes
    rw [List.flatMap_append]
theorem text_words (t : List Node) : textOf t = (wordsOf t).flatMap wordBytes := by
  unfold textOf textL
  rw [← wordsL_all]
  unfold wordsL
  rw [List.flatMap_map]
theorem join_of {t : List Node} (h : EndBare (wordsOf t)) : pcBytes (piecesOf t) = textOf t := by
  rw [text_words]
  exact join_text h

/-- A lead of the call's own, whatever it holds by now. -/
def LeadAt (W : World) (B C : Nat) (v l : Value) (n : Nat) : Prop :=
  ∃ A cap, l = .slice A n cap ∧ n ≤ cap ∧ cap ≤ maxLen ∧ (0 < n → ∃ g cur, A = some ⟨g, 0, none⟩ ∧ W.heap[g]? = some (.cells cur 59 (0, 0)) ∧ cur.size = cap * 2 ∧ B ≤ g ∧ g < C ∧ v.ownBlock ≠ some g)
theorem LeadAt.set {W : World} {B C b i : Nat} {v l : Value} {n : Nat} (h : LeadAt W B C v l n) (u : Value) : LeadAt (W.setCell ⟨b, i, none⟩ u) B C v l n := by
  obtain ⟨A, cap, rfl, h1, h2, h3⟩ := h
  refine ⟨A, cap, rfl, h1, h2, fun h0 => ?_⟩
  obtain ⟨g, cur, rfl, a1, a2, a3, a4, a5⟩ := h3 h0
  by_cases e : g = b
  · subst e
    exact ⟨g, cur.setIfInBounds i u, rfl, Holds.set a1 i u, by simpa using a2, a3, a4, a5⟩
  · exact ⟨g, cur, rfl, Holds.far a1 (p := ⟨b, i, none⟩) e u, a2, a3, a4, a5⟩
theorem LeadAt.below {W W' : World} {B C : Nat} {v l : Value} {n : Nat} (h : LeadAt W B C v l n) (hb : Below W.heap.size W W') : LeadAt W' B C v l n := by
  obtain ⟨A, cap, rfl, h1, h2, h3⟩ := h
  refine ⟨A, cap, rfl, h1, h2, fun h0 => ?_⟩
  obtain ⟨g, cur, rfl, a1, a2⟩ := h3 h0
  exact ⟨g, cur, rfl, (hb.block g (Array.getElem?_eq_some_iff.1 a1).1).trans a1, a2⟩
theorem LeadAt.mono {W : World} {B C B' C' : Nat} {v l : Value} {n : Nat} (h : LeadAt W B C v l n) (hB : B' ≤ B) (hC : C ≤ C') : LeadAt W B' C' v l n := by
  obtain ⟨A, cap, rfl, h1, h2, h3⟩ := h
  refine ⟨A, cap, rfl, h1, h2, fun h0 => ?_⟩
  obtain ⟨g, cur, rfl, a1, a2, a3, a4, a5⟩ := h3 h0
  exact ⟨g, cur, rfl, a1, a2, by omega, by omega, a5⟩
theorem LeadAt.of {W : World} {B : Nat} {v l : Value} {n : Nat} {xs : List Value} (h : Mine W B 59 2 l n xs) (hg : ∀ g, l.ownBlock = some g → v.ownBlock ≠ some g ∧ B ≤ g ∧ g < W.heap.size) : LeadAt W B W.heap.size v l n := by
  rcases h with ⟨h1, h2⟩ | ⟨rfl, rfl, S, rfl⟩
  · rcases h2 with ⟨rfl, rfl⟩ | ⟨g, cap, cur, rfl, hb, hgg, c1, c2, c3, c4⟩
    · exact ⟨none, 0, rfl, Nat.le_refl _, by simp [maxLen], fun h => by omega⟩
    · exact ⟨_, cap, rfl, c1, c2, fun _ => ⟨g, cur, rfl, hgg, c3, hb, (Array.getElem?_eq_some_iff.1 hgg).1, (hg g rfl).1⟩⟩
  · exact ⟨S, 0, rfl, Nat.le_refl _, by simp [maxLen], fun h => by omega⟩

/-- The words handed out, whatever their leads hold by now; the pieces; all that was there. -/
structure JoS (w : World) (B C P Q : Nat) (v : Value) (ws : List Node) (ls : List Value) (pv : Value) (ps : List Piece) (W : World) : Prop where
  row : Rd W (fun k => v.ownBlock = some k) 3 v ws.length (wordR.all ws ls)
  len : ls.length = ws.length
  leads : ∀ (i : Nat) (x : Node) (l : Value), ws[i]? = some x → ls[i]? = some l → LeadAt W B C v l x.lead.length
  pcs : Pcs W (fun k => P ≤ k ∧ k < Q) pv ps
  sz : Q ≤ W.heap.size
  below : Below w.heap.size w W
theorem JoS.set {w W : World} {B C P Q : Nat} {v pv : Value} {ws : List Node} {ls : List Value} {ps : List Piece} (h : JoS w B C P Q v ws ls pv ps W) {g i : Nat} (h1 : w.heap.size ≤ g) (h2 : g < P) (h3 : v.ownBlock ≠ some g) (u : Value) : JoS w B C P Q v ws ls pv ps (W.setCell ⟨g, i, none⟩ u) :=
  ⟨h.row.set (p := ⟨g, i, none⟩) h3 u, h.len, fun i x l a b => (h.leads i x l a b).set u, h.pcs.keeps ((Keeps.refl _ _).setCell (p := ⟨g, i, none⟩) (by dsimp only; omega) u), by simpa [World.setCell] using h.sz, h.below.setCell (p := ⟨g, i, none⟩) h1 u⟩

set_option maxRecDepth 20000 in
set_option maxHeartbeats 8000000 in
theorem law_joins (v : Value) (t : List Node) (w : World) (h4 : bulkT t ≤ 1048576) (hN : Nds w (Old w) v t) :
    Calls Try.prog 9 #[v] w fun r w' => r = .returned (.bool true) ∧ Below w.heap.size w w' := by
  have h5 := bulk_len t
  have hll : (leavesOf t).length ≤ t.length := leavesTo_len t t.length
  have HF := hidden (few v t w hN (by omega))
  have H1 := hidden (fun (w' : World) (hb : Below w.heap.size w w') => yield_Words v t w' h4 (hN.old hb))
  have H3 := hidden (fun (w' : World) (hb : Below w.heap.size w w') => yield_Pieces v t w' h4 (hN.old hb))
  have H5 : Hid (∀ w', Below w.heap.size w w' → Calls Try.prog 26 #[v] w' fun r w2 => r = .returned (.string (catB (textOf t))) ∧ Below w'.heap.size w' w2) := hidden (fun (w' : World) (hb : Below w.heap.size w w') => yield_text v t w' h4 (hN.old hb))
  have HJ : Hid (EndBare (wordsOf t) → leadSum (piecesOf t) ≤ 1000000000000 ∧ catB (pcBytes (piecesOf t)) = catB (textOf t)) := hidden (fun h => by
    refine ⟨?_, by rw [join_of h]⟩
    have : (textOf t).length = fromY t (leavesOf t) (leavesOf t).length := textL_range_len t _ (Nat.le_refl _)
    have := fromY_le t (k := (leavesOf t).length) (Nat.le_refl _)
    rw [← pcBytes_len, join_of h]
    omega)
  have hwl : (wordsOf t).length ≤ 1048576 := by rw [wordsOf_len]; omega
  have hlb : ∀ x ∈ wordsOf t, x.lead.length ≤ 1048576 := fun x hx => by
    obtain ⟨k, hk⟩ := List.getElem?_of_mem hx
    have hk' := (List.getElem?_eq_some_iff.1 hk).1
    rw [wordsOf_len] at hk'
    obtain ⟨n1, n2, _⟩ := nodeY_at hk'
    rw [n1] at hk
    cases hk
    have a1 := bulk_at (List.getElem?_eq_getElem n2)
    have a2 := wordLen_bulk t[nodeY t k]
    rw [leafAt_of (List.getElem?_eq_getElem n2)]
    omega
  have HLb := hidden hlb
  obtain ⟨A, c, rfl, hc1, hc2⟩ := hN.value
  clear hN hlb hll
  generalize catB (textOf t) = S at *
  generalize piecesOf t = ps at *
  generalize wordsOf t = ws at *
  cases hf : fewB t with
  | false =>
    rw [hf] at HF
    clear hf h4 h5
    go_enter Try.func9, Try.ntmps9
    go_wp2_with fail
    refine HF.out.mono ?_
    rintro r w1 ⟨rfl, hb⟩
    go_wp2_with fail
    refine (knows28 w1).mono ?_
    rintro r w2 ⟨rfl, hb2⟩
    replace hb := hb.trans (hb2.mono hb.size)
    go_wp2
    go_ret
    exact ⟨rfl, hb⟩
  | true =>
    rw [hf] at HF
    clear hf h4 h5
    go_enter Try.func9, Try.ntmps9
    go_wp2_with fail
    refine HF.out.mono ?_
    rintro r w1 ⟨rfl, hb⟩
    go_wp2_with fail
    refine (H1.out w1 hb).mono ?_
    rintro r w2 ⟨⟨u1, rfl, HW⟩, hb2⟩
    have hbz1 := hb.size
    replace hb := hb.trans (hb2.mono hb.size)
    have hR1 := hidden HW.out.recs
    obtain ⟨A1, c1, rfl, hd1, hd2⟩ := hR1.out.value
    unfold maxLen at hd2
    clear hb2 H1 HF
    go_wp2
    go_loopw [4] (fun kk wr => ∃ k : Nat, k ≤ ws.length ∧ kk = .int .i64 k ∧ Hid (∀ j x, j < k → ws[j]? = some x → x.n = -2 → x.text = ⟨#[]⟩) ∧ Hid (Below w2.heap.size w2 wr)) (fun kk _ => ws.length - (intOf kk).toNat)
    case atStart => exact ⟨0, by omega, rfl, hidden (fun j x h => by omega), hidden (Below.refl _ _)⟩
    case round =>
      have HB := hidden hb
      clear hb
      obtain ⟨k, hk, rfl, HE, hb2⟩ := hrel
      by_cases hlt : k < ws.length
      · have hx := List.getElem?_eq_getElem hlt
        obtain ⟨b1, o1, l1, rfl, x0, x1, x2, hP1, hTb⟩ := (hR1.out.below hb2.out (fun _ h => h)).cells_at hx
        have HXk := hidden hx
        generalize ws[k] = x at *
        clear x0 hP1 hx
        by_cases hn : x.n = -2
        · have q1 : (x.n == -2) = true := by rw [hn]; rfl
          by_cases ht : x.text = ⟨#[]⟩
          · have q2 : x.text.toList = [] := by rw [ht]; exact empty_toList
            have q3 : (!x.text.toList.isEmpty) = false := by rw [q2]; rfl
            have HE2 : Hid (∀ j x, j < k + 1 → ws[j]? = some x → x.n = -2 → x.text = ⟨#[]⟩) := hidden (fun j y hj hy hyn => by
              by_cases e : j = k
              · subst e; rw [HXk.out] at hy; cases hy; exact ht
              · exact HE.out j y (by omega) hy hyn)
            clear ht hn
            go_wp2
            go_roundw
            case rel => exact ⟨k + 1, by omega, by go_num, HE2, hb2⟩
            case measure => simp [intOf]; omega
          · have q2 : x.text.toList ≠ [] := fun e => ht (toList_inj (by rw [e]; exact empty_toList.symm))
            have q3 : (!x.text.toList.isEmpty) = true := by
              cases h : x.text.toList with
              | nil => exact absurd h q2
              | cons a l => rfl
            clear ht hn q2
            go_wp2_with fail
            refine (knows28 wr).mono ?_
            rintro r w3 ⟨rfl, hb3⟩
            have hbf := (HB.out.trans (hb2.out.mono HB.out.size)).trans (hb3.mono (HB.out.trans (hb2.out.mono HB.out.size)).size)
            go_wp2
            go_ret
            exact ⟨rfl, hbf⟩
        · have q1 : (x.n == -2) = false := by rw [beq_eq_false_iff_ne]; exact hn
          have HE2 : Hid (∀ j x, j < k + 1 → ws[j]? = some x → x.n = -2 → x.text = ⟨#[]⟩) := hidden (fun j y hj hy hyn => by
            by_cases e : j = k
            · subst e; rw [HXk.out] at hy; cases hy; exact absurd hyn hn
            · exact HE.out j y (by omega) hy hyn)
          clear hn
          go_wp2
          go_roundw
          case rel => exact ⟨k + 1, by omega, by go_num, HE2, hb2⟩
          case measure => simp [intOf]; omega
      · obtain rfl : k = ws.length := by omega
        obtain ⟨hj1, hj2⟩ := HJ.out (fun x hx hn => by
          obtain ⟨j, hj⟩ := List.getElem?_of_mem hx
          exact HE.out j x (List.getElem?_eq_some_iff.1 hj).1 hj hn)
        have HJ2 := hidden hj2
        have hb := HB.out.trans (hb2.out.mono HB.out.size)
        have hb2r := hb2.out
        clear HJ hj2 HE hR1 hb2
        go_wp2_with fail
        refine (H5.out wr hb).mono ?_
        rintro r w3 ⟨rfl, hb3⟩
        have hb23 := hb2r.trans (hb3.mono hb2r.size)
        replace hb := hb.trans (hb3.mono hb.size)
        clear hb3 hb2r HB
        go_wp2_with fail
        refine (H3.out w3 hb).mono ?_
        rintro r w5 ⟨⟨u5, rfl, HM⟩, hb5⟩
        obtain ⟨A5, c5, rfl⟩ := HM.out.value
        have hb25 := hb23.trans (hb5.mono hb23.size)
        have hz23 := hb23.size
        have hJo : ∃ ls, JoS w w.heap.size w3.heap.size w3.heap.size w5.heap.size (.slice A1 ws.length c1) ws ls (.slice A5 ps.length c5) ps w5 := by
          obtain ⟨⟨ls, a1, a2, a3⟩, a4⟩ := HW.out
          exact ⟨ls, (a2.below hb25).rd (fun g e _ _ => e), a1, fun i x l hx hl => ((LeadAt.of (a3 i x l hx hl).1 (a3 i x l hx hl).2).below hb25).mono hbz1 hz23, HM.out.rd (fun g _ h h' => ⟨h, h'⟩), Nat.le_refl _, hb.trans (hb5.mono hb.size)⟩
        obtain ⟨ls, hJo⟩ := hJo
        have HJo := hidden hJo
        have hz35 := hb5.size
        clear hJo HM HW hb5 hb25 hb23 H3 hb
        go_wp2
        go_loopw [7, 8] (fun kk _ wr => ∃ k : Nat, k ≤ ws.length ∧ kk = .int .i64 k ∧ Hid (JoS w w.heap.size w3.heap.size w3.heap.size w5.heap.size (.slice A1 ws.length c1) ws ls (.slice A5 ps.length c5) ps wr)) (fun kk _ _ => ws.length - (intOf kk).toNat)
        case atStart => exact ⟨0, by omega, rfl, HJo⟩
        case round =>
          clear HJo
          obtain ⟨k, hk, rfl, HJo⟩ := hrel
          by_cases hlt : k < ws.length
          · have hx := List.getElem?_eq_getElem hlt
            have hl := List.getElem?_eq_getElem (show k < ls.length by rw [HJo.out.len]; exact hlt)
            have hcell : ∀ W, JoS w w.heap.size w3.heap.size w3.heap.size w5.heap.size (.slice A1 ws.length c1) ws ls (.slice A5 ps.length c5) ps W → ∃ b off, A1 = some ⟨b, off, none⟩ ∧ W.cell? ⟨b, off + k * 3, none⟩ = some (ls[k]'(by rw [HJo.out.len]; exact hlt)) := fun W h => by
              have hz : (ws.zip ls)[k]? = some (ws[k], ls[k]'(by rw [HJo.out.len]; exact hlt)) := by rw [List.getElem?_zip_eq_some]; exact ⟨hx, hl⟩
              obtain ⟨b, off, e, _, hc⟩ := Rd.flat_at (f := fun p : Node × Value => wordR.cells p.1 p.2) h.row (fun p => wordR.len p.1 p.2) wordR.pos hz
              exact ⟨b, off, e, hc 0 _ rfl⟩
            have hld : ∀ W, JoS w w.heap.size w3.heap.size w3.heap.size w5.heap.size (.slice A1 ws.length c1) ws ls (.slice A5 ps.length c5) ps W → LeadAt W w.heap.size w3.heap.size (.slice A1 ws.length c1) (ls[k]'(by rw [HJo.out.len]; exact hlt)) ws[k].lead.length := fun W h => h.leads k _ _ hx hl
            have hlx := HLb.out _ (List.getElem_mem hlt)
            generalize ws[k].lead.length = nl at *
            generalize ls[k]'(by rw [HJo.out.len]; exact hlt) = lv at *
            obtain ⟨A7, cap, rfl, g1, g2, _⟩ := hld wr HJo.out
            unfold maxLen at g2
            obtain ⟨b, off, rfl, x0⟩ := hcell wr HJo.out
            have HCell : Hid (∀ W, JoS w w.heap.size w3.heap.size w3.heap.size w5.heap.size (.slice (some ⟨b, off, none⟩) ws.length c1) ws ls (.slice A5 ps.length c5) ps W → W.cell? ⟨b, off + k * 3, none⟩ = some (.slice A7 nl cap)) := hidden (fun W h => by
              obtain ⟨b', off', e, hc⟩ := hcell W h
              simp only [Option.some.injEq, Addr.mk.injEq] at e
              obtain ⟨rfl, rfl, _⟩ := e
              exact hc)
            have HLd := hidden hld
            clear hx hl hcell hld
            obtain ⟨wo, rfl⟩ : ∃ wo, wo = wr := ⟨_, rfl⟩
            go_wp2
            clear x0
            go_loopw [8] (fun jj wr => ∃ j : Nat, j ≤ nl ∧ jj = .int .i64 j ∧ Hid (JoS w w.heap.size w3.heap.size w3.heap.size w5.heap.size (.slice (some ⟨b, off, none⟩) ws.length c1) ws ls (.slice A5 ps.length c5) ps wr)) (fun jj _ => nl - (intOf jj).toNat)
            case atStart => exact ⟨0, by omega, rfl, HJo⟩
            case round =>
              clear HJo
              obtain ⟨j, hj, rfl, HJo⟩ := hrel
              have x0 := HCell.out wr HJo.out
              by_cases hjl : j < nl
              · obtain ⟨A7', cap', hv, _, _, hg⟩ := HLd.out wr HJo.out
                simp only [Value.slice.injEq] at hv
                obtain ⟨rfl, _, rfl⟩ := hv
                obtain ⟨g, cur, rfl, a1, a2, a3, a4, a5⟩ := hg (by omega)
                have hjc : j * 2 + 1 < cur.size := by omega
                have z0 : wr.cell? ⟨g, 0 + j * 2 + 1, none⟩ = some (cur[j * 2 + 1]'hjc) := by
                  rw [show 0 + j * 2 + 1 = j * 2 + 1 by omega, Holds.cell a1]
                  exact Array.getElem?_eq_getElem hjc
                have z1 : wr.cell? ⟨g, j * 2 + 1, none⟩ = some (cur[j * 2 + 1]'hjc) := by rw [Holds.cell a1]; exact Array.getElem?_eq_getElem hjc
                have zf := Holds.frozen a1 (j * 2 + 1)
                have zf0 := Holds.frozen a1 (0 + j * 2 + 1)
                have hJs : Hid (∀ i u, JoS w w.heap.size w3.heap.size w3.heap.size w5.heap.size (.slice (some ⟨b, off, none⟩) ws.length c1) ws ls (.slice A5 ps.length c5) ps (wr.setCell ⟨g, i, none⟩ u)) := hidden (fun i u => HJo.out.set a3 a4 a5 u)
                generalize cur[j * 2 + 1]'hjc = u0 at *
                clear a1 a2 a5 hg hjc
                go_wp2
                go_roundw
                case rel => exact ⟨j + 1, by omega, by go_num, hidden (hJs.out _ _)⟩
                case measure => simp [intOf]; omega
              · obtain rfl : j = nl := by omega
                go_wp2
                go_roundw
                case rel => exact ⟨k + 1, by omega, by go_num, HJo⟩
                case measure => simp [intOf]; omega
          · obtain rfl : k = ws.length := by omega
            have hb := HJo.out.below
            have hPc : Pcs wr (Old wr) (.slice A5 ps.length c5) ps := HJo.out.pcs.mono (fun g h => Nat.lt_of_lt_of_le h.2 HJo.out.sz)
            have HJn := hidden (ref_join _ ps wr hPc hj1)
            rw [HJ2.out] at HJn
            have qs : (S.toList == S.toList) = true := by simp
            clear HJo hPc hj1 HJ2
            go_wp2_with fail
            refine HJn.out.mono ?_
            rintro r w6 ⟨rfl, rfl⟩
            go_wp2_with fail
            refine (H5.out wr hb).mono ?_
            rintro r w7 ⟨rfl, hb7⟩
            replace hb := hb.trans (hb7.mono hb.size)
            clear hb7 H5
            go_wp2_with fail
            refine (knows28 w7).mono ?_
            rintro r w8 ⟨rfl, hb8⟩
            replace hb := hb.trans (hb8.mono hb.size)
            go_wp2
            go_ret
            exact ⟨rfl, hb⟩
end Go.Proofs.Ytihblifkbljgaaa
