/-
  The document's way of telling whether a node fits: facsimileref30.doc, fits.
-/
import Derived.Test.YtmmhkjdnejeooaaDeriveF
namespace Go.Proofs.Ytmmhkjdnejeooaa.T
open Go.RowKit Go.Shelf

theorem ints_take (ks : List Nat) (m : Nat) : (ints ks).take (m * 1) = ints (ks.take m) := by unfold ints; rw [Nat.mul_one, List.map_take]
theorem take_last {ks : List Nat} {m : Nat} (h : m < ks.length) : (ks.take (m + 1)).reverse = ks[m] :: (ks.take m).reverse := by
  rw [List.take_add_one, List.getElem?_eq_getElem h, List.reverse_append]; rfl
theorem docR_nil (g : Gram) (t : List Node) : docD g t [] = false := by rw [← doc_same]; rfl
theorem docR_last {g : Gram} {t : List Node} {ks : List Nat} {m : Nat} (h : ks.length = m + 1) (hm : m < ks.length) : docD g t ks = (endAt t ks[m] && decide (rowD g t ((ks.take m).reverse.dropWhile (isBad t)).reverse [startIt g] = some [])) := by
  rw [← doc_same]
  have e : ks.reverse = ks[m] :: (ks.take m).reverse := by rw [← take_last hm, ← h, List.take_length]
  unfold docR
  rw [e]

set_option maxRecDepth 20000 in
set_option maxHeartbeats 16000000 in
theorem ref_doc30 (a b c v vk : Value) (g : Gram) (t : List Node) (ks : List Nat) (w : World) (HG : GramIs w (Old w) a b c g) (hsm : Small g) (hr : rightB g = true) (HN : Nds w (Old w) v t) (HK : Rd w (Old w) 1 vk ks.length (ints ks))
    (hks : ∀ k ∈ ks, k < t.length) (hkz : ks.length ≤ 1000000000) :
    Calls Try.prog 45 #[.agg (gramCells a b c g), v, vk] w fun r w' => r = .returned (.bool (docD g t ks)) ∧ Below w.heap.size w w' := by
  have HRw := hidden (fun (vk vi : Value) (m : Nat) (w' : World) (hb : Below w.heap.size w w') (HK : Rd w' (Old w') 1 vk (ks.take m).length (ints (ks.take m))) (HI : Rd w' (Old w') 4 vi [startIt g].length ([startIt g].flatMap itCells)) =>
    ref_row30 a b c v vk vi g t (ks.take m) [startIt g] w' (HG.old hb) hsm hr (HN.old hb) HK (fun k hk => hks k (List.mem_of_mem_take hk)) (by rw [List.length_take]; omega) HI)
  have hE0 := hidden (fun (e : ks = []) => (show docD g t ks = false from by rw [e]; exact docR_nil g t))
  have hE1 := hidden (fun (m : Nat) (h : ks.length = m + 1) (hm : m < ks.length) => docR_last (g := g) (t := t) h hm)
  generalize docD g t ks = res at *
  have HND := hidden HN
  have HKK := hidden HK
  have hks2 := hidden hks
  obtain ⟨⟨A1, k1, rfl, v1, m1⟩, ⟨A2, k2, rfl, v2, m2⟩, ⟨A3, k3, rfl, v3, m3⟩⟩ := HG.vals
  obtain ⟨A, cc, rfl, hc1, hc2⟩ := HN.value
  obtain ⟨Ak, ck, rfl, hk1, hk2⟩ := HK.val
  unfold gramCells at *
  unfold maxLen at hk2
  have hb1 : Below w.heap.size w (w.alloc (.cells #[.slice A1 g.toks.length k1, .slice A2 g.rules.length k2, .slice A3 g.prods.length k3, .int .i64 g.start, .int .i64 g.states, .int .i64 g.text, .int .i64 g.nodes, .int .i64 g.pairs] 26)) := (Below.refl _ _).alloc (Nat.le_refl _) _
  have HB1 : Hid (Holds (w.alloc (.cells #[.slice A1 g.toks.length k1, .slice A2 g.rules.length k2, .slice A3 g.prods.length k3, .int .i64 g.start, .int .i64 g.states, .int .i64 g.text, .int .i64 g.nodes, .int .i64 g.pairs] 26)) w.heap.size 26 #[.slice A1 g.toks.length k1, .slice A2 g.rules.length k2, .slice A3 g.prods.length k3, .int .i64 g.start, .int .i64 g.states, .int .i64 g.text, .int .i64 g.nodes, .int .i64 g.pairs]) := hidden (Holds.new w _ _)
  clear HG hsm hr HN HK hks
  by_cases h0 : ks = []
  · have he : Hid (res = false) := hidden (hE0.out h0)
    subst h0
    clear HRw hE0 hE1 HB1
    go_enter Try.func45, Try.ntmps45
    go_wp2
    go_ret
    exact ⟨by rw [he.out]; rfl, hb1⟩
  · obtain ⟨n1, hn1⟩ : ∃ n1, ks.length = n1 + 1 := ⟨ks.length - 1, by have := List.length_pos_iff.2 h0; omega⟩
    have hnl : n1 < ks.length := by omega
    have hme := List.getElem?_eq_getElem hnl
    have hE2 := hidden (hE1.out n1 hn1 hnl)
    have het := hks2.out _ (List.getElem_mem hnl)
    generalize ks[n1] = e at *
    obtain ⟨_, A5, c5, hv5, _, _, hop⟩ := HKK.out
    obtain ⟨b4, o4, hA4, hT4, hc4⟩ := hop (by unfold ints; rw [List.length_map]; omega)
    subst hA4
    cases hv5
    have HC4 := hidden (fun (m kk : Nat) (h : ks[m]? = some kk) => (show w.cell? ⟨b4, o4 + m, none⟩ = some (.int .i64 (kk : Int)) from hc4 m (.int .i64 (kk : Int)) (by unfold ints; rw [List.getElem?_map, h]; rfl)))
    obtain ⟨bt, ot, ct, hvt, _, _, _, hat⟩ := HND.out.open_ (by intro e; rw [e] at het; simp at het)
    cases hvt
    have HAt := hidden hat
    obtain ⟨x, hx⟩ : ∃ x, t[e]? = some x := ⟨_, List.getElem?_eq_getElem het⟩
    obtain ⟨lx, z0, z1, z2, z3, z4, _⟩ := hat e x hx
    have z5 := HC4.out n1 e hme
    have hend : Hid (endAt t e = (decide (x.kind = 3) && (decide (x.n = -2) && decide (x.text = ⟨#[]⟩)))) := hidden (by unfold endAt; rw [hx])
    have qe : (e : Int) < (t.length : Int) := by omega
    have hw9 : IntKind.i64.wrap ((ks.length : Int) - 1) = (n1 : Int) := by rw [hn1]; simp [IntKind.wrap, IntKind.bits, IntKind.signed]; omega
    have q0 : ((ks.length : Int) == 0) = false := beq_eq_false_iff_ne.2 (by omega)
    have qn : (n1 : Int) < (ks.length : Int) := by omega
    replace z5 := cellF z5 hb1
    replace z0 := cellF z0 hb1; replace z1 := cellF z1 hb1; replace z4 := cellF z4 hb1
    clear hE0 hE1 h0 hop hc4 hat z2 z3 hx
    go_enter Try.func45, Try.ntmps45
    go_upto_region 1 with fail
    generalize (w.alloc (.cells #[.slice A1 g.toks.length k1, .slice A2 g.rules.length k2, .slice A3 g.prods.length k3, .int .i64 g.start, .int .i64 g.states, .int .i64 g.text, .int .i64 g.nodes, .int .i64 g.pairs] 26)) = w1 at *
    have HN1 := hidden hn1
    clear hn1
    by_cases h3 : x.kind = 3
    · have q3 : (x.kind != 3) = false := by rw [h3]; rfl
      by_cases hm2 : x.n = -2
      · have q2 : (x.n != -2) = false := by rw [hm2]; rfl
        by_cases htx : x.text = ⟨#[]⟩
        · have qt : x.text.toList.isEmpty = true := by rw [htx]; exact text_none
          have hE3 : Hid (res = decide (rowD g t ((ks.take n1).reverse.dropWhile (isBad t)).reverse [startIt g] = some [])) := hidden (by rw [hE2.out, hend.out, decide_eq_true h3, decide_eq_true hm2, decide_eq_true htx]; rfl)
          clear hE2 hend
          have hn1z : n1 ≤ ks.length := by omega
          go_wp2
          clear z0 z1 z4 z5
          go_loopw [7] (fun nv wr => ∃ m : Nat, nv = .int .i64 m ∧ m ≤ n1 ∧ Hid ((ks.take n1).reverse.dropWhile (isBad t) = (ks.take m).reverse.dropWhile (isBad t)) ∧ Hid (Below w1.heap.size w1 wr)) (fun nv wr => (intOf nv).toNat)
          case atStart => exact ⟨n1, by go_num, Nat.le_refl _, hidden rfl, hidden (Below.refl _ _)⟩
          case round =>
            obtain ⟨m, rfl, hm, hD, HB⟩ := hrel
            clear hw9 qn q0 q3 q2 qt qe
            rcases m with _ | m
            · have hD2 : Hid (((ks.take n1).reverse.dropWhile (isBad t)).reverse = ks.take 0) := hidden (by rw [hD.out]; rfl)
              clear hD
              have hE4 : Hid (res = decide (rowD g t (ks.take 0) [startIt g] = some [])) := hidden (by rw [hE3.out, hD2.out])
              have HRd := hidden (rd_take HKK.out (i := 0) (by omega))
              have hlt : (ks.take 0).length = 0 := by rw [List.length_take]; omega
              have HRw2 := hidden (fun vi w' (hb : Below w1.heap.size w1 w') (HI : Rd w' (Old w') 4 vi [startIt g].length ([startIt g].flatMap itCells)) => HRw.out _ vi 0 w' (hb1.trans (hb.mono hb1.size)) (by rw [hlt, ← ints_take]; exact Rd.old HRd.out (hb1.trans (hb.mono hb1.size))) HI)
              generalize decide (rowD g t (ks.take 0) [startIt g] = some []) = rs at *
              obtain ⟨x0, x1, x2, x3, x4, x5, x6, x7⟩ := eightR (HB1.out.below HB.out HB1.out.lt)
              have hB := HB.out
              clear HRw hE3 hD2 HRd hlt HAt HC4 HND HKK HB
              go_wp2_with fail
              go_region_held3 (fun w' => w'.cell? ⟨w.heap.size, 0, none⟩ = some (.slice A1 g.toks.length k1) ∧ w'.cell? ⟨w.heap.size, 1, none⟩ = some (.slice A2 g.rules.length k2) ∧ w'.cell? ⟨w.heap.size, 2, none⟩ = some (.slice A3 g.prods.length k3) ∧ w'.cell? ⟨w.heap.size, 3, none⟩ = some (.int .i64 g.start) ∧ w'.cell? ⟨w.heap.size, 4, none⟩ = some (.int .i64 g.states) ∧ w'.cell? ⟨w.heap.size, 5, none⟩ = some (.int .i64 g.text) ∧ w'.cell? ⟨w.heap.size, 6, none⟩ = some (.int .i64 g.nodes) ∧ w'.cell? ⟨w.heap.size, 7, none⟩ = some (.int .i64 g.pairs) ∧ Below wr.heap.size wr w')
                (first | exact ⟨x0, x1, x2, x3, x4, x5, x6, x7, Below.drew (Below.refl _ _)⟩ | exact ⟨cellF x0 (by first | exact ((Below.refl _ _).alloc (Nat.le_refl _) _).drew | exact (Below.refl _ _).drew.alloc (Nat.le_refl _) _ | exact (Below.refl _ _).alloc (Nat.le_refl _) _), cellF x1 (by first | exact ((Below.refl _ _).alloc (Nat.le_refl _) _).drew | exact (Below.refl _ _).drew.alloc (Nat.le_refl _) _ | exact (Below.refl _ _).alloc (Nat.le_refl _) _), cellF x2 (by first | exact ((Below.refl _ _).alloc (Nat.le_refl _) _).drew | exact (Below.refl _ _).drew.alloc (Nat.le_refl _) _ | exact (Below.refl _ _).alloc (Nat.le_refl _) _), cellF x3 (by first | exact ((Below.refl _ _).alloc (Nat.le_refl _) _).drew | exact (Below.refl _ _).drew.alloc (Nat.le_refl _) _ | exact (Below.refl _ _).alloc (Nat.le_refl _) _), cellF x4 (by first | exact ((Below.refl _ _).alloc (Nat.le_refl _) _).drew | exact (Below.refl _ _).drew.alloc (Nat.le_refl _) _ | exact (Below.refl _ _).alloc (Nat.le_refl _) _), cellF x5 (by first | exact ((Below.refl _ _).alloc (Nat.le_refl _) _).drew | exact (Below.refl _ _).drew.alloc (Nat.le_refl _) _ | exact (Below.refl _ _).alloc (Nat.le_refl _) _), cellF x6 (by first | exact ((Below.refl _ _).alloc (Nat.le_refl _) _).drew | exact (Below.refl _ _).drew.alloc (Nat.le_refl _) _ | exact (Below.refl _ _).alloc (Nat.le_refl _) _), cellF x7 (by first | exact ((Below.refl _ _).alloc (Nat.le_refl _) _).drew | exact (Below.refl _ _).drew.alloc (Nat.le_refl _) _ | exact (Below.refl _ _).alloc (Nat.le_refl _) _), (by first | exact ((Below.refl _ _).alloc (Nat.le_refl _) _).drew | exact (Below.refl _ _).drew.alloc (Nat.le_refl _) _ | exact (Below.refl _ _).alloc (Nat.le_refl _) _)⟩ | (go_split_ands; exact ⟨cell_more x0 (by (first | assumption | exact Below.drew (Below.refl _ _) | exact Below.refl _ _)) (by assumption), cell_more x1 (by (first | assumption | exact Below.drew (Below.refl _ _) | exact Below.refl _ _)) (by assumption), cell_more x2 (by (first | assumption | exact Below.drew (Below.refl _ _) | exact Below.refl _ _)) (by assumption), cell_more x3 (by (first | assumption | exact Below.drew (Below.refl _ _) | exact Below.refl _ _)) (by assumption), cell_more x4 (by (first | assumption | exact Below.drew (Below.refl _ _) | exact Below.refl _ _)) (by assumption), cell_more x5 (by (first | assumption | exact Below.drew (Below.refl _ _) | exact Below.refl _ _)) (by assumption), cell_more x6 (by (first | assumption | exact Below.drew (Below.refl _ _) | exact Below.refl _ _)) (by assumption), cell_more x7 (by (first | assumption | exact Below.drew (Below.refl _ _) | exact Below.refl _ _)) (by assumption), below_more (by (first | assumption | exact Below.drew (Below.refl _ _) | exact Below.refl _ _)) (by assumption)⟩))
                ((go_at_call 46; go_split_ands; refine (HRw2.out _ _ (hB.trans (Below.mono (show Below wr.heap.size wr _ from (by first | exact ((Below.refl _ _).alloc (Nat.le_refl _) _).drew | exact (Below.refl _ _).drew.alloc (Nat.le_refl _) _ | exact (Below.refl _ _).alloc (Nat.le_refl _) _)) hB.size)) (by first | exact rd_lit' (Holds.new _ _ _) (by simp [Old]) rfl rfl (by decide) | exact rd_lit' (show Holds (World.drew (World.alloc _ _)) _ _ _ from Holds.new _ _ _) (by simp [Old]) rfl rfl (by decide))).mono ?_; rintro e w6 ⟨rfl, hb6⟩))
              all_goals
                have hb9 : Below wr.heap.size wr w6 := by go_split_ands; assumption
                have hbf := hb1.trans ((hB.trans (hb9.mono hB.size)).mono hb1.size)
                clear HRw2 x0 x1 x2 x3 x4 x5 x6 x7 hB hb6 hb9
                go_wp2
                go_ret
                exact ⟨by rw [hE4.out]; rfl, hbf⟩
            · have hml : m < ks.length := by omega
              have hmk := List.getElem?_eq_getElem hml
              have htl := take_last hml
              have hkt := hks2.out _ (List.getElem_mem hml)
              generalize ks[m] = kk at *
              have hbw := hb1.trans (HB.out.mono hb1.size)
              have z5 := cellF (HC4.out m kk hmk) hbw
              obtain ⟨y, hy⟩ : ∃ y, t[kk]? = some y := ⟨_, List.getElem?_eq_getElem hkt⟩
              obtain ⟨ly, z0, _⟩ := HAt.out kk y hy
              replace z0 := cellF z0 hbw
              have hbad : Hid (isBad t kk = decide (y.kind = 4)) := hidden (by unfold isBad kindAt; rw [hy])
              have qk : (kk : Int) < (t.length : Int) := by omega
              have qm : (m : Int) < (ks.length : Int) := by omega
              have qp : decide ((0 : Int) < ((m + 1 : Nat) : Int)) = true := decide_eq_true (by omega)
              have hw9 : IntKind.i64.wrap (((m + 1 : Nat) : Int) - 1) = (m : Int) := by simp [IntKind.wrap, IntKind.bits, IntKind.signed]; omega
              rw [htl] at hD
              have HTL := hidden htl
              clear hmk htl hy
              generalize hmm : m + 1 = m1 at *
              by_cases h4 : y.kind = 4
              · have q4 : (y.kind == 4) = true := by rw [h4]; rfl
                have hD2 : Hid ((ks.take n1).reverse.dropWhile (isBad t) = (ks.take m).reverse.dropWhile (isBad t)) := hidden (by rw [hD.out, List.dropWhile_cons, if_pos (by rw [hbad.out]; exact decide_eq_true h4)])
                clear hD hbad
                go_wp2
                go_roundw
                case rel => exact ⟨m, by go_num, by omega, hD2, HB⟩
                case measure => simp [intOf]; omega
              · have q4 : (y.kind == 4) = false := beq_eq_false_iff_ne.2 h4
                have hD2 : Hid (((ks.take n1).reverse.dropWhile (isBad t)).reverse = ks.take m1) := hidden (by
                  rw [hD.out, List.dropWhile_cons, if_neg (by rw [hbad.out, decide_eq_false h4]; decide), ← HTL.out, List.reverse_reverse])
                clear hD hbad
                have hm1z : m1 ≤ ks.length := by omega
                have hs0 : (0 : Int) ≤ (m1 : Int) := by omega
                have hs1 : (m1 : Int) ≤ (ks.length : Int) := by omega
                have hs2 : (ks.length : Int) ≤ (ck : Int) := by omega
                have hs3 : (m1 : Int) ≤ (ck : Int) := by omega
                have hE4 : Hid (res = decide (rowD g t (ks.take m1) [startIt g] = some [])) := hidden (by rw [hE3.out, hD2.out])
                have HRd := hidden (rd_take HKK.out (i := m1) (by omega))
                have hlt : (ks.take m1).length = m1 := by rw [List.length_take]; omega
                have HRw2 := hidden (fun vi w' (hb : Below w1.heap.size w1 w') (HI : Rd w' (Old w') 4 vi [startIt g].length ([startIt g].flatMap itCells)) => HRw.out _ vi m1 w' (hb1.trans (hb.mono hb1.size)) (by rw [hlt, ← ints_take]; exact Rd.old HRd.out (hb1.trans (hb.mono hb1.size))) HI)
                generalize decide (rowD g t (ks.take m1) [startIt g] = some []) = rs at *
                obtain ⟨x0, x1, x2, x3, x4, x5, x6, x7⟩ := eightR (HB1.out.below HB.out HB1.out.lt)
                have hB := HB.out
                clear HRw hE3 hD2 HRd hlt HAt HC4 HND HKK HB
                go_wp2_with fail
                go_region_held3 (fun w' => w'.cell? ⟨w.heap.size, 0, none⟩ = some (.slice A1 g.toks.length k1) ∧ w'.cell? ⟨w.heap.size, 1, none⟩ = some (.slice A2 g.rules.length k2) ∧ w'.cell? ⟨w.heap.size, 2, none⟩ = some (.slice A3 g.prods.length k3) ∧ w'.cell? ⟨w.heap.size, 3, none⟩ = some (.int .i64 g.start) ∧ w'.cell? ⟨w.heap.size, 4, none⟩ = some (.int .i64 g.states) ∧ w'.cell? ⟨w.heap.size, 5, none⟩ = some (.int .i64 g.text) ∧ w'.cell? ⟨w.heap.size, 6, none⟩ = some (.int .i64 g.nodes) ∧ w'.cell? ⟨w.heap.size, 7, none⟩ = some (.int .i64 g.pairs) ∧ Below wr.heap.size wr w')
                  (first | exact ⟨x0, x1, x2, x3, x4, x5, x6, x7, Below.drew (Below.refl _ _)⟩ | exact ⟨cellF x0 (by first | exact ((Below.refl _ _).alloc (Nat.le_refl _) _).drew | exact (Below.refl _ _).drew.alloc (Nat.le_refl _) _ | exact (Below.refl _ _).alloc (Nat.le_refl _) _), cellF x1 (by first | exact ((Below.refl _ _).alloc (Nat.le_refl _) _).drew | exact (Below.refl _ _).drew.alloc (Nat.le_refl _) _ | exact (Below.refl _ _).alloc (Nat.le_refl _) _), cellF x2 (by first | exact ((Below.refl _ _).alloc (Nat.le_refl _) _).drew | exact (Below.refl _ _).drew.alloc (Nat.le_refl _) _ | exact (Below.refl _ _).alloc (Nat.le_refl _) _), cellF x3 (by first | exact ((Below.refl _ _).alloc (Nat.le_refl _) _).drew | exact (Below.refl _ _).drew.alloc (Nat.le_refl _) _ | exact (Below.refl _ _).alloc (Nat.le_refl _) _), cellF x4 (by first | exact ((Below.refl _ _).alloc (Nat.le_refl _) _).drew | exact (Below.refl _ _).drew.alloc (Nat.le_refl _) _ | exact (Below.refl _ _).alloc (Nat.le_refl _) _), cellF x5 (by first | exact ((Below.refl _ _).alloc (Nat.le_refl _) _).drew | exact (Below.refl _ _).drew.alloc (Nat.le_refl _) _ | exact (Below.refl _ _).alloc (Nat.le_refl _) _), cellF x6 (by first | exact ((Below.refl _ _).alloc (Nat.le_refl _) _).drew | exact (Below.refl _ _).drew.alloc (Nat.le_refl _) _ | exact (Below.refl _ _).alloc (Nat.le_refl _) _), cellF x7 (by first | exact ((Below.refl _ _).alloc (Nat.le_refl _) _).drew | exact (Below.refl _ _).drew.alloc (Nat.le_refl _) _ | exact (Below.refl _ _).alloc (Nat.le_refl _) _), (by first | exact ((Below.refl _ _).alloc (Nat.le_refl _) _).drew | exact (Below.refl _ _).drew.alloc (Nat.le_refl _) _ | exact (Below.refl _ _).alloc (Nat.le_refl _) _)⟩ | (go_split_ands; exact ⟨cell_more x0 (by (first | assumption | exact Below.drew (Below.refl _ _) | exact Below.refl _ _)) (by assumption), cell_more x1 (by (first | assumption | exact Below.drew (Below.refl _ _) | exact Below.refl _ _)) (by assumption), cell_more x2 (by (first | assumption | exact Below.drew (Below.refl _ _) | exact Below.refl _ _)) (by assumption), cell_more x3 (by (first | assumption | exact Below.drew (Below.refl _ _) | exact Below.refl _ _)) (by assumption), cell_more x4 (by (first | assumption | exact Below.drew (Below.refl _ _) | exact Below.refl _ _)) (by assumption), cell_more x5 (by (first | assumption | exact Below.drew (Below.refl _ _) | exact Below.refl _ _)) (by assumption), cell_more x6 (by (first | assumption | exact Below.drew (Below.refl _ _) | exact Below.refl _ _)) (by assumption), cell_more x7 (by (first | assumption | exact Below.drew (Below.refl _ _) | exact Below.refl _ _)) (by assumption), below_more (by (first | assumption | exact Below.drew (Below.refl _ _) | exact Below.refl _ _)) (by assumption)⟩))
                  ((go_at_call 46; go_split_ands; refine (HRw2.out _ _ (hB.trans (Below.mono (show Below wr.heap.size wr _ from (by first | exact ((Below.refl _ _).alloc (Nat.le_refl _) _).drew | exact (Below.refl _ _).drew.alloc (Nat.le_refl _) _ | exact (Below.refl _ _).alloc (Nat.le_refl _) _)) hB.size)) (by first | exact rd_lit' (Holds.new _ _ _) (by simp [Old]) rfl rfl (by decide) | exact rd_lit' (show Holds (World.drew (World.alloc _ _)) _ _ _ from Holds.new _ _ _) (by simp [Old]) rfl rfl (by decide))).mono ?_; rintro e w6 ⟨rfl, hb6⟩))
                all_goals
                  have hb9 : Below wr.heap.size wr w6 := by go_split_ands; assumption
                  have hbf := hb1.trans ((hB.trans (hb9.mono hB.size)).mono hb1.size)
                  clear HRw2 x0 x1 x2 x3 x4 x5 x6 x7 hB hb6 hb9
                  go_wp2
                  go_ret
                  exact ⟨by rw [hE4.out]; rfl, hbf⟩
        · have qt : x.text.toList.isEmpty = false := text_ne htx
          have he : Hid (res = false) := hidden (by rw [hE2.out, hend.out, decide_eq_false htx]; simp)
          clear hE2 hend HRw HAt HC4 HND HB1 HKK
          go_wp2
          go_ret
          exact ⟨by rw [he.out]; rfl, hb1⟩
      · have q2 : (x.n != -2) = true := by simpa using hm2
        have he : Hid (res = false) := hidden (by rw [hE2.out, hend.out, decide_eq_false hm2]; simp)
        clear hE2 hend HRw HAt HC4 HND HB1 HKK
        go_wp2
        go_ret
        exact ⟨by rw [he.out]; rfl, hb1⟩
    · have q3 : (x.kind != 3) = true := by simpa using h3
      have he : Hid (res = false) := hidden (by rw [hE2.out, hend.out, decide_eq_false h3]; simp)
      clear hE2 hend HRw HAt HC4 HND HB1 HKK
      go_wp2
      go_ret
      exact ⟨by rw [he.out]; rfl, hb1⟩

set_option maxRecDepth 20000 in
set_option maxHeartbeats 16000000 in
theorem ref_fits30 (a b c v : Value) (g : Gram) (t : List Node) (i : Nat) (w : World) (HG : GramIs w (Old w) a b c g) (hsm : Small g) (hr : rightB g = true) (HN : Nds w (Old w) v t) (ht : Tree t) (hi : i < t.length) (h4 : t.length ≤ 1000000) :
    Calls Try.prog 30 #[.agg (gramCells a b c g), v, .int .i64 (i : Int)] w fun r w' => r = .returned (.bool (fitsD g t i)) ∧ Below w.heap.size w w' := by
  have hkz := kidsL_len (t := t) i
  have htn := (tree_node ht hi).2.1
  have HKd := hidden (fun (w' : World) (hb : Below w.heap.size w w') => (show Calls Try.prog 44 #[v, .int .i64 (i : Int)] w' fun r w'' => (∃ u, r = .returned u ∧ Hid (Mine w'' w'.heap.size 3 1 u (kidsL t i).length (ints (kidsL t i)))) ∧ Below w'.heap.size w' w'' from by
    have := ref_kids v t (i : Int) w' (by omega) (HN.old hb)
    rwa [kidsD_at ht hi] at this))
  have HDc := hidden (fun (vk : Value) (w' : World) (hb : Below w.heap.size w w') (HK : Rd w' (Old w') 1 vk (kidsL t i).length (ints (kidsL t i))) => ref_doc30 a b c v vk g t (kidsL t i) w' (HG.old hb) hsm hr (HN.old hb) HK (fun k hk => kidD_lt ht hi hk) (by omega))
  have HRw := hidden (fun (vk vi : Value) (its : List Item) (w' : World) (hb : Below w.heap.size w w') (HK : Rd w' (Old w') 1 vk (kidsL t i).length (ints (kidsL t i))) (HI : Rd w' (Old w') 4 vi its.length (its.flatMap itCells)) =>
    ref_row30 a b c v vk vi g t (kidsL t i) its w' (HG.old hb) hsm hr (HN.old hb) HK (fun k hk => kidD_lt ht hi hk) (by omega) HI)
  have HG2 := hidden HG
  obtain ⟨x, hx⟩ : ∃ x, t[i]? = some x := ⟨_, List.getElem?_eq_getElem hi⟩
  obtain ⟨hk1, hk6, _, _, _⟩ := tree_local ht hx
  have hE : Hid (fitsD g t i = (if x.kind = 1 then decide (i = 0) && (decide (x.n = 0) && docD g t (kidsL t i))
    else if x.kind = 2 then decide (0 ≤ x.n) && (match g.prods[x.n.toNat]? with | some p => decide (rowD g t (kidsL t i) p.right = some []) | none => false)
    else if x.kind = 3 then decide (x.n = -2) || (decide (0 ≤ x.n) && decide (x.n < g.toks.length))
    else if x.kind = 4 then true
    else if x.kind = 5 then decide (0 ≤ x.n) && decide (x.n < g.toks.length)
    else decide (0 ≤ x.n) && decide (x.n < g.rules.length))) := hidden (by unfold fitsD; rw [hx]; rfl)
  generalize fitsD g t i = res at *
  obtain ⟨bt, ot, ct, rfl, hct1, hct2, hTt, hat⟩ := HN.open_ (by intro e; rw [e] at hi; simp at hi)
  obtain ⟨l, z0, z1, z2, z3, z4, hPc⟩ := hat i x hx
  obtain ⟨Al, cl, rfl, _, _⟩ := Rd.val hPc
  generalize hll : x.lead.length = nl at *
  clear hll hPc
  obtain ⟨⟨A1, k1, rfl, v1, m1⟩, ⟨A2, k2, rfl, v2, m2⟩, ⟨A3, k3, rfl, v3, m3⟩⟩ := HG.vals
  obtain ⟨kd, n, sz_, ld, tx⟩ := x
  unfold gramCells at *
  unfold maxLen at m1 m2 m3
  dsimp only at *
  have hqi : (i : Int) < (t.length : Int) := by omega
  have hb1 : Below w.heap.size w ((w.alloc (.cells #[.slice A1 g.toks.length k1, .slice A2 g.rules.length k2, .slice A3 g.prods.length k3, .int .i64 g.start, .int .i64 g.states, .int .i64 g.text, .int .i64 g.nodes, .int .i64 g.pairs] 26)).alloc (.cells #[.int .i64 kd, .int .i64 n, .int .i64 sz_, .slice Al nl cl, .string tx] 37)) := ((Below.refl _ _).alloc (Nat.le_refl _) _).alloc (by simp) _
  have HB1 : Hid (Holds ((w.alloc (.cells #[.slice A1 g.toks.length k1, .slice A2 g.rules.length k2, .slice A3 g.prods.length k3, .int .i64 g.start, .int .i64 g.states, .int .i64 g.text, .int .i64 g.nodes, .int .i64 g.pairs] 26)).alloc (.cells #[.int .i64 kd, .int .i64 n, .int .i64 sz_, .slice Al nl cl, .string tx] 37)) w.heap.size 26 #[.slice A1 g.toks.length k1, .slice A2 g.rules.length k2, .slice A3 g.prods.length k3, .int .i64 g.start, .int .i64 g.states, .int .i64 g.text, .int .i64 g.nodes, .int .i64 g.pairs]) := hidden (by repeat (first | (with_reducible assumption) | ((with_reducible refine holds_new ?_); (focus (first | rfl | (simp; done)))) | (with_reducible refine Holds.alloc ?_ _) | (with_reducible refine Holds.drew ?_)))
  have HB2 : Hid (Holds ((w.alloc (.cells #[.slice A1 g.toks.length k1, .slice A2 g.rules.length k2, .slice A3 g.prods.length k3, .int .i64 g.start, .int .i64 g.states, .int .i64 g.text, .int .i64 g.nodes, .int .i64 g.pairs] 26)).alloc (.cells #[.int .i64 kd, .int .i64 n, .int .i64 sz_, .slice Al nl cl, .string tx] 37)) (w.heap.size + 1) 37 #[.int .i64 kd, .int .i64 n, .int .i64 sz_, .slice Al nl cl, .string tx]) := hidden (Holds.new_at (by simp))
  clear HG HN hat hx
  have u0 := cellF z0 ((Below.refl _ _).alloc (Nat.le_refl _) (.cells #[.slice A1 g.toks.length k1, .slice A2 g.rules.length k2, .slice A3 g.prods.length k3, .int .i64 g.start, .int .i64 g.states, .int .i64 g.text, .int .i64 g.nodes, .int .i64 g.pairs] 26)); have u1 := cellF z1 ((Below.refl _ _).alloc (Nat.le_refl _) (.cells #[.slice A1 g.toks.length k1, .slice A2 g.rules.length k2, .slice A3 g.prods.length k3, .int .i64 g.start, .int .i64 g.states, .int .i64 g.text, .int .i64 g.nodes, .int .i64 g.pairs] 26)); have u2 := cellF z2 ((Below.refl _ _).alloc (Nat.le_refl _) (.cells #[.slice A1 g.toks.length k1, .slice A2 g.rules.length k2, .slice A3 g.prods.length k3, .int .i64 g.start, .int .i64 g.states, .int .i64 g.text, .int .i64 g.nodes, .int .i64 g.pairs] 26)); have u3 := cellF z3 ((Below.refl _ _).alloc (Nat.le_refl _) (.cells #[.slice A1 g.toks.length k1, .slice A2 g.rules.length k2, .slice A3 g.prods.length k3, .int .i64 g.start, .int .i64 g.states, .int .i64 g.text, .int .i64 g.nodes, .int .i64 g.pairs] 26)); have u4 := cellF z4 ((Below.refl _ _).alloc (Nat.le_refl _) (.cells #[.slice A1 g.toks.length k1, .slice A2 g.rules.length k2, .slice A3 g.prods.length k3, .int .i64 g.start, .int .i64 g.states, .int .i64 g.text, .int .i64 g.nodes, .int .i64 g.pairs] 26))
  clear z0 z1 z2 z3 z4
  go_enter Try.func30, Try.ntmps30
  go_upto_region 2 with fail
  clear u0 u1 u2 u3 u4
  generalize ((w.alloc (.cells #[.slice A1 g.toks.length k1, .slice A2 g.rules.length k2, .slice A3 g.prods.length k3, .int .i64 g.start, .int .i64 g.states, .int .i64 g.text, .int .i64 g.nodes, .int .i64 g.pairs] 26)).alloc (.cells #[.int .i64 kd, .int .i64 n, .int .i64 sz_, .slice Al nl cl, .string tx] 37)) = w1 at *
  have HX := hidden (HKd.out _ hb1)
  go_wp2_with fail
  refine HX.out.mono ?_
  rintro r w2 ⟨⟨u, rfl, HM⟩, hb2⟩
  replace HB1 := hidden (HB1.out.below hb2 HB1.out.lt)
  replace HB2 := hidden (HB2.out.below hb2 HB2.out.lt)
  replace hb1 := hb1.trans (hb2.mono hb1.size)
  have HKs := hidden (ints_rd HM.out)
  obtain ⟨Au, cu, rfl⟩ := HM.out.value
  clear HM hb2 HX HKd
  obtain ⟨x0, x1, x2, x3, x4, x5, x6, x7⟩ := eightR HB1.out
  have y0 := HB2.out.cell 0; have y1 := HB2.out.cell 1
  have hz1 := hb1.size
  have hkk : kd = 1 ∨ kd = 2 ∨ kd = 3 ∨ kd = 4 ∨ kd = 5 ∨ kd = 6 := by omega
  clear hk1 hk6
  rcases hkk with rfl | rfl | rfl | rfl | rfl | rfl
  · by_cases h0 : i = 0
    · have q0 : ((i : Int) == 0) = true := by rw [h0]; rfl
      by_cases hn : n = 0
      · subst hn
        have hE2 : Hid (res = docD g t (kidsL t i)) := hidden (by rw [hE.out, if_pos rfl, decide_eq_true h0]; rfl)
        have HX := hidden (HDc.out _ _ hb1 HKs.out)
        generalize docD g t (kidsL t i) = dd at *
        generalize (kidsL t i).length = kl at *
        clear hE HDc HRw HG2 HKs h0
        go_wp2_with fail
        refine HX.out.mono ?_
        rintro r w3 ⟨rfl, hb3⟩
        replace hb1 := hb1.trans (hb3.mono hz1)
        clear hb3 HX x0 x1 x2 x3 x4 x5 x6 x7 y0 y1 hz1
        go_wp2
        go_ret
        exact ⟨by rw [hE2.out]; rfl, hb1⟩
      · have q1 : (n == 0) = false := beq_eq_false_iff_ne.2 hn
        have he : Hid (res = false) := hidden (by rw [hE.out, if_pos rfl]; rw [decide_eq_false hn]; simp)
        clear hE HDc HRw HG2 HKs
        go_wp2
        go_ret
        exact ⟨by rw [he.out]; rfl, hb1⟩
    · have q0 : ((i : Int) == 0) = false := beq_eq_false_iff_ne.2 (by omega)
      have he : Hid (res = false) := hidden (by rw [hE.out, if_pos rfl]; rw [decide_eq_false h0]; rfl)
      clear hE HDc HRw HG2 HKs
      go_wp2
      go_ret
      exact ⟨by rw [he.out]; rfl, hb1⟩
  · by_cases h0 : n < 0
    · have q0 : decide (0 ≤ n) = false := decide_eq_false (by omega)
      have he : Hid (res = false) := hidden (by rw [hE.out, if_neg (by decide), if_pos rfl]; rw [q0]; rfl)
      clear hE HDc HRw HG2 HKs
      have e0 := Ext.cell x0
      have e1 := Ext.cell x1
      have e2 := Ext.cell x2
      have e3 := Ext.cell x3
      have e4 := Ext.cell x4
      have e5 := Ext.cell x5
      have e6 := Ext.cell x6
      have e7 := Ext.cell x7
      have e8 := Ext.cell y0
      have e9 := Ext.cell y1
      go_wp2_with fail
      refine wp_region_ext (by kernel_rfl) (by kernel_rfl) ?_
      repeat (go_big_quiet_step (fail))
      refine wpQuiet_nil ?_
      intro w3 hb3
      replace hb1 := hb1.trans (hb3.mono hz1)
      clear hb3 hz1 e0 e1 e2 e3 e4 e5 e6 e7 e8 e9 x0 x1 x2 x3 x4 x5 x6 x7 y0 y1
      go_wp2
      go_ret
      exact ⟨by rw [he.out]; rfl, hb1⟩
    · have q0 : decide (0 ≤ n) = true := decide_eq_true (by omega)
      obtain ⟨m, rfl⟩ : ∃ m : Nat, n = (m : Int) := ⟨n.toNat, by omega⟩
      by_cases hm : m < g.prods.length
      · have q1 : decide ((m : Int) < (g.prods.length : Int)) = true := decide_eq_true (by omega)
        have qm : (m : Int) < (g.prods.length : Int) := by omega
        have hpx := List.getElem?_eq_getElem hm
        generalize g.prods[m] = p at *
        have hE2 : Hid (res = decide (rowD g t (kidsL t i) p.right = some [])) := hidden (by rw [hE.out, if_neg (by decide), if_pos rfl, Int.toNat_natCast, hpx, q0]; rfl)
        obtain ⟨bp, op, up, e7, _, hpat, hpin⟩ := Recs.at_ HG2.out.2.2 hpx
        subst e7
        have p1 := hpat 1 _ rfl
        have hpin2 : Rd w (Old w) 4 up p.right.length (p.right.flatMap itCells) := hpin
        obtain ⟨Ar, cr, rfl, _, _⟩ := hpin2.val
        have p2 : w.cell? ⟨bp, op + m * 2 + 1, none⟩ = some (.slice Ar p.right.length cr) := p1
        replace p2 := cellF p2 hb1
        have HRw3 := hidden (fun w' (hb : Below w2.heap.size w2 w') => HRw.out _ _ p.right w' (hb1.trans (hb.mono hz1)) (Rd.old HKs.out hb) (Rd.old hpin2 (hb1.trans (hb.mono hz1))))
        clear hpat hpin hpin2 p1 hE HDc HRw HG2 hpx
        generalize decide (rowD g t (kidsL t i) p.right = some []) = rs at *
        clear HKs
        have e0 := Ext.cell x0
        have e1 := Ext.cell x1
        have e2 := Ext.cell x2
        have e3 := Ext.cell x3
        have e4 := Ext.cell x4
        have e5 := Ext.cell x5
        have e6 := Ext.cell x6
        have e7 := Ext.cell x7
        have e8 := Ext.cell y0
        have e9 := Ext.cell y1
        have e10 := Ext.cell p2
        go_wp2_with fail
        refine wp_region_ext (by kernel_rfl) (by kernel_rfl) ?_
        repeat (go_big_quiet_step ((go_at_call 46; exact Ext.call (HRw3.out _ (Ext.below _)))))
        refine wpQuiet_nil ?_
        intro w3 hb3
        replace hb1 := hb1.trans (hb3.mono hz1)
        clear hb3 hz1 e0 e1 e2 e3 e4 e5 e6 e7 e8 e9 x0 x1 x2 x3 x4 x5 x6 x7 y0 y1 e10 p2
        go_wp2
        go_ret
        exact ⟨by rw [hE2.out]; rfl, hb1⟩
      · have q1 : decide ((m : Int) < (g.prods.length : Int)) = false := decide_eq_false (by omega)
        have he : Hid (res = false) := hidden (by rw [hE.out, if_neg (by decide), if_pos rfl]; rw [Int.toNat_natCast, List.getElem?_eq_none (by omega)]; simp)
        clear hE HDc HRw HG2 HKs
        have e0 := Ext.cell x0
        have e1 := Ext.cell x1
        have e2 := Ext.cell x2
        have e3 := Ext.cell x3
        have e4 := Ext.cell x4
        have e5 := Ext.cell x5
        have e6 := Ext.cell x6
        have e7 := Ext.cell x7
        have e8 := Ext.cell y0
        have e9 := Ext.cell y1
        go_wp2_with fail
        refine wp_region_ext (by kernel_rfl) (by kernel_rfl) ?_
        repeat (go_big_quiet_step (fail))
        refine wpQuiet_nil ?_
        intro w3 hb3
        replace hb1 := hb1.trans (hb3.mono hz1)
        clear hb3 hz1 e0 e1 e2 e3 e4 e5 e6 e7 e8 e9 x0 x1 x2 x3 x4 x5 x6 x7 y0 y1
        go_wp2
        go_ret
        exact ⟨by rw [he.out]; rfl, hb1⟩
  · by_cases h2 : n = -2
    · subst h2
      have he : Hid (res = true) := hidden (by rw [hE.out, if_neg (by decide), if_neg (by decide), if_pos rfl]; simp)
      clear hE HDc HRw HG2 HKs
      go_wp2
      go_ret
      exact ⟨by rw [he.out]; rfl, hb1⟩
    · have q2 : (n == -2) = false := beq_eq_false_iff_ne.2 h2
      by_cases h0 : 0 ≤ n
      · have q0 : decide (0 ≤ n) = true := decide_eq_true h0
        by_cases h1 : n < g.toks.length
        · have q1 : decide (n < (g.toks.length : Int)) = true := decide_eq_true h1
          have he : Hid (res = true) := hidden (by rw [hE.out, if_neg (by decide), if_neg (by decide), if_pos rfl]; rw [decide_eq_false h2, Bool.false_or]; rw [q0, q1]; rfl)
          clear hE HDc HRw HG2 HKs
          go_wp2
          go_ret
          exact ⟨by rw [he.out]; rfl, hb1⟩
        · have q1 : decide (n < (g.toks.length : Int)) = false := decide_eq_false h1
          have he : Hid (res = false) := hidden (by rw [hE.out, if_neg (by decide), if_neg (by decide), if_pos rfl]; rw [decide_eq_false h2, Bool.false_or]; rw [q0, q1]; rfl)
          clear hE HDc HRw HG2 HKs
          go_wp2
          go_ret
          exact ⟨by rw [he.out]; rfl, hb1⟩
      · have q0 : decide (0 ≤ n) = false := decide_eq_false h0
        have he : Hid (res = false) := hidden (by rw [hE.out, if_neg (by decide), if_neg (by decide), if_pos rfl]; rw [decide_eq_false h2, Bool.false_or]; rw [q0]; rfl)
        clear hE HDc HRw HG2 HKs
        go_wp2
        go_ret
        exact ⟨by rw [he.out]; rfl, hb1⟩
  · have he : Hid (res = true) := hidden (by rw [hE.out, if_neg (by decide), if_neg (by decide), if_neg (by decide), if_pos rfl])
    clear hE HDc HRw HG2 HKs
    go_wp2
    go_ret
    exact ⟨by rw [he.out]; rfl, hb1⟩
  · by_cases h0 : 0 ≤ n
    · have q0 : decide (0 ≤ n) = true := decide_eq_true h0
      by_cases h1 : n < g.toks.length
      · have q1 : decide (n < (g.toks.length : Int)) = true := decide_eq_true h1
        have he : Hid (res = true) := hidden (by rw [hE.out, if_neg (by decide), if_neg (by decide), if_neg (by decide), if_neg (by decide), if_pos rfl]; rw [q0, q1]; rfl)
        clear hE HDc HRw HG2 HKs
        go_wp2
        go_ret
        exact ⟨by rw [he.out]; rfl, hb1⟩
      · have q1 : decide (n < (g.toks.length : Int)) = false := decide_eq_false h1
        have he : Hid (res = false) := hidden (by rw [hE.out, if_neg (by decide), if_neg (by decide), if_neg (by decide), if_neg (by decide), if_pos rfl]; rw [q0, q1]; rfl)
        clear hE HDc HRw HG2 HKs
        go_wp2
        go_ret
        exact ⟨by rw [he.out]; rfl, hb1⟩
    · have q0 : decide (0 ≤ n) = false := decide_eq_false h0
      have he : Hid (res = false) := hidden (by rw [hE.out, if_neg (by decide), if_neg (by decide), if_neg (by decide), if_neg (by decide), if_pos rfl]; rw [q0]; rfl)
      clear hE HDc HRw HG2 HKs
      go_wp2
      go_ret
      exact ⟨by rw [he.out]; rfl, hb1⟩
  · by_cases h0 : 0 ≤ n
    · have q0 : decide (0 ≤ n) = true := decide_eq_true h0
      by_cases h1 : n < g.rules.length
      · have q1 : decide (n < (g.rules.length : Int)) = true := decide_eq_true h1
        have he : Hid (res = true) := hidden (by rw [hE.out, if_neg (by decide), if_neg (by decide), if_neg (by decide), if_neg (by decide), if_neg (by decide)]; rw [q0, q1]; rfl)
        clear hE HDc HRw HG2 HKs
        go_wp2
        go_ret
        exact ⟨by rw [he.out]; rfl, hb1⟩
      · have q1 : decide (n < (g.rules.length : Int)) = false := decide_eq_false h1
        have he : Hid (res = false) := hidden (by rw [hE.out, if_neg (by decide), if_neg (by decide), if_neg (by decide), if_neg (by decide), if_neg (by decide)]; rw [q0, q1]; rfl)
        clear hE HDc HRw HG2 HKs
        go_wp2
        go_ret
        exact ⟨by rw [he.out]; rfl, hb1⟩
    · have q0 : decide (0 ≤ n) = false := decide_eq_false h0
      have he : Hid (res = false) := hidden (by rw [hE.out, if_neg (by decide), if_neg (by decide), if_neg (by decide), if_neg (by decide), if_neg (by decide)]; rw [q0]; rfl)
      clear hE HDc HRw HG2 HKs
      go_wp2
      go_ret
      exact ⟨by rw [he.out]; rfl, hb1⟩
end Go.Proofs.Ytmmhkjdnejeooaa.T
