/-
  facsimileref18.prod, Of.
-/
import Derived.Test.YtaagkbgbghleiaaGramItem
import Derived.Test.YtaagkbgbghleiaaGramTok
namespace Go.Proofs.Ytaagkbgbghleiaa
open Go.RowKit Go.Shelf

theorem Holds.two {w : World} {g : Nat} {t : TypeId} {a b : Value} (h : Holds w g t #[a, b]) : w.cell? ⟨g, 0, none⟩ = some a ∧ w.cell? ⟨g, 1, none⟩ = some b := ⟨h.cell 0, h.cell 1⟩
theorem Holds.three {w : World} {g : Nat} {t : TypeId} {a b c : Value} (h : Holds w g t #[a, b, c]) : w.cell? ⟨g, 0, none⟩ = some a ∧ w.cell? ⟨g, 1, none⟩ = some b ∧ w.cell? ⟨g, 2, none⟩ = some c ∧
    w.frozen? ⟨g, 0, none⟩ = false ∧ w.frozen? ⟨g, 1, none⟩ = false ∧ w.frozen? ⟨g, 2, none⟩ = false := ⟨h.cell 0, h.cell 1, h.cell 2, h.frozen 0, h.frozen 1, h.frozen 2⟩

set_option maxRecDepth 20000 in
set_option maxHeartbeats 4000000 in
theorem ref_prod (a b c : Value) (g : Gram) (i : Nat) (w : World) (HG : GramIs w (Old w) a b c g) (hi : i < g.prods.length) :
    Calls Try.prog 76 #[.agg (gramCells a b c g), .int .i64 (i : Int)] w fun r w' => r = .returned (defC (prodD g i)) ∧ Below w.heap.size w w' := by
  have hx := List.getElem?_eq_getElem hi
  generalize g.prods[i] = p at *
  have HGo := hidden (fun (w' : World) (hb : Below w.heap.size w w') => HG.old hb)
  have HIt := hidden (fun (w' : World) (hb : Below w.heap.size w w') (x : Item) => ref_item a b c g x w' (HG.old hb))
  unfold prodD
  rw [hx]
  dsimp only
  unfold prodErr
  obtain ⟨⟨A1, k1, rfl, v1, m1⟩, ⟨A2, k2, rfl, v2, m2⟩, ⟨A3, k3, rfl, v3, m3⟩⟩ := HG.vals
  obtain ⟨b1, o1, l1, rfl, hT, hat, hrt⟩ := HG.2.2.at_ hx
  have y0 := hat 0 _ rfl
  have y1 := hat 1 _ rfl
  rw [Nat.add_zero] at y0
  rw [show prodR.k = 2 from rfl] at y0 y1
  have hrt : Rd w (Old w) 4 l1 p.right.length (p.right.flatMap itCells) := hrt
  obtain ⟨A4, k4, rfl, v4, m4⟩ := hrt.val
  have HRt := hidden (fun (w' : World) (hb : Below w.heap.size w w') => hrt.old hb)
  have hT : b1 < w.heap.size := hT
  have hb : Below w.heap.size w w := Below.refl _ _
  clear hat hx HG hrt
  obtain ⟨le, ri⟩ := p
  dsimp only at *
  unfold gramCells maxLen at *
  by_cases h1 : le < 0
  · rw [if_pos (Or.inl h1)]
    go_enter Try.func76, Try.ntmps76
    go_wp2
    exact bodyPost_ret (v := defC ⟨11, i, 0⟩) (by simp [results, Try.results76, go_sem, defC]) rfl ⟨by first | rfl | rw [HE.out], (by repeat (first | (with_reducible exact Below.refl _ _) | (with_reducible assumption) | (with_reducible refine Below.drew ?_) | ((with_reducible refine below_alloc ?_ ?_); (focus (first | omega | (simp; done) | (simp; omega)))) | ((with_reducible refine below_set ?_ ?_); (focus (first | omega | (simp; done) | (simp; omega))))))⟩
  by_cases h2 : (g.rules.length : Int) ≤ le
  · rw [if_pos (Or.inr h2)]
    go_enter Try.func76, Try.ntmps76
    go_wp2
    exact bodyPost_ret (v := defC ⟨11, i, 0⟩) (by simp [results, Try.results76, go_sem, defC]) rfl ⟨by first | rfl | rw [HE.out], (by repeat (first | (with_reducible exact Below.refl _ _) | (with_reducible assumption) | (with_reducible refine Below.drew ?_) | ((with_reducible refine below_alloc ?_ ?_); (focus (first | omega | (simp; done) | (simp; omega)))) | ((with_reducible refine below_set ?_ ?_); (focus (first | omega | (simp; done) | (simp; omega))))))⟩
  rw [if_neg (by omega)]
  by_cases h3 : 16 < ri.length
  · rw [if_pos h3]
    go_enter Try.func76, Try.ntmps76
    go_wp2
    exact bodyPost_ret (v := defC ⟨4, i, 0⟩) (by simp [results, Try.results76, go_sem, defC]) rfl ⟨by first | rfl | rw [HE.out], (by repeat (first | (with_reducible exact Below.refl _ _) | (with_reducible assumption) | (with_reducible refine Below.drew ?_) | ((with_reducible refine below_alloc ?_ ?_); (focus (first | omega | (simp; done) | (simp; omega)))) | ((with_reducible refine below_set ?_ ?_); (focus (first | omega | (simp; done) | (simp; omega))))))⟩
  rw [if_neg h3]
  have HH : Hid (∀ k x, ri[k]? = some x → itemErr g x ≠ 0 → (∀ j, j < k → (itemD g i ri j).kind = 0) → firstD (itemD g i ri) 0 ri.length = ⟨itemErr g x, i, (k : Int) + 1⟩) := hidden (fun k x hx he hn => by
    have e : itemD g i ri k = ⟨itemErr g x, i, (k : Int) + 1⟩ := by unfold itemD; rw [hx]; dsimp only; rw [if_pos he]
    rw [first0_hit (List.getElem?_eq_some_iff.1 hx).1 (by rw [e]; exact he) hn, e])
  have HMs : Hid ((∀ j, j < ri.length → (itemD g i ri j).kind = 0) → firstD (itemD g i ri) 0 ri.length = ⟨0, 0, 0⟩) := hidden (fun h => first0_miss h)
  have HZ : Hid (∀ k x, ri[k]? = some x → itemErr g x = 0 → (itemD g i ri k).kind = 0) := hidden (fun k x hx he => by
    unfold itemD; rw [hx]; dsimp only; rw [if_neg (by simp [he])]; rfl)
  generalize firstD (itemD g i ri) 0 ri.length = d at *
  go_enter Try.func76, Try.ntmps76
  go_wp2
  go_loopw [6] (fun ii wr => ∃ k : Nat, k ≤ ri.length ∧ ii = .int .i64 k ∧ Hid (∀ j, j < k → (itemD g i ri j).kind = 0) ∧ Below w.heap.size w wr ∧ w.heap.size + 3 ≤ wr.heap.size
    ∧ Hid (Holds wr w.heap.size 36 #[.slice A1 g.toks.length k1, .slice A2 g.rules.length k2, .slice (some ⟨b1, o1, none⟩) g.prods.length k3, .int .i64 g.start, .int .i64 g.states, .int .i64 g.text, .int .i64 g.nodes, .int .i64 g.pairs])
    ∧ Hid (Holds wr (w.heap.size + 1) 40 #[.int .i64 0, .int .i64 0, .int .i64 0]) ∧ Hid (Holds wr (w.heap.size + 1 + 1) 56 #[.int .i64 le, .slice A4 ri.length k4])) (fun ii _ => ri.length - (intOf ii).toNat)
  case atStart => exact ⟨0, by omega, rfl, hidden (fun j h => by omega), (by repeat (first | (with_reducible exact Below.refl _ _) | (with_reducible assumption) | (with_reducible refine Below.drew ?_) | ((with_reducible refine below_alloc ?_ ?_); (focus (first | omega | (simp; done) | (simp; omega)))) | ((with_reducible refine below_set ?_ ?_); (focus (first | omega | (simp; done) | (simp; omega)))))), by simp, hidden (by repeat (first | (with_reducible assumption) | ((with_reducible refine holds_new ?_); (focus (first | rfl | (simp; done)))) | (with_reducible refine Holds.alloc ?_ _) | (with_reducible refine Holds.drew ?_))), hidden (by repeat (first | (with_reducible assumption) | ((with_reducible refine holds_new ?_); (focus (first | rfl | (simp; done)))) | (with_reducible refine Holds.alloc ?_ _) | (with_reducible refine Holds.drew ?_))), hidden (by repeat (first | (with_reducible assumption) | ((with_reducible refine holds_new ?_); (focus (first | rfl | (simp; done)))) | (with_reducible refine Holds.alloc ?_ _) | (with_reducible refine Holds.drew ?_)))⟩
  case round =>
    clear hb
    obtain ⟨k, hk, rfl, HN, hb, z, H2, H4, H5⟩ := hrel
    obtain ⟨x0, x1, x2, x3, x4, x5, x6, x7⟩ := gram_cells H2.out
    obtain ⟨p0, p1⟩ := H5.out.two
    obtain ⟨r0, r1, r2, s0, s1, s2⟩ := H4.out.three
    by_cases hlt : k < ri.length
    · have hx := List.getElem?_eq_getElem hlt
      generalize ri[k] = x at *
      obtain ⟨b3, o3, rfl, hT3, hat⟩ := (HRt.out _ hb).flat_at (fun _ => rfl) (by decide) hx
      have hT3 : b3 < wr.heap.size := hT3
      have i0 := hat 0 _ rfl
      have i1 := hat 1 _ rfl
      have i2 := hat 2 _ rfl
      have i3 := hat 3 _ rfl
      rw [Nat.add_zero] at i0
      have HHx := hidden (HH.out k x hx)
      have HZx := hidden (HZ.out k x hx)
      have HItx := hidden (fun (y : Ext wr) => HIt.out y.w (hb.trans (y.below.mono hb.size)) x)
      clear hat hx
      have e0 := Ext.cell x0; have e1 := Ext.cell x1; have e2 := Ext.cell x2; have e3 := Ext.cell x3; have e4 := Ext.cell x4; have e5 := Ext.cell x5; have e6 := Ext.cell x6; have e7 := Ext.cell x7
      have f0 := Ext.cell p0; have f1 := Ext.cell p1
      have g0 := Ext.cell i0; have g1 := Ext.cell i1; have g2 := Ext.cell i2; have g3 := Ext.cell i3
      go_wp2_with fail
      refine wp_region_ext (by kernel_rfl) (by kernel_rfl) ?_
      repeat (go_big_quiet_step ((go_at_call 110; exact Ext.call (HItx.out _))))
      refine wpQuiet_nil ?_
      intro w2 hb2
      clear e0 e1 e2 e3 e4 e5 e6 e7 f0 f1 g0 g1 g2 g3 HItx
      replace hb := hb.trans (hb2.mono hb.size)
      replace H2 := hidden (H2.out.below hb2 (by omega))
      replace H4 := hidden (H4.out.below hb2 (by omega))
      replace H5 := hidden (H5.out.below hb2 (by omega))
      have z2 := hb2.size
      clear x0 x1 x2 x3 x4 x5 x6 x7 p0 p1 i0 i1 i2 i3 hb2 r0 r1 r2 s0 s1 s2
      obtain ⟨r0, r1, r2, s0, s1, s2⟩ := H4.out.three
      generalize itemErr g x = e at *
      by_cases he : e = 0
      · subst he
        have HN2 : Hid (∀ j, j < k + 1 → (itemD g i ri j).kind = 0) := hidden (fun j hj => by
          by_cases ej : j = k
          · subst ej; exact HZx.out rfl
          · exact HN.out j (by omega))
        clear HN HHx HZx
        go_wp2
        go_roundw
        case rel => exact ⟨k + 1, by omega, by go_num, HN2, hb, by omega, H2, H4, H5⟩
        case measure => simp [intOf]; omega
      · have HE := hidden (HHx.out he HN.out)
        have q : (e != 0) = true := by rw [bne_iff_ne]; exact he
        clear HN HHx HZx HH
        go_wp2
        exact bodyPost_ret (v := defC ⟨e, i, (k : Int) + 1⟩) (by simp [results, Try.results76, go_sem, defC, r0, r1, r2]) rfl ⟨by first | rfl | rw [HE.out], (by repeat (first | (with_reducible exact Below.refl _ _) | (with_reducible assumption) | (with_reducible refine Below.drew ?_) | ((with_reducible refine below_alloc ?_ ?_); (focus (first | omega | (simp; done) | (simp; omega)))) | ((with_reducible refine below_set ?_ ?_); (focus (first | omega | (simp; done) | (simp; omega))))))⟩
    · obtain rfl : k = ri.length := by omega
      have HE := hidden (HMs.out HN.out)
      go_wp2
      exact bodyPost_ret (v := defC ⟨0, 0, 0⟩) (by simp [results, Try.results76, go_sem, defC, r0, r1, r2]) rfl ⟨by first | rfl | rw [HE.out], (by repeat (first | (with_reducible exact Below.refl _ _) | (with_reducible assumption) | (with_reducible refine Below.drew ?_) | ((with_reducible refine below_alloc ?_ ?_); (focus (first | omega | (simp; done) | (simp; omega)))) | ((with_reducible refine below_set ?_ ?_); (focus (first | omega | (simp; done) | (simp; omega))))))⟩

set_option maxRecDepth 20000 in
set_option maxHeartbeats 4000000 in
theorem ref_Of18 (a b c : Value) (g : Gram) (r : Int) (w : World) (HG : GramIs w (Old w) a b c g) (h3 : g.prods.length ≤ 100000) :
    Calls Try.prog 40 #[.agg (gramCells a b c g), .int .i64 r] w fun e w' => (∃ u, e = .returned u ∧ Hid (IntsM w' w.heap.size u (ofRule g r))) ∧ Below w.heap.size w w' := by
  have HGo := hidden (fun (w' : World) (hb : Below w.heap.size w w') => HG.old hb)
  obtain ⟨⟨A1, k1, rfl, v1, m1⟩, ⟨A2, k2, rfl, v2, m2⟩, ⟨A3, k3, rfl, v3, m3⟩⟩ := HG.vals
  unfold gramCells at *
  have HS := hidden (fun (k : Nat) (p : Prod) (h : g.prods[k]? = some p) => ofUpto_snoc (r := r) h)
  have HL := hidden (ofUpto_len g r)
  have HD : Hid (ofUpto g r g.prods.length = ofRule g r) := hidden rfl
  clear HG
  go_enter Try.func40, Try.ntmps40
  go_wp2
  go_loopw [5, 6] (fun vv ii wr => ∃ k : Nat, k ≤ g.prods.length ∧ ii = .int .i64 k ∧ Hid (IntsM wr (w.heap.size + 1) vv (ofUpto g r k)) ∧ Below w.heap.size w wr ∧ w.heap.size + 1 ≤ wr.heap.size
    ∧ Hid (Holds wr w.heap.size 36 #[.slice A1 g.toks.length k1, .slice A2 g.rules.length k2, .slice A3 g.prods.length k3, .int .i64 g.start, .int .i64 g.states, .int .i64 g.text, .int .i64 g.nodes, .int .i64 g.pairs])) (fun _ ii _ => g.prods.length - (intOf ii).toNat)
  case atStart => exact ⟨0, by omega, rfl, hidden (Mine.fresh_nil _ _ _ _ _), (by repeat (first | (with_reducible exact Below.refl _ _) | (with_reducible assumption) | (with_reducible refine Below.drew ?_) | ((with_reducible refine below_alloc ?_ ?_); (focus (first | omega | (simp; done) | (simp; omega)))) | ((with_reducible refine below_set ?_ ?_); (focus (first | omega | (simp; done) | (simp; omega)))))), by simp, hidden (by repeat (first | (with_reducible assumption) | ((with_reducible refine holds_new ?_); (focus (first | rfl | (simp; done)))) | (with_reducible refine Holds.alloc ?_ _) | (with_reducible refine Holds.drew ?_)))⟩
  case round =>
    obtain ⟨k, hk, rfl, HM, hb, z, H2⟩ := hrel
    obtain ⟨x0, x1, x2, x3, x4, x5, x6, x7⟩ := gram_cells H2.out
    have hbz := hb.size
    by_cases hlt : k < g.prods.length
    · have hx := List.getElem?_eq_getElem hlt
      generalize g.prods[k] = p at *
      obtain ⟨b1, o1, l1, rfl, hT, hat, _⟩ := (HGo.out _ hb).2.2.at_ hx
      have y0 := hat 0 _ rfl
      rw [Nat.add_zero, show prodR.k = 2 from rfl] at y0
      have HSx := hidden (HS.out k p hx)
      have hl := HL.out k
      clear hat hx
      by_cases hr : p.left = r
      · have HE : Hid (ofUpto g r (k + 1) = ofUpto g r k ++ [(k : Int)]) := hidden (by rw [HSx.out, if_pos (by simp [hr])])
        have q : (p.left == r) = true := by simp [hr]
        clear HSx hr
        go_wp2_with (at_builtin; refine wpList_append_i rfl _ _ rfl (w.heap.size + 1) _ _ HM (k : Int) rfl rfl rfl rfl (by omega) (by omega) ?_; intro v' w' hA hb2 hK)
        go_roundw
        case rel => exact ⟨k + 1, by omega, by go_num, by rw [HE.out]; exact hA, hb.trans (hb2.mono (by omega)), by have := hb2.size; omega, hidden (H2.out.below hb2 (by omega))⟩
        case measure => simp [intOf]; omega
      · have HE : Hid (ofUpto g r (k + 1) = ofUpto g r k) := hidden (by rw [HSx.out, if_neg (by simp [hr])])
        have q : (p.left == r) = false := by simp [hr]
        clear HSx hr
        go_wp2
        go_roundw
        case rel => exact ⟨k + 1, by omega, by go_num, by rw [HE.out]; exact HM, hb, z, H2⟩
        case measure => simp [intOf]; omega
    · obtain rfl : k = g.prods.length := by omega
      rw [HD.out] at HM
      go_wp2
      go_ret
      exact ⟨⟨_, rfl, hidden (Mine.base HM.out (by omega))⟩, hb⟩
end Go.Proofs.Ytaagkbgbghleiaa
