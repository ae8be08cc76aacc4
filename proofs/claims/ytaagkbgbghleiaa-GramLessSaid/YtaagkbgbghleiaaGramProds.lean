/-
  gram: prods.
-/
import Derived.Test.YtaagkbgbghleiaaGramRules
import Derived.WalkMore
import Derived.Deep.LoopGhost
namespace Go.Proofs.Ytaagkbgbghleiaa
open Go.RowKit Go.Shelf

theorem But.drewN {p : Nat} {w w' : World} (h : But p w w') (n : Nat) : But p w (w'.drewN n) := ⟨h.os, h.tape, h.output, h.size, h.block⟩
theorem Chk.drewN {p : Nat} {a b c : Value} {g : Gram} {d : Defect} {w : World} (h : Chk p a b c g d w) (n : Nat) : Chk p a b c g d (w.drewN n) := h.next (below_drewN (Below.refl _ _) n)
theorem prodD_at {g : Gram} {k : Nat} {le : Int} {ri : List Item} (h : g.prods[k]? = some ⟨le, ri⟩) :
    prodD g k = if le < 0 ∨ (g.rules.length : Int) ≤ le then ⟨11, k, 0⟩ else if 16 < ri.length then ⟨4, k, 0⟩ else firstD (itemD g k ri) 0 ri.length := by
  unfold prodD
  rw [h]
  rfl

set_option maxRecDepth 20000 in
set_option maxHeartbeats 8000000 in
theorem gram_prods (p : Nat) (a b c : Value) (g : Gram) (w : World) (H : Chk p a b c g D0 w) :
    Calls Try.prog 70 #[.pointer (some ⟨p, 0, none⟩)] w (ChkOut p a b c g (firstD (prodD g) 0 g.prods.length) w) := by
  have HH := hidden H
  obtain ⟨⟨A1, k1, rfl, v1, m1⟩, ⟨A2, k2, rfl, v2, m2⟩, ⟨A3, k3, rfl, v3, m3⟩⟩ := H.gram.vals
  have HBad := hidden (fun k at_ more (w' : World) (h : Chk p (.slice A1 g.toks.length k1) (.slice A2 g.rules.length k2) (.slice A3 g.prods.length k3) g D0 w') => gram_bad p _ _ _ g D0 k at_ more w' h)
  have HIt := hidden (fun x (w' : World) (h : Chk p (.slice A1 g.toks.length k1) (.slice A2 g.rules.length k2) (.slice A3 g.prods.length k3) g D0 w') => gram_item p _ _ _ g D0 x w' h)
  obtain ⟨x0, x1, x2, x3, x4, x5, x6, x7⟩ := H.cells
  have hl := H.lt
  have HHit := hidden (fun k (h1 : k < g.prods.length) (h2 : (prodD g k).kind ≠ 0) (h3 : ∀ j, j < k → (prodD g j).kind = 0) => first0_hit (n := g.prods.length) h1 h2 h3)
  have HMis := hidden (fun (h3 : ∀ j, j < g.prods.length → (prodD g j).kind = 0) => first0_miss h3)
  generalize firstD (prodD g) 0 g.prods.length = dd at *
  clear H x0 x1 x3 x4 x5 x6 x7
  unfold maxLen at m2 m3
  go_enter Try.func70, Try.ntmps70
  go_wp2
  go_step3
  go_wp2
  go_step3
  go_wp2
  go_loopg [15, 3] g.prods.length (fun gh ii ww wr => ∃ k : Nat, k ≤ g.prods.length ∧ gh = g.prods.length - k ∧ ii = .int .i64 k ∧ ww = .bool false ∧ Hid (∀ j, j < k → (prodD g j).kind = 0) ∧ Hid (But p w wr) ∧ Hid (Chk p (.slice A1 g.toks.length k1) (.slice A2 g.rules.length k2) (.slice A3 g.prods.length k3) g D0 wr))
  case atStart => exact ⟨0, by omega, rfl, rfl, rfl, hidden (fun j h => by omega), hidden (But.refl _ _), HH⟩
  case round =>
    clear HH x2
    obtain ⟨k, hk, rfl, rfl, rfl, HN, HB, HC⟩ := hrel
    obtain ⟨wo, rfl⟩ : ∃ wo : World, wo = wr := ⟨_, rfl⟩
    by_cases hlt : k < g.prods.length
    · have hx := List.getElem?_eq_getElem hlt
      generalize g.prods[k] = pr at *
      obtain ⟨le, ri⟩ := pr
      obtain ⟨b1, o1, l1, rfl, hT, hat, hin⟩ := HC.out.gram.2.2.at_ hx
      have hin : Rd wo (fun k => k < p) 4 l1 ri.length (ri.flatMap itCells) := hin
      obtain ⟨A4, k4, rfl, v4, m4⟩ := hin.val
      have hT : b1 < wo.heap.size := Nat.lt_trans hT HC.out.lt
      have hpr := HC.out.lt
      have hwr := HB.out.size
      have y0 : wo.cell? ⟨b1, o1 + k * 2, none⟩ = some (.int .i64 le) := hat 0 _ rfl
      have y1 : wo.cell? ⟨b1, o1 + k * 2 + 1, none⟩ = some (.slice A4 ri.length k4) := hat 1 _ rfl
      have HTD := hidden (prodD_at hx)
      have HHk := hidden (fun h2 => HHit.out k hlt h2 HN.out)
      have HNx : Hid ((prodD g k).kind = 0 → ∀ j, j < k + 1 → (prodD g j).kind = 0) := hidden (fun h j hj => by
        by_cases e : j = k
        · subst e; exact h
        · exact HN.out j (by omega))
      have HIn := hidden (fun (w' : World) (hb : But p wo w') => Rd.keeps hin hb.keeps)
      have HCn := hidden (HC.out.alloc (.cells #[.int .i64 le, .slice A4 ri.length k4] 56))
      have HBn := hidden (HB.out.alloc (.cells #[.int .i64 le, .slice A4 ri.length k4] 56))
      have HBo := hidden ((But.refl p wo).alloc (.cells #[.int .i64 le, .slice A4 ri.length k4] 56))
      have x1 := HC.out.cells.2.1
      unfold maxLen at m4
      clear hat hx hin HB HC HHit
      by_cases h1 : le < 0 ∨ (g.rules.length : Int) ≤ le
      · have HE : Hid (prodD g k = ⟨11, k, 0⟩) := hidden (by rw [HTD.out, if_pos h1])
        have HD : Hid (dd = ⟨11, k, 0⟩) := hidden (by rw [← HE.out]; exact HHk.out (by rw [HE.out]; simp))
        have hcs : le < 0 ∨ (¬ le < 0 ∧ (g.rules.length : Int) ≤ le) := by omega
        clear h1 HN HNx HTD HE HHk
        rcases hcs with h1 | ⟨h0, h1⟩
        all_goals
          go_wp2_with fail
          go_quiet (fail)
          go_wp2_with fail
          refine (HBad.out 11 _ _ _ (HCn.out.drewN _)).mono ?_
          rintro r w5 ⟨rfl, HC5, hb5⟩
          have HF := hidden (ChkOut.mk_ (r := true) HD.out.symm (by rw [HD.out]; rfl) HC5 ((HBn.out.drewN _).trans hb5))
          clear HC5 hb5
          go_wp2
          (try rw [Exit.noGoto_ret])
          go_ret
          exact HF.out
      · obtain ⟨h1a, h1b⟩ : ¬ le < 0 ∧ ¬ (g.rules.length : Int) ≤ le := by omega
        by_cases h2 : 16 < ri.length
        · have HE : Hid (prodD g k = ⟨4, k, 0⟩) := hidden (by rw [HTD.out, if_neg h1, if_pos h2])
          have HD : Hid (dd = ⟨4, k, 0⟩) := hidden (by rw [← HE.out]; exact HHk.out (by rw [HE.out]; simp))
          clear h1 HN HNx HTD HE HHk
          go_wp2_with fail
          go_quiet (fail)
          go_wp2_with fail
          refine (HBad.out 4 _ _ _ (HCn.out.drewN _)).mono ?_
          rintro r w5 ⟨rfl, HC5, hb5⟩
          have HF := hidden (ChkOut.mk_ (r := true) HD.out.symm (by rw [HD.out]; rfl) HC5 ((HBn.out.drewN _).trans hb5))
          clear HC5 hb5
          go_wp2
          (try rw [Exit.noGoto_ret])
          go_ret
          exact HF.out
        · have HE : Hid (prodD g k = firstD (itemD g k ri) 0 ri.length) := hidden (by rw [HTD.out, if_neg h1, if_neg h2])
          have HI1 := hidden (fun j (h1 : j < ri.length) (h2 : (itemD g k ri j).kind ≠ 0) (h3 : ∀ m, m < j → (itemD g k ri m).kind = 0) => first0_hit (n := ri.length) h1 h2 h3)
          have HI2 := hidden (fun (h3 : ∀ m, m < ri.length → (itemD g k ri m).kind = 0) => first0_miss h3)
          have HIa : Hid (∀ (j : Nat) x, ri[j]? = some x → itemD g k ri j = if itemErr g x ≠ 0 then ⟨itemErr g x, k, (j : Int) + 1⟩ else D0) := hidden (fun j x hx => by unfold itemD; rw [hx])
          clear h1 HTD
          go_wp2_with fail
          go_quiet (fail)
          have HCm := hidden (HCn.out.drewN nq)
          have HBm := hidden (HBo.out.drewN nq)
          have HBw := hidden (HBn.out.drewN nq)
          go_wp2
          go_loopg [49, 3] ri.length (fun gj jj ww wx => ∃ j : Nat, j ≤ ri.length ∧ gj = ri.length - j ∧ jj = .int .i64 j ∧ ww = .bool false ∧ Hid (∀ m, m < j → (itemD g k ri m).kind = 0) ∧ Hid (But p wo wx) ∧ Hid (But p w wx) ∧ Hid (Chk p (.slice A1 g.toks.length k1) (.slice A2 g.rules.length k2) (.slice (some ⟨b1, o1, none⟩) g.prods.length k3) g D0 wx))
          case atStart => exact ⟨0, by omega, rfl, rfl, rfl, hidden (fun j h => by omega), HBm, HBw, HCm⟩
          case round =>
            clear HBm HBw HCm HBn HBo HCn x1 y0 y1
            obtain ⟨j, hj, rfl, rfl, rfl, HJ, HBx, HBy, HC⟩ := hrel
            have hwx := HBx.out.size
            have hpx := HC.out.lt
            by_cases hjl : j < ri.length
            · have hxj := List.getElem?_eq_getElem hjl
              generalize ri[j] = x at *
              obtain ⟨b2, o2, rfl, hT2, hat⟩ := (HIn.out _ HBx.out).flat_at (fun _ => rfl) (by decide) hxj
              have hT2 : b2 < wr.heap.size := Nat.lt_trans hT2 HC.out.lt
              have i0 : wr.cell? ⟨b2, o2 + j * 4, none⟩ = some (.bool x.rule) := hat 0 _ rfl
              have i1 : wr.cell? ⟨b2, o2 + j * 4 + 1, none⟩ = some (.int .i64 x.n) := hat 1 _ rfl
              have i2 : wr.cell? ⟨b2, o2 + j * 4 + 2, none⟩ = some (.int .i64 x.gap) := hat 2 _ rfl
              have i3 : wr.cell? ⟨b2, o2 + j * 4 + 3, none⟩ = some (.int .i64 x.in_) := hat 3 _ rfl
              have HCj := hidden (HC.out.alloc (.cells #[.bool x.rule, .int .i64 x.n, .int .i64 x.gap, .int .i64 x.in_] 66))
              have HBj := hidden (HBx.out.alloc (.cells #[.bool x.rule, .int .i64 x.n, .int .i64 x.gap, .int .i64 x.in_] 66))
              have HBk := hidden (HBy.out.alloc (.cells #[.bool x.rule, .int .i64 x.n, .int .i64 x.gap, .int .i64 x.in_] 66))
              have HIj := hidden (HIa.out j x hxj)
              have HItj := hidden (HIt.out x _ HCj.out)
              have HIh := hidden (fun h2 => HI1.out j hjl h2 HJ.out)
              have HJx : Hid ((itemD g k ri j).kind = 0 → ∀ m, m < j + 1 → (itemD g k ri m).kind = 0) := hidden (fun h m hm => by
                by_cases e : m = j
                · subst e; exact h
                · exact HJ.out m (by omega))
              generalize itemErr g x = e at *
              clear hat hxj HBx HBy HC
              go_wp2_with fail
              refine HItj.out.mono ?_
              rintro r w6 ⟨rfl, hb6⟩
              have HC6 := hidden (HCj.out.next hb6)
              have HB6 := hidden (HBj.out.next hb6)
              have HB7 := hidden (HBk.out.next hb6)
              clear HCj HBj HBk HItj hb6 i0 i1 i2 i3
              by_cases he : e = 0
              · have HJ2 := hidden (HJx.out (by rw [HIj.out, if_neg (by simp [he])]; rfl))
                subst he
                clear HIh HJx HIj HJ
                go_wp2
                go_roundg (ri.length - (j + 1))
                case measure => omega
                case rel => exact ⟨j + 1, by omega, rfl, by go_num, rfl, HJ2, HB6, HB7, HC6⟩
              · have HE2 : Hid (itemD g k ri j = ⟨e, k, (j : Int) + 1⟩) := hidden (by rw [HIj.out, if_pos he])
                have HE3 : Hid (prodD g k = ⟨e, k, (j : Int) + 1⟩) := hidden (by rw [HE.out, HIh.out (by rw [HE2.out]; exact he), HE2.out])
                have HD : Hid (dd = ⟨e, k, (j : Int) + 1⟩) := hidden (by rw [← HE3.out]; exact HHk.out (by rw [HE3.out]; exact he))
                have qe : (e != 0) = true := by rw [bne_iff_ne]; exact he
                clear HIh HJx HIj HJ HE HHk HNx HE2 HE3 HI1 HI2 HIa HN
                go_wp2_with fail
                refine (HBad.out e _ _ _ HC6.out).mono ?_
                rintro r w8 ⟨rfl, HC8, hb8⟩
                have HF := hidden (ChkOut.mk_ (r := true) HD.out.symm (by rw [HD.out]; simp [he]) HC8 (HB7.out.trans hb8))
                clear HC8 hb8
                go_wp2
                (try rw [Exit.noGoto_ret])
                go_ret
                exact HF.out
            · obtain rfl : j = ri.length := by omega
              have HN2 := hidden (HNx.out (by rw [HE.out, HI2.out HJ.out]; rfl))
              clear HN HNx HE HI1 HI2 HIa HJ HHk
              go_wp2
              go_roundg (g.prods.length - (k + 1))
              case measure => omega
              case rel => exact ⟨k + 1, by omega, rfl, by go_num, rfl, HN2, HBy, HC⟩
    · obtain rfl : k = g.prods.length := by omega
      have HE := hidden (HMis.out HN.out)
      have HF := hidden (ChkOut.mk_ (r := false) HE.out.symm (by rw [HE.out]; rfl) HC.out HB.out)
      clear HC HB HE
      go_wp2
      (try rw [Exit.noGoto_ret])
      go_ret
      exact HF.out
end Go.Proofs.Ytaagkbgbghleiaa
