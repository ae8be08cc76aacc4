/-
  gread: token.
-/
import Derived.Test.YtfmdmeokbbpmlaaGreatGz1
import Derived.Test.YtfmdmeokbbpmlaaGreatC6
namespace Go.Proofs.YtfmdmeokbbpmlaaGreat
open Go.RowKit Go.Shelf

theorem tok_info : Hid (TyInfo Tryz.prog 42 (.agg #[.string ⟨#[]⟩, .slice none 0 0, .int .i64 0]) 3 48) := hidden (info_parts (show (Tryz.prog.info? 42).map (fun i => (i.zero, i.size, i.bytes)) = some (some (.agg #[.string ⟨#[]⟩, .slice none 0 0, .int .i64 0]), 3, 48) by kernel_rfl))
theorem tok_ones (a : ByteArray) (A5 : Option Addr) (n k5 : Nat) (k : Int) : Hid (∀ u ∈ [Value.string a, .slice A5 n k5, .int .i64 k], u.oneCell' = true) := hidden (fun u hu => by
  simp at hu
  rcases hu with rfl | rfl | rfl <;> rfl)
set_option maxRecDepth 20000 in
set_option maxHeartbeats 16000000 in
theorem gr_token (W0 : World) (R B : Nat) (x : St) (tv rv pv wv : Value) (lt lp : List Value) (ws : List ByteArray) (w0 a c : ByteArray) (W : World) (H : GrA W0 R B x tv rv pv lt lp W) (HS : Strs W (Cold W R B tv rv pv) wv ws) (h0 : ws[0]? = some w0) (h1 : ws[1]? = some a) (h2 : ws[2]? = some c)
    (haz : a.size ≤ maxLen) (hcz : c.size ≤ maxLen) (s1 : x.g.toks.length ≤ 100000) :
    Calls Tryz.prog 38 #[.pointer (some ⟨R, 0, none⟩), wv] W fun r w' => Hid (GrTo W0 R B tv rv pv W (tokenG x w0 a c) r w') := by
  have HF := hidden (gr_fresh W0 R B x tv rv pv lt lp a W H haz s1)
  have HR := hidden (fun w' => rx_Read c w' hcz)
  have HA := hidden (fun (w' : World) (hb : Below W.heap.size W w') => H.later hb)
  obtain ⟨X, HX⟩ : ∃ X, Hid (tokenG x w0 a c = X) := ⟨_, hidden rfl⟩
  rw [HX.out]
  obtain ⟨Aw, cw, rfl, v1, m1⟩ := HS.val
  obtain ⟨b, off, rfl, hT, hc0⟩ := strs_at HS h0
  obtain ⟨b', off', e9, hT', hc1⟩ := strs_at HS h1
  cases e9
  obtain ⟨b', off', e9, hT', hc2⟩ := strs_at HS h2
  cases e9
  have q0 : (0 : Int) < (ws.length : Int) := by have := (List.getElem?_eq_some_iff.1 h2).1; omega
  have q1 : (1 : Int) < (ws.length : Int) := by have := (List.getElem?_eq_some_iff.1 h2).1; omega
  have q2 : (2 : Int) < (ws.length : Int) := by have := (List.getElem?_eq_some_iff.1 h2).1; omega
  have hbs := hT.1
  have htb : tv.ownBlock ≠ some b := fun e => hT.2 (.inr (.inr (.inl e)))
  have HL := hidden (fun (w' : World) (hb : Below W.heap.size W w') => (And.intro ((hb.cell (p := ⟨b, off + 0, none⟩) hbs).trans hc0) (And.intro ((hb.cell (p := ⟨b, off + 1, none⟩) hbs).trans hc1) ((hb.cell (p := ⟨b, off + 2, none⟩) hbs).trans hc2))))
  have hB := H.below
  have hwt : Hid (∀ k, Hot R B tv rv pv k → k < W.heap.size) := hidden (fun k hk => by
    rcases hk with rfl | rfl | hk | hk | hk
    · exact H.ap.r
    · exact H.ap.b
    · exact (H.ap.t _ hk).1
    · exact (H.ap.s _ hk).1
    · exact (H.ap.p _ hk).1)
  clear HS h0 h1 h2 H hT hT' hc0 hc2
  have HXx : Hid (X = if freshG x.g a ≠ 0 then .inl (freshG x.g a) else if (readM (nb c)).2.2 ≠ 0 then .inl 9 else .inr ⟨{ x.g with toks := x.g.toks ++ [⟨a, (readM (nb c)).1, findOf clsL w0⟩] }, x.giv⟩) := hidden (by rw [← HX.out]; rfl)
  clear HX
  generalize freshG x.g a = fr at *
  generalize readM (nb c) = rm at *
  obtain ⟨l, n, e⟩ := rm
  dsimp only at HXx
  go_enter Tryz.func38, Tryz.ntmps38
  go_wp2_with fail
  refine HF.out.mono ?_
  rintro r w1 ⟨rfl, hb1⟩
  clear HF hc1
  by_cases hf : fr ≠ 0
  · have e0 : X = .inl fr := by rw [HXx.out, if_pos hf]
    subst e0
    have hbz := hB.trans (hb1.mono hB.size)
    clear HXx HL HR HA
    go_wp2
    go_ret
    exact hidden ⟨rfl, hbz⟩
  · obtain rfl : fr = 0 := Classical.not_not.1 hf
    obtain ⟨z0, z1, z2⟩ := HL.out w1 hb1
    rw [Nat.add_zero] at z0
    clear hf
    go_wp2_with fail
    refine (HR.out w1).mono ?_
    intro r w2 h
    obtain ⟨v, rfl, hb2, hv⟩ := h.out
    clear h HR z0 z1 z2
    have hb3 := hb1.trans (hb2.mono hb1.size)
    dsimp only at hv ⊢
    by_cases he : e ≠ 0
    · have e0 : X = .inl 9 := by rw [HXx.out, if_neg (by decide), if_pos he]
      subst e0
      have hbz := hB.trans (hb3.mono hB.size)
      clear HXx HL HA hv
      go_wp2
      go_ret
      exact hidden ⟨rfl, hbz⟩
    · have HX2 : Hid (X = .inr ⟨{ x.g with toks := x.g.toks ++ [⟨a, l, findOf clsL w0⟩] }, x.giv⟩) := hidden (by rw [HXx.out, if_neg (by decide), if_neg he])
      obtain rfl : e = 0 := Classical.not_not.1 he
      clear HXx he
      obtain ⟨A5, k5, rfl, v5, m5⟩ := hv.val
      obtain ⟨z0, z1, z2⟩ := HL.out w2 hb3
      rw [Nat.add_zero] at z0
      have HM : Hid (StrsM (w2.alloc (.cells #[.string ⟨#[116, 111, 107, 101, 110]⟩, .string ⟨#[98, 108, 97, 110, 107]⟩, .string ⟨#[110, 111, 116, 101]⟩, .string ⟨#[108, 105, 110, 101]⟩] 9)) w2.heap.size (.slice (some ⟨w2.heap.size, 0, none⟩) 4 4) clsL) := hidden (.inl (World.ownsRow_lit w2 #[.string ⟨#[116, 111, 107, 101, 110]⟩, .string ⟨#[98, 108, 97, 110, 107]⟩, .string ⟨#[110, 111, 116, 101]⟩, .string ⟨#[108, 105, 110, 101]⟩] 4 (Nat.le_refl _) (by decide) rfl))
      have HD := hidden (word_find _ clsL w0 _ _ HM.out.rd)
      have hb4 := hb3.alloc hb3.size (.cells #[.string ⟨#[116, 111, 107, 101, 110]⟩, .string ⟨#[98, 108, 97, 110, 107]⟩, .string ⟨#[110, 111, 116, 101]⟩, .string ⟨#[108, 105, 110, 101]⟩] 9)
      have hbs2 := Nat.lt_of_lt_of_le hbs hb3.size
      clear HM
      go_wp2_with fail
      refine HD.out.mono ?_
      rintro r w3 ⟨rfl, hw3⟩
      subst hw3
      have HV : Hid (Rd (w2.alloc (.cells #[.string ⟨#[116, 111, 107, 101, 110]⟩, .string ⟨#[98, 108, 97, 110, 107]⟩, .string ⟨#[110, 111, 116, 101]⟩, .string ⟨#[108, 105, 110, 101]⟩] 9)) (ColdN W0 (w2.alloc (.cells #[.string ⟨#[116, 111, 107, 101, 110]⟩, .string ⟨#[98, 108, 97, 110, 107]⟩, .string ⟨#[110, 111, 116, 101]⟩, .string ⟨#[108, 105, 110, 101]⟩] 9)) R B tv rv pv) 5 (.slice A5 l.length k5) l.length (l.flatMap rxCells)) := hidden ((hv.alloc _).mono (fun k hk => ⟨⟨by rw [World.size_alloc]; omega, fun q => by have := hwt.out k q; have := hb1.size; omega⟩, by have := hB.size; have := hb1.size; omega⟩))
      have HA4 := hidden (HA.out _ hb4)
      have HB4 := hidden hb4
      obtain ⟨y0, y1, y2⟩ := HL.out _ hb4
      have hbs4 := Nat.lt_of_lt_of_le hbs hb4.size
      clear HD z0 z1 z2 hv HL HA hbs2 y0 y2 hwt hb1 hb2 hb3 hb4
      generalize (w2.alloc (.cells #[.string ⟨#[116, 111, 107, 101, 110]⟩, .string ⟨#[98, 108, 97, 110, 107]⟩, .string ⟨#[110, 111, 116, 101]⟩, .string ⟨#[108, 105, 110, 101]⟩] 9)) = w4 at *
      generalize findOf clsL w0 = k at *
      go_upto_region 8 with fail
      have HAd := hidden (HA4.out.later (Below.drew (Below.refl _ _)))
      have HVd : Hid (Rd w4.drew (ColdN W0 w4.drew R B tv rv pv) 5 (.slice A5 l.length k5) l.length (l.flatMap rxCells)) := hidden HV.out
      have y1d : w4.drew.cell? ⟨b, off + 1, none⟩ = some (.string a) := y1
      have hba := hidden ((Below.refl w4.drew.heap.size w4.drew).alloc (Nat.le_refl _) (.cells #[.string a, .slice A5 l.length k5, .int .i64 k] 42))
      have HH2 := hidden (HAd.out.later hba.out)
      have HV2 : Hid (Rd (w4.drew.alloc (.cells #[.string a, .slice A5 l.length k5, .int .i64 k] 42)) (ColdN W0 (w4.drew.alloc (.cells #[.string a, .slice A5 l.length k5, .int .i64 k] 42)) R B tv rv pv) 5 (.slice A5 l.length k5) l.length (l.flatMap rxCells)) := hidden ((HVd.out.alloc _).mono (fun k hk => hk.grow (by rw [World.size_alloc]; omega)))
      have y12 : (w4.drew.alloc (.cells #[.string a, .slice A5 l.length k5, .int .i64 k] 42)).cell? ⟨b, off + 1, none⟩ = some (.string a) := (hba.out.cell (p := ⟨b, off + 1, none⟩) hbs4).trans y1d
      have hx1 := tok_ones a A5 l.length k5 k
      have hsz : W0.heap.size ≤ (w4.drew.alloc (.cells #[.string a, .slice A5 l.length k5, .int .i64 k] 42)).heap.size := HH2.out.below.size
      have HX : Hid (Rd (w4.drew.alloc (.cells #[.string a, .slice A5 l.length k5, .int .i64 k] 42)) (fun _ => True) 3 (.slice (some ⟨w4.drew.heap.size, 0, none⟩) 1 1) 1 [.string a, .slice A5 l.length k5, .int .i64 k]) := hidden (Rd.fresh (cs := [.string a, .slice A5 l.length k5, .int .i64 k]) (n := 1) (size := 3) rfl (Nat.le_refl _) (by decide) trivial rfl)
      have HM := hidden HH2.out.mt
      have hCd : w4.drew.cell? ⟨R, 0, none⟩ = some tv ∧ w4.drew.cell? ⟨b, off + 1, none⟩ = some (.string a) := ⟨HAd.out.rd.cell 0, y1d⟩
      have hC2 : (w4.drew.alloc (.cells #[.string a, .slice A5 l.length k5, .int .i64 k] 42)).cell? ⟨R, 0, none⟩ = some tv ∧ (w4.drew.alloc (.cells #[.string a, .slice A5 l.length k5, .int .i64 k] 42)).cell? ⟨b, off + 1, none⟩ = some (.string a) := ⟨HH2.out.rd.cell 0, y12⟩
      refine (wpIn_wide (n := 5)).1 ?_
      refine wpIn_region_take (fun w9 => w9.cell? ⟨R, 0, none⟩ = some tv ∧ w9.cell? ⟨b, off + 1, none⟩ = some (.string a)) 17 (by kernel_rfl) ?_
      refine take_read (i := 0) (v := ?_) (by kernel_rfl) (by rfl) rfl (by rfl) (by kernel_rfl) (by kernel_rfl) (fun _ _ _ h => h) hCd ⟨Or.inl ⟨by rfl, fun w9 hw => ?_⟩, fun _ => rfl⟩ ?_
      rotate_left
      · obtain ⟨r0, r1⟩ := hw
        go_simp
        try rfl
      refine take_read (i := 1) (v := ?_) (by kernel_rfl) (by rfl) rfl (by rfl) (by kernel_rfl) (by kernel_rfl) (fun _ _ _ h => h) hCd ⟨Or.inl ⟨by rfl, fun w9 hw => ?_⟩, fun _ => rfl⟩ ?_
      rotate_left
      · obtain ⟨r0, r1⟩ := hw
        go_simp
        try rfl
      refine take_read (i := 2) (v := ?_) (by kernel_rfl) (by rfl) rfl (by rfl) (by kernel_rfl) (by kernel_rfl) (fun _ _ _ h => h) hCd ⟨Or.inl ⟨by rfl, fun w9 hw => ?_⟩, fun _ => rfl⟩ ?_
      rotate_left
      · obtain ⟨r0, r1⟩ := hw
        go_simp
        try rfl
      refine take_read (i := 3) (v := ?_) (by kernel_rfl) (by rfl) rfl (by rfl) (by kernel_rfl) (by kernel_rfl) (fun _ _ _ h => h) hCd ⟨Or.inl ⟨by rfl, fun w9 hw => ?_⟩, fun _ => rfl⟩ ?_
      rotate_left
      · obtain ⟨r0, r1⟩ := hw
        go_simp
        try rfl
      refine take_read (i := 4) (v := ?_) (by kernel_rfl) (by rfl) rfl (by rfl) (by kernel_rfl) (by kernel_rfl) (fun _ _ _ h => h) hCd ⟨Or.inl ⟨by rfl, fun w9 hw => ?_⟩, fun _ => rfl⟩ ?_
      rotate_left
      · obtain ⟨r0, r1⟩ := hw
        go_simp
        try rfl
      refine take_read (i := 5) (v := ?_) (by kernel_rfl) (by rfl) rfl (by rfl) (by kernel_rfl) (by kernel_rfl) (fun _ _ _ h => h) hCd ⟨Or.inl ⟨by rfl, fun w9 hw => ?_⟩, fun _ => rfl⟩ ?_
      rotate_left
      · obtain ⟨r0, r1⟩ := hw
        go_simp
        try rfl
      refine take_read (i := 6) (v := ?_) (by kernel_rfl) (by rfl) rfl (by rfl) (by kernel_rfl) (by kernel_rfl) (fun _ _ _ h => h) hCd ⟨Or.inl ⟨by rfl, fun w9 hw => ?_⟩, fun _ => rfl⟩ ?_
      rotate_left
      · obtain ⟨r0, r1⟩ := hw
        go_simp
        try rfl
      refine take_read (i := 7) (v := ?_) (by kernel_rfl) (by rfl) rfl (by rfl) (by kernel_rfl) (by kernel_rfl) (fun _ _ _ h => h) hCd ⟨Or.inl ⟨by rfl, fun w9 hw => ?_⟩, fun _ => rfl⟩ ?_
      rotate_left
      · obtain ⟨r0, r1⟩ := hw
        go_simp
        try rfl
      refine take_read (i := 8) (v := ?_) (by kernel_rfl) (by rfl) rfl (by rfl) (by kernel_rfl) (by kernel_rfl) (fun _ _ _ h => h) hCd ⟨Or.inl ⟨by rfl, fun w9 hw => ?_⟩, fun _ => rfl⟩ ?_
      rotate_left
      · obtain ⟨r0, r1⟩ := hw
        go_simp
        try rfl
      refine take_read (i := 9) (v := ?_) (by kernel_rfl) (by rfl) rfl (by rfl) (by kernel_rfl) (by kernel_rfl) (fun _ _ _ h => h) hCd ⟨Or.inl ⟨by rfl, fun w9 hw => ?_⟩, fun _ => rfl⟩ ?_
      rotate_left
      · obtain ⟨r0, r1⟩ := hw
        go_simp
        try rfl
      refine take_read (i := 10) (v := ?_) (by kernel_rfl) (by rfl) rfl (by rfl) (by kernel_rfl) (by kernel_rfl) (fun _ _ _ h => h) hCd ⟨Or.inl ⟨by rfl, fun w9 hw => ?_⟩, fun _ => rfl⟩ ?_
      rotate_left
      · obtain ⟨r0, r1⟩ := hw
        go_simp
        try rfl
      refine take_read (i := 11) (v := ?_) (by kernel_rfl) (by rfl) rfl (by rfl) (by kernel_rfl) (by kernel_rfl) (fun _ _ _ h => h) hCd ⟨Or.inl ⟨by rfl, fun w9 hw => ?_⟩, fun _ => rfl⟩ ?_
      rotate_left
      · obtain ⟨r0, r1⟩ := hw
        go_simp
        try rfl
      refine take_only (i := 12) (by kernel_rfl) rfl rfl (by rfl) (fun K hK => ?_)
      go_simp
      refine hK _ _ hC2 ?_
      clear hK K
      refine take_only (i := 13) (by kernel_rfl) rfl rfl (by rfl) (fun K hK => ?_)
      refine opIn_append_all _ _ 23 42 rfl (by kernel_rfl) tok_info rfl (by decide) W0.heap.size tv x.g.toks.length (tokR.all x.g.toks lt) HM _ 1 [.string a, .slice A5 l.length k5, .int .i64 k] HX hx1 rfl rfl (by omega) (by decide) hsz ?_
      intro v' w5 hA
      obtain ⟨A9, c9, rfl⟩ := hA.out.mine.value
      have hk := hA.out.keeps
      have hr := hk.holds (fun e => (HH2.out.ap.t _ e).2.1 rfl) HH2.out.rd
      have hF : w5.cell? ⟨R, 0, none⟩ = some tv ∧ w5.cell? ⟨b, off + 1, none⟩ = some (.string a) := ⟨hr.cell 0, hk.cell (a := ⟨b, off + 1, none⟩) htb y12⟩
      refine hK _ _ hF ?_
      clear hK K
      refine take_read (i := 14) (v := ?_) (by kernel_rfl) (by rfl) rfl (by rfl) (by kernel_rfl) (by kernel_rfl) (fun _ _ _ h => h) hF ⟨Or.inl ⟨by rfl, fun w9 hw => ?_⟩, fun _ => rfl⟩ ?_
      rotate_left
      · obtain ⟨r0, r1⟩ := hw
        go_simp
        try rfl
      refine take_read (i := 15) (v := ?_) (by kernel_rfl) (by rfl) rfl (by rfl) (by kernel_rfl) (by kernel_rfl) (fun _ _ _ h => h) hF ⟨Or.inl ⟨by rfl, fun w9 hw => ?_⟩, fun _ => rfl⟩ ?_
      rotate_left
      · obtain ⟨r0, r1⟩ := hw
        go_simp
        try rfl
      refine take_read (i := 16) (v := ?_) (by kernel_rfl) (by rfl) rfl (by rfl) (by kernel_rfl) (by kernel_rfl) (fun _ _ _ h => h) hF ⟨Or.inl ⟨by rfl, fun w9 hw => ?_⟩, fun _ => rfl⟩ ?_
      rotate_left
      · obtain ⟨r0, r1⟩ := hw
        go_simp
        try rfl
      have zf := hr.frozen 0
      have y2 := hr.cell 0
      have HP := hidden (HH2.out.tok (t := ⟨a, l, k⟩) (l := .slice A5 l.length k5) hA.out HV2.out)
      have HFr : Hid (FrG R B tv rv pv W (.slice A9 (x.g.toks.length + 1) c9) rv pv (w5.setCell ⟨R, 0, none⟩ (.slice A9 (x.g.toks.length + 1) c9))) := hidden ((FrG.later (HB4.out.trans ((Below.drew (Below.refl _ _)).mono HB4.out.size))).trans ((FrG.later hba.out).trans (FrG.tok hA.out)))
      have e0 : X = .inr ⟨{ x.g with toks := x.g.toks ++ [⟨a, l, k⟩] }, x.giv⟩ := HX2.out
      subst e0
      clear hF hA hCd hC2 HX2
      refine take_tail (by kernel_rfl) (by kernel_rfl) ?_
      simp only [List.drop_succ_cons, List.drop_zero]
      gi_wp2
      go_wp2
      go_ret
      exact hidden ⟨rfl, _, _, _, _, _, HP.out, HFr.out⟩
end Go.Proofs.YtfmdmeokbbpmlaaGreat
