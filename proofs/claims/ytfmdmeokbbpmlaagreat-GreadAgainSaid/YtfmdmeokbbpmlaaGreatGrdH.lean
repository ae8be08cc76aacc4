/-
  gread: rule.
-/
import Derived.Test.YtfmdmeokbbpmlaaGreatGrdG
import Derived.Test.YtfmdmeokbbpmlaaGreatGrdE
namespace Go.Proofs.YtfmdmeokbbpmlaaGreat
open Go.RowKit Go.Shelf

theorem prod_info : Hid (TyInfo Tryz.prog 50 (.agg #[.int .i64 0, .slice none 0 0]) 2 32) := hidden (info_parts (show (Tryz.prog.info? 50).map (fun i => (i.zero, i.size, i.bytes)) = some (some (.agg #[.int .i64 0, .slice none 0 0]), 2, 32) by kernel_rfl))
theorem it_info : Hid (TyInfo Tryz.prog 47 (.agg #[.bool false, .int .i64 0, .int .i64 0, .int .i64 0]) 4 32) := hidden (info_parts (show (Tryz.prog.info? 47).map (fun i => (i.zero, i.size, i.bytes)) = some (some (.agg #[.bool false, .int .i64 0, .int .i64 0, .int .i64 0]), 4, 32) by kernel_rfl))
theorem prod_ones (n : Int) (v : Value) (hv : v.oneCell' = true) : Hid (∀ u ∈ [Value.int .i64 n, v], u.oneCell' = true) := hidden (fun u hu => by
  simp at hu
  rcases hu with rfl | rfl
  · rfl
  · exact hv)
theorem it_ones (y : Item) : Hid (∀ u ∈ itCells y, u.oneCell' = true) := hidden (fun u hu => by
  unfold itCells at hu
  simp at hu
  rcases hu with rfl | rfl | rfl | rfl <;> rfl)
def itemsAcc (done : List Item) (X : Int ⊕ List Item) : Int ⊕ List Item := match X with
  | .inl e => .inl e
  | .inr l => .inr (done ++ l)
def ruleEnd (x : St) (n : Int) (X : Int ⊕ List Item) : Int ⊕ St := match X with
  | .inl e => .inl e
  | .inr l => .inr ⟨{ x.g with prods := x.g.prods ++ [⟨n, l⟩] }, x.giv⟩
theorem ruleG_is (x : St) (a : ByteArray) (ws : List ByteArray) : ruleG x a ws = if isRule x.g a = false then .inl 11 else ruleEnd x (findNo x.g a) (itemsAcc [] (itemsG x.g ws)) := by
  unfold ruleG
  cases isRule x.g a
  · rfl
  · cases itemsG x.g ws <;> rfl
set_option maxRecDepth 20000 in
set_option maxHeartbeats 32000000 in
theorem gr_rule (W0 : World) (R B : Nat) (x : St) (tv rv pv wv : Value) (lt lp : List Value) (w0 a : ByteArray) (ws : List ByteArray) (W : World) (H : GrA W0 R B x tv rv pv lt lp W) (HS : Strs W (Cold W R B tv rv pv) wv (w0 :: a :: ws))
    (hz : ∀ s ∈ ws, 0 < s.size ∧ s.size ≤ 1000000) (s1 : x.g.toks.length ≤ 100000) (s3 : x.g.prods.length ≤ 100000) (s4 : ws.length ≤ 100000) :
    Calls Tryz.prog 41 #[.pointer (some ⟨R, 0, none⟩), wv] W fun r w' => Hid (GrTo W0 R B tv rv pv W (ruleG x a ws) r w') := by
  have HF := hidden (gr_of W0 R B x tv rv pv lt lp a W H s1)
  have HA := hidden (fun (w' : World) (hb : Below W.heap.size W w') => H.later hb)
  obtain ⟨X, HX⟩ : ∃ X, Hid (ruleG x a ws = X) := ⟨_, hidden rfl⟩
  rw [HX.out]
  have HXx := HX.out
  rw [ruleG_is] at HXx
  obtain ⟨Aw, cw, rfl, v1, m1⟩ := HS.val
  obtain ⟨b, off, rfl, hT, hc1⟩ := strs_at (i := 1) HS rfl
  rw [List.length_cons, List.length_cons] at *
  unfold maxLen at m1
  have hbs := hT.1
  have hB0 := H.below
  have hwt : Hid (∀ k, Hot R B tv rv pv k → k < W.heap.size) := hidden (fun k hk => by
    rcases hk with rfl | rfl | hk | hk | hk
    · exact H.ap.r
    · exact H.ap.b
    · exact (H.ap.t _ hk).1
    · exact (H.ap.s _ hk).1
    · exact (H.ap.p _ hk).1)
  replace HS : Hid (Strs W (Cold W R B tv rv pv) (.slice (some ⟨b, off, none⟩) (ws.length + 1 + 1) cw) (w0 :: a :: ws)) := hidden HS
  have q1 : (1 : Int) < ((ws.length + 1 + 1 : Nat) : Int) := by omega
  have q2 : (2 : Int) ≤ ((ws.length + 1 + 1 : Nat) : Int) := by omega
  have q3 : (1 : Int) < (ws.length : Int) + 1 + 1 := by omega
  have q4 : (2 : Int) ≤ (ws.length : Int) + 1 + 1 := by omega
  clear HX H hT
  replace HXx := hidden HXx
  go_enter Tryz.func41, Tryz.ntmps41
  go_wp2_with fail
  refine HF.out.mono ?_
  rintro r w1 ⟨rfl, hb1⟩
  clear HF hc1
  generalize findNo x.g a = n at *
  cases hir : isRule x.g a with
  | false =>
    have e0 : X = .inl 11 := by rw [← HXx.out, hir]; rfl
    subst e0
    have hbz := hB0.trans (hb1.mono hB0.size)
    clear HXx HA HS
    go_wp2
    go_ret
    exact hidden ⟨rfl, hbz⟩
  | true =>
    have HX0 : Hid (ruleEnd x n (itemsAcc [] (itemsG x.g (ws.drop 0))) = X) := hidden (by rw [← HXx.out, hir]; rfl)
    have hbq := hb1.alloc hb1.size (.cells #[.int .i64 n, .slice none 0 0] 50)
    have HQ0 := hidden (Holds.new w1 50 #[.int .i64 n, .slice none 0 0])
    have hWq := hb1.size
    clear HXx hir
    go_upto_region 5 with fail
    generalize (w1.alloc (.cells #[.int .i64 n, .slice none 0 0] 50)) = w2 at *
    generalize w1.heap.size = q at *
    by_cases hc2 : cw = 2
    · have hw0 : ws.length = 0 := by omega
      go_upto_region 6 with fail
      go_loopg [27] ws.length (fun gh kk wr => ∃ (k : Nat) (done : List Item) (vR : Value), k ≤ ws.length ∧ done.length = k ∧ gh = ws.length - k ∧ kk = .int .i64 k ∧ Below W.heap.size W wr ∧ Hid (Holds wr q 50 #[.int .i64 n, vR]) ∧ Hid (Mine wr W.heap.size 47 4 vR done.length (done.flatMap itCells)) ∧ vR.ownBlock ≠ some q ∧ (∀ g, vR.ownBlock = some g → g < wr.heap.size) ∧ Hid (ruleEnd x n (itemsAcc done (itemsG x.g (ws.drop k))) = X))
      case atStart => exact ⟨0, [], .slice none 0 0, Nat.zero_le _, rfl, rfl, rfl, hbq, HQ0, hidden (Mine.nil _ _ _ _), by simp [Value.ownBlock], fun g e => by simp [Value.ownBlock] at e, HX0⟩
      case round =>
        clear hbq HQ0 HX0
        obtain ⟨k, done, vR, hk, hdn0, rfl, rfl, hb, HQ, HRr, hvq, hvR, HXk⟩ := hrel
        have hdn := hidden hdn0
        clear hdn0
        by_cases hlt : k < ws.length
        · skip
          exfalso
          omega
        · obtain rfl : k = ws.length := by omega
          have q5 : ¬ (ws.length : Int) < (ws.length : Int) := by omega
          have hXf : X = .inr ⟨{ x.g with prods := x.g.prods ++ [⟨n, done⟩] }, x.giv⟩ := by
            rw [← HXk.out, List.drop_length, itemsG]
            simp [itemsAcc, ruleEnd]
          have HA4 := hidden (HA.out wr hb)
          have HB4 := hidden hb
          have HQ4 := HQ
          have HV4 : Hid (Rd wr (ColdN W0 wr R B tv rv pv) 4 vR done.length (done.flatMap itCells)) := hidden (HRr.out.rd (fun g e h1 h2 => ⟨⟨h2, fun hh => by have := hwt.out g hh; omega⟩, by have := hB0.size; omega⟩))
          have hone : Hid (vR.oneCell' = true) := hidden (by obtain ⟨A, c, rfl⟩ := HRr.out.value; rfl)
          have hpq : pv.ownBlock ≠ some q := fun e => by have := hwt.out q (.inr (.inr (.inr (.inr e)))); omega
          clear HXk HQ HRr HA HS hvq hvR hb
          generalize wr = w4 at *
          go_upto_region 13 with fail
          have HAd := hidden (HA4.out.later (Below.drew (Below.refl _ _)))
          have HQd : Hid (Holds w4.drew q 50 #[.int .i64 n, vR]) := hidden HQ4.out
          have HVd : Hid (Rd w4.drew (ColdN W0 w4.drew R B tv rv pv) 4 vR done.length (done.flatMap itCells)) := hidden HV4.out
          have hba := hidden ((Below.refl w4.drew.heap.size w4.drew).alloc (Nat.le_refl _) (.cells #[.int .i64 n, vR] 50))
          have HH2 := hidden (HAd.out.later hba.out)
          have HQ2 := hidden (HQd.out.below hba.out HQd.out.lt)
          have HV2 : Hid (Rd (w4.drew.alloc (.cells #[.int .i64 n, vR] 50)) (ColdN W0 (w4.drew.alloc (.cells #[.int .i64 n, vR] 50)) R B tv rv pv) 4 vR done.length (done.flatMap itCells)) := hidden ((HVd.out.alloc _).mono (fun k hk => hk.grow (by rw [World.size_alloc]; omega)))
          have hx1 := prod_ones n vR hone.out
          have hsz : W0.heap.size ≤ (w4.drew.alloc (.cells #[.int .i64 n, vR] 50)).heap.size := HH2.out.below.size
          have HX : Hid (Rd (w4.drew.alloc (.cells #[.int .i64 n, vR] 50)) (fun _ => True) 2 (.slice (some ⟨w4.drew.heap.size, 0, none⟩) 1 1) 1 [.int .i64 n, vR]) := hidden (Rd.fresh (cs := [.int .i64 n, vR]) (n := 1) (size := 2) rfl (Nat.le_refl _) (by decide) trivial rfl)
          have HM := hidden HH2.out.mq
          have hCd : w4.drew.cell? ⟨R, 2, none⟩ = some pv ∧ w4.drew.cell? ⟨q, 0, none⟩ = some (.int .i64 n) ∧ w4.drew.cell? ⟨q, 1, none⟩ = some vR := ⟨HAd.out.rd.cell 2, HQd.out.cell 0, HQd.out.cell 1⟩
          have hC2 : (w4.drew.alloc (.cells #[.int .i64 n, vR] 50)).cell? ⟨R, 2, none⟩ = some pv ∧ (w4.drew.alloc (.cells #[.int .i64 n, vR] 50)).cell? ⟨q, 0, none⟩ = some (.int .i64 n) ∧ (w4.drew.alloc (.cells #[.int .i64 n, vR] 50)).cell? ⟨q, 1, none⟩ = some vR := ⟨HH2.out.rd.cell 2, HQ2.out.cell 0, HQ2.out.cell 1⟩
          refine (wpIn_wide (n := 5)).1 ?_
          refine wpIn_region_take (fun w9 => w9.cell? ⟨R, 2, none⟩ = some pv ∧ w9.cell? ⟨q, 0, none⟩ = some (.int .i64 n) ∧ w9.cell? ⟨q, 1, none⟩ = some vR) 12 (by kernel_rfl) ?_
          refine take_read (i := 0) (v := ?_) (by kernel_rfl) (by rfl) rfl (by rfl) (by kernel_rfl) (by kernel_rfl) (fun _ _ _ h => h) hCd ⟨Or.inl ⟨by rfl, fun w9 hw => ?_⟩, fun _ => rfl⟩ ?_
          rotate_left
          · obtain ⟨r0, r1, r2⟩ := hw
            go_simp
            try rfl
          refine take_read (i := 1) (v := ?_) (by kernel_rfl) (by rfl) rfl (by rfl) (by kernel_rfl) (by kernel_rfl) (fun _ _ _ h => h) hCd ⟨Or.inl ⟨by rfl, fun w9 hw => ?_⟩, fun _ => rfl⟩ ?_
          rotate_left
          · obtain ⟨r0, r1, r2⟩ := hw
            go_simp
            try rfl
          refine take_read (i := 2) (v := ?_) (by kernel_rfl) (by rfl) rfl (by rfl) (by kernel_rfl) (by kernel_rfl) (fun _ _ _ h => h) hCd ⟨Or.inl ⟨by rfl, fun w9 hw => ?_⟩, fun _ => rfl⟩ ?_
          rotate_left
          · obtain ⟨r0, r1, r2⟩ := hw
            go_simp
            try rfl
          refine take_read (i := 3) (v := ?_) (by kernel_rfl) (by rfl) rfl (by rfl) (by kernel_rfl) (by kernel_rfl) (fun _ _ _ h => h) hCd ⟨Or.inl ⟨by rfl, fun w9 hw => ?_⟩, fun _ => rfl⟩ ?_
          rotate_left
          · obtain ⟨r0, r1, r2⟩ := hw
            go_simp
            try rfl
          refine take_read (i := 4) (v := ?_) (by kernel_rfl) (by rfl) rfl (by rfl) (by kernel_rfl) (by kernel_rfl) (fun _ _ _ h => h) hCd ⟨Or.inl ⟨by rfl, fun w9 hw => ?_⟩, fun _ => rfl⟩ ?_
          rotate_left
          · obtain ⟨r0, r1, r2⟩ := hw
            go_simp
            try rfl
          refine take_read (i := 5) (v := ?_) (by kernel_rfl) (by rfl) rfl (by rfl) (by kernel_rfl) (by kernel_rfl) (fun _ _ _ h => h) hCd ⟨Or.inl ⟨by rfl, fun w9 hw => ?_⟩, fun _ => rfl⟩ ?_
          rotate_left
          · obtain ⟨r0, r1, r2⟩ := hw
            go_simp
            try rfl
          refine take_read (i := 6) (v := ?_) (by kernel_rfl) (by rfl) rfl (by rfl) (by kernel_rfl) (by kernel_rfl) (fun _ _ _ h => h) hCd ⟨Or.inl ⟨by rfl, fun w9 hw => ?_⟩, fun _ => rfl⟩ ?_
          rotate_left
          · obtain ⟨r0, r1, r2⟩ := hw
            go_simp
            try rfl
          refine take_only (i := 7) (by kernel_rfl) rfl rfl (by rfl) (fun K hK => ?_)
          go_simp
          refine hK _ _ hC2 ?_
          clear hK K
          refine take_only (i := 8) (by kernel_rfl) rfl rfl (by rfl) (fun K hK => ?_)
          refine opIn_append_all _ _ 25 50 rfl (by kernel_rfl) prod_info rfl (by decide) W0.heap.size pv x.g.prods.length (prodR.all x.g.prods lp) HM _ 1 [.int .i64 n, vR] HX hx1 rfl rfl (by omega) (by decide) hsz ?_
          intro v' w5 hA
          obtain ⟨A9, c9, rfl⟩ := hA.out.mine.value
          have hk := hA.out.keeps
          have hr := hk.holds (fun e => (HH2.out.ap.p _ e).2.1 rfl) HH2.out.rd
          have hqq := hk.holds (fun e => hpq e) HQ2.out
          have hF : w5.cell? ⟨R, 2, none⟩ = some pv ∧ w5.cell? ⟨q, 0, none⟩ = some (.int .i64 n) ∧ w5.cell? ⟨q, 1, none⟩ = some vR := ⟨hr.cell 2, hqq.cell 0, hqq.cell 1⟩
          refine hK _ _ hF ?_
          clear hK K
          refine take_read (i := 9) (v := ?_) (by kernel_rfl) (by rfl) rfl (by rfl) (by kernel_rfl) (by kernel_rfl) (fun _ _ _ h => h) hF ⟨Or.inl ⟨by rfl, fun w9 hw => ?_⟩, fun _ => rfl⟩ ?_
          rotate_left
          · obtain ⟨r0, r1, r2⟩ := hw
            go_simp
            try rfl
          refine take_read (i := 10) (v := ?_) (by kernel_rfl) (by rfl) rfl (by rfl) (by kernel_rfl) (by kernel_rfl) (fun _ _ _ h => h) hF ⟨Or.inl ⟨by rfl, fun w9 hw => ?_⟩, fun _ => rfl⟩ ?_
          rotate_left
          · obtain ⟨r0, r1, r2⟩ := hw
            go_simp
            try rfl
          refine take_read (i := 11) (v := ?_) (by kernel_rfl) (by rfl) rfl (by rfl) (by kernel_rfl) (by kernel_rfl) (fun _ _ _ h => h) hF ⟨Or.inl ⟨by rfl, fun w9 hw => ?_⟩, fun _ => rfl⟩ ?_
          rotate_left
          · obtain ⟨r0, r1, r2⟩ := hw
            go_simp
            try rfl
          have zf := hr.frozen 2
          have y2 := hr.cell 2
          have HP := hidden (HH2.out.prod (t := ⟨n, done⟩) (l := vR) hA.out HV2.out)
          have HFr : Hid (FrG R B tv rv pv W tv rv (.slice A9 (x.g.prods.length + 1) c9) (w5.setCell ⟨R, 2, none⟩ (.slice A9 (x.g.prods.length + 1) c9))) := hidden ((FrG.later (HB4.out.trans ((Below.drew (Below.refl _ _)).mono HB4.out.size))).trans ((FrG.later hba.out).trans (FrG.prod hA.out)))
          subst hXf
          clear hF hA hCd hC2
          refine take_tail (by kernel_rfl) (by kernel_rfl) ?_
          simp only [List.drop_succ_cons, List.drop_zero]
          gi_wp2
          go_wp2
          go_ret
          exact hidden ⟨rfl, _, _, _, _, _, HP.out, HFr.out⟩
    · skip
      go_upto_region 6 with fail
      go_loopg [27] ws.length (fun gh kk wr => ∃ (k : Nat) (done : List Item) (vR : Value), k ≤ ws.length ∧ done.length = k ∧ gh = ws.length - k ∧ kk = .int .i64 k ∧ Below W.heap.size W wr ∧ Hid (Holds wr q 50 #[.int .i64 n, vR]) ∧ Hid (Mine wr W.heap.size 47 4 vR done.length (done.flatMap itCells)) ∧ vR.ownBlock ≠ some q ∧ (∀ g, vR.ownBlock = some g → g < wr.heap.size) ∧ Hid (ruleEnd x n (itemsAcc done (itemsG x.g (ws.drop k))) = X))
      case atStart => exact ⟨0, [], .slice none 0 0, Nat.zero_le _, rfl, rfl, rfl, hbq, HQ0, hidden (Mine.nil _ _ _ _), by simp [Value.ownBlock], fun g e => by simp [Value.ownBlock] at e, HX0⟩
      case round =>
        clear hbq HQ0 HX0
        obtain ⟨k, done, vR, hk, hdn0, rfl, rfl, hb, HQ, HRr, hvq, hvR, HXk⟩ := hrel
        have hdn := hidden hdn0
        clear hdn0
        by_cases hlt : k < ws.length
        · skip
          have q5 : (k : Int) < (ws.length : Int) := by omega
          have hx := List.getElem?_eq_getElem hlt
          have hx2 : (w0 :: a :: ws)[k + 2]? = some ws[k] := by rw [List.getElem?_cons_succ, List.getElem?_cons_succ]; exact hx
          have hdr : ws.drop k = ws[k] :: ws.drop (k + 1) := List.drop_eq_getElem_cons hlt
          have hzs := hz _ (List.getElem_mem hlt)
          obtain ⟨b', off', e9, hT9, hc9⟩ := strs_at HS.out hx2
          cases e9
          have hc9 := (hb.cell (p := ⟨b, off + (k + 2), none⟩) hbs).trans hc9
          have hbsr := Nat.lt_of_lt_of_le hbs hb.size
          rw [Nat.add_comm k 2, ← Nat.add_assoc] at hc9
          generalize ws[k] = s at *
          have HI := hidden (gr_item W0 R B x tv rv pv lt lp s wr (HA.out wr hb) hzs.1 hzs.2 s1)
          have HXs : Hid (ruleEnd x n (itemsAcc done (match itemG x.g s with | .inl e => .inl e | .inr y => itemsAcc [y] (itemsG x.g (ws.drop (k + 1))))) = X) := hidden (by
            rw [← HXk.out, hdr, itemsG]
            cases itemG x.g s with
            | inl e => rfl
            | inr y => cases itemsG x.g (ws.drop (k + 1)) <;> rfl)
          clear HXk hx hx2 hdr hT9
          generalize itemG x.g s = ig at *
          go_upto_region 7 with fail
          go_wp2_with fail
          refine HI.out.mono ?_
          intro r w1 h
          obtain ⟨y, e, rfl, hb1, hig⟩ := h.out
          clear h HI hc9 hbsr
          have hbw1 := hb.trans (hb1.mono hb.size)
          have hz1 := hb1.size
          have HQ1 := hidden (HQ.out.below hb1 HQ.out.lt)
          have HR1 := hidden (HRr.out.below hb1)
          clear HQ HRr hb hb1
          rcases hig with ⟨rfl, he⟩ | ⟨rfl, rfl⟩
          · have hXf : X = .inl e := by rw [← HXs.out]; rfl
            subst hXf
            have hbz := (hB0.trans (hbw1.mono hB0.size)).alloc (Nat.le_trans hB0.size hbw1.size) (.cells #[.bool y.rule, .int .i64 y.n, .int .i64 y.gap, .int .i64 y.in_] 47)
            clear HXs HA HS HQ1 HR1
            go_wp2
            go_ret
            exact hidden ⟨rfl, hbz⟩
          · have HXt : Hid (ruleEnd x n (itemsAcc (done ++ [y]) (itemsG x.g (ws.drop (k + 1)))) = X) := hidden (by
              rw [← HXs.out]
              cases itemsG x.g (ws.drop (k + 1)) with
              | inl e => rfl
              | inr l => simp [itemsAcc])
            have hb2 := hbw1.alloc hbw1.size (.cells #[.bool y.rule, .int .i64 y.n, .int .i64 y.gap, .int .i64 y.in_] 47)
            have HQ2 := hidden (HQ1.out.alloc (.cells #[.bool y.rule, .int .i64 y.n, .int .i64 y.gap, .int .i64 y.in_] 47))
            have HR2 := hidden (HR1.out.alloc (.cells #[.bool y.rule, .int .i64 y.n, .int .i64 y.gap, .int .i64 y.in_] 47))
            have HIt := hidden (Holds.new w1 47 #[.bool y.rule, .int .i64 y.n, .int .i64 y.gap, .int .i64 y.in_])
            clear HXs HQ1 HR1 hbw1
            go_upto_region 11 with fail
            generalize (w1.alloc (.cells #[.bool y.rule, .int .i64 y.n, .int .i64 y.gap, .int .i64 y.in_] 47)) = w2 at *
            generalize w1.heap.size = q2 at *
            obtain ⟨i0, i1, i2, i3⟩ := gfour HIt.out
            have hq2 := HIt.out.lt
            have z1 := HQ2.out.c21
            have hqz := HQ2.out.lt
            have hb3 := hb2.alloc hb2.size (.cells #[.bool y.rule, .int .i64 y.n, .int .i64 y.gap, .int .i64 y.in_] 47)
            have HQ3 := hidden (HQ2.out.alloc (.cells #[.bool y.rule, .int .i64 y.n, .int .i64 y.gap, .int .i64 y.in_] 47))
            have HM := hidden (HR2.out.alloc (.cells #[.bool y.rule, .int .i64 y.n, .int .i64 y.gap, .int .i64 y.in_] 47))
            have hsz := hb3.size
            have HX1 : Hid (Rd (w2.alloc (.cells #[.bool y.rule, .int .i64 y.n, .int .i64 y.gap, .int .i64 y.in_] 47)) (fun _ => True) 4 (.slice (some ⟨w2.heap.size, 0, none⟩) 1 1) 1 (itCells y)) := hidden (Rd.fresh (cs := itCells y) (n := 1) (size := 4) rfl (Nat.le_refl _) (by decide) trivial rfl)
            have H1 := it_ones y
            have hvz : ∀ g, vR.ownBlock = some g → g < w2.heap.size := fun g e => by have := hvR g e; omega
            have hln : done.length ≤ 1000000 := by rw [hdn.out]; omega
            clear HQ2 HR2 HIt
            go_wp2_with (at_builtin; refine wpList_append_all rfl _ _ 48 47 rfl (by kernel_rfl) it_info rfl (by decide) W.heap.size _ _ _ HM _ _ _ HX1 H1 rfl rfl (by omega) (by decide) hsz ?_; intro v' w3 hAp; obtain ⟨A9, c9, rfl⟩ := hAp.out.mine.value; have hr := hAp.out.keeps.holds (fun e => hvq e) HQ3.out; have zf := hr.frozen 1; have y1 := hr.cell 1)
            have hz3 := hAp.out.keeps.size
            have hvb : ∀ g, (Value.slice A9 (done.length + 1) c9).ownBlock = some g → g < w3.heap.size ∧ g ≠ q := fun g e => by
              rw [World.size_alloc] at hz3
              rcases hAp.out.at_ with e2 | ⟨g2, e2, h3, h4⟩
              · rw [e2] at e
                have := hvz g e
                exact ⟨by omega, fun e3 => hvq (e3 ▸ e)⟩
              · rw [e2] at e
                have := Option.some.inj e
                rw [World.size_alloc] at h3
                exact ⟨by omega, by omega⟩
            have HQ5 := hidden (hr.set 1 (.slice A9 (done.length + 1) c9))
            have HR5 : Hid (Mine (w3.setCell ⟨q, 1, none⟩ (.slice A9 (done.length + 1) c9)) W.heap.size 47 4 (.slice A9 (done.length + 1) c9) (done ++ [y]).length ((done ++ [y]).flatMap itCells)) := hidden (by
              have h := hAp.out.mine.set (p := ⟨q, 1, none⟩) (fun e => (hvb _ e).2 rfl) (.slice A9 (done.length + 1) c9)
              rw [List.length_append, List.flatMap_append]
              simpa [List.flatMap_cons] using h)
            have hb5 := (hb3.trans hAp.out.below).setCell (p := ⟨q, 1, none⟩) hWq (.slice A9 (done.length + 1) c9)
            have hvq5 : (Value.slice A9 (done.length + 1) c9).ownBlock ≠ some q := fun e => (hvb _ e).2 rfl
            have hvz5 : ∀ g, (Value.slice A9 (done.length + 1) c9).ownBlock = some g → g < (w3.setCell ⟨q, 1, none⟩ (.slice A9 (done.length + 1) c9)).heap.size := fun g e => by rw [World.size_setCell]; exact (hvb g e).1
            clear hAp HM HX1 HQ3 hb2 hb3 hr
            go_roundg (ws.length - (k + 1))
            case measure => omega
            case rel => exact ⟨k + 1, done ++ [y], .slice A9 (done.length + 1) c9, by omega, by rw [List.length_append, List.length_singleton, hdn.out], rfl, by go_num, hb5, HQ5, HR5, hvq5, hvz5, HXt⟩
        · obtain rfl : k = ws.length := by omega
          have q5 : ¬ (ws.length : Int) < (ws.length : Int) := by omega
          have hXf : X = .inr ⟨{ x.g with prods := x.g.prods ++ [⟨n, done⟩] }, x.giv⟩ := by
            rw [← HXk.out, List.drop_length, itemsG]
            simp [itemsAcc, ruleEnd]
          have HA4 := hidden (HA.out wr hb)
          have HB4 := hidden hb
          have HQ4 := HQ
          have HV4 : Hid (Rd wr (ColdN W0 wr R B tv rv pv) 4 vR done.length (done.flatMap itCells)) := hidden (HRr.out.rd (fun g e h1 h2 => ⟨⟨h2, fun hh => by have := hwt.out g hh; omega⟩, by have := hB0.size; omega⟩))
          have hone : Hid (vR.oneCell' = true) := hidden (by obtain ⟨A, c, rfl⟩ := HRr.out.value; rfl)
          have hpq : pv.ownBlock ≠ some q := fun e => by have := hwt.out q (.inr (.inr (.inr (.inr e)))); omega
          clear HXk HQ HRr HA HS hvq hvR hb
          generalize wr = w4 at *
          go_upto_region 13 with fail
          have HAd := hidden (HA4.out.later (Below.drew (Below.refl _ _)))
          have HQd : Hid (Holds w4.drew q 50 #[.int .i64 n, vR]) := hidden HQ4.out
          have HVd : Hid (Rd w4.drew (ColdN W0 w4.drew R B tv rv pv) 4 vR done.length (done.flatMap itCells)) := hidden HV4.out
          have hba := hidden ((Below.refl w4.drew.heap.size w4.drew).alloc (Nat.le_refl _) (.cells #[.int .i64 n, vR] 50))
          have HH2 := hidden (HAd.out.later hba.out)
          have HQ2 := hidden (HQd.out.below hba.out HQd.out.lt)
          have HV2 : Hid (Rd (w4.drew.alloc (.cells #[.int .i64 n, vR] 50)) (ColdN W0 (w4.drew.alloc (.cells #[.int .i64 n, vR] 50)) R B tv rv pv) 4 vR done.length (done.flatMap itCells)) := hidden ((HVd.out.alloc _).mono (fun k hk => hk.grow (by rw [World.size_alloc]; omega)))
          have hx1 := prod_ones n vR hone.out
          have hsz : W0.heap.size ≤ (w4.drew.alloc (.cells #[.int .i64 n, vR] 50)).heap.size := HH2.out.below.size
          have HX : Hid (Rd (w4.drew.alloc (.cells #[.int .i64 n, vR] 50)) (fun _ => True) 2 (.slice (some ⟨w4.drew.heap.size, 0, none⟩) 1 1) 1 [.int .i64 n, vR]) := hidden (Rd.fresh (cs := [.int .i64 n, vR]) (n := 1) (size := 2) rfl (Nat.le_refl _) (by decide) trivial rfl)
          have HM := hidden HH2.out.mq
          have hCd : w4.drew.cell? ⟨R, 2, none⟩ = some pv ∧ w4.drew.cell? ⟨q, 0, none⟩ = some (.int .i64 n) ∧ w4.drew.cell? ⟨q, 1, none⟩ = some vR := ⟨HAd.out.rd.cell 2, HQd.out.cell 0, HQd.out.cell 1⟩
          have hC2 : (w4.drew.alloc (.cells #[.int .i64 n, vR] 50)).cell? ⟨R, 2, none⟩ = some pv ∧ (w4.drew.alloc (.cells #[.int .i64 n, vR] 50)).cell? ⟨q, 0, none⟩ = some (.int .i64 n) ∧ (w4.drew.alloc (.cells #[.int .i64 n, vR] 50)).cell? ⟨q, 1, none⟩ = some vR := ⟨HH2.out.rd.cell 2, HQ2.out.cell 0, HQ2.out.cell 1⟩
          refine (wpIn_wide (n := 5)).1 ?_
          refine wpIn_region_take (fun w9 => w9.cell? ⟨R, 2, none⟩ = some pv ∧ w9.cell? ⟨q, 0, none⟩ = some (.int .i64 n) ∧ w9.cell? ⟨q, 1, none⟩ = some vR) 12 (by kernel_rfl) ?_
          refine take_read (i := 0) (v := ?_) (by kernel_rfl) (by rfl) rfl (by rfl) (by kernel_rfl) (by kernel_rfl) (fun _ _ _ h => h) hCd ⟨Or.inl ⟨by rfl, fun w9 hw => ?_⟩, fun _ => rfl⟩ ?_
          rotate_left
          · obtain ⟨r0, r1, r2⟩ := hw
            go_simp
            try rfl
          refine take_read (i := 1) (v := ?_) (by kernel_rfl) (by rfl) rfl (by rfl) (by kernel_rfl) (by kernel_rfl) (fun _ _ _ h => h) hCd ⟨Or.inl ⟨by rfl, fun w9 hw => ?_⟩, fun _ => rfl⟩ ?_
          rotate_left
          · obtain ⟨r0, r1, r2⟩ := hw
            go_simp
            try rfl
          refine take_read (i := 2) (v := ?_) (by kernel_rfl) (by rfl) rfl (by rfl) (by kernel_rfl) (by kernel_rfl) (fun _ _ _ h => h) hCd ⟨Or.inl ⟨by rfl, fun w9 hw => ?_⟩, fun _ => rfl⟩ ?_
          rotate_left
          · obtain ⟨r0, r1, r2⟩ := hw
            go_simp
            try rfl
          refine take_read (i := 3) (v := ?_) (by kernel_rfl) (by rfl) rfl (by rfl) (by kernel_rfl) (by kernel_rfl) (fun _ _ _ h => h) hCd ⟨Or.inl ⟨by rfl, fun w9 hw => ?_⟩, fun _ => rfl⟩ ?_
          rotate_left
          · obtain ⟨r0, r1, r2⟩ := hw
            go_simp
            try rfl
          refine take_read (i := 4) (v := ?_) (by kernel_rfl) (by rfl) rfl (by rfl) (by kernel_rfl) (by kernel_rfl) (fun _ _ _ h => h) hCd ⟨Or.inl ⟨by rfl, fun w9 hw => ?_⟩, fun _ => rfl⟩ ?_
          rotate_left
          · obtain ⟨r0, r1, r2⟩ := hw
            go_simp
            try rfl
          refine take_read (i := 5) (v := ?_) (by kernel_rfl) (by rfl) rfl (by rfl) (by kernel_rfl) (by kernel_rfl) (fun _ _ _ h => h) hCd ⟨Or.inl ⟨by rfl, fun w9 hw => ?_⟩, fun _ => rfl⟩ ?_
          rotate_left
          · obtain ⟨r0, r1, r2⟩ := hw
            go_simp
            try rfl
          refine take_read (i := 6) (v := ?_) (by kernel_rfl) (by rfl) rfl (by rfl) (by kernel_rfl) (by kernel_rfl) (fun _ _ _ h => h) hCd ⟨Or.inl ⟨by rfl, fun w9 hw => ?_⟩, fun _ => rfl⟩ ?_
          rotate_left
          · obtain ⟨r0, r1, r2⟩ := hw
            go_simp
            try rfl
          refine take_only (i := 7) (by kernel_rfl) rfl rfl (by rfl) (fun K hK => ?_)
          go_simp
          refine hK _ _ hC2 ?_
          clear hK K
          refine take_only (i := 8) (by kernel_rfl) rfl rfl (by rfl) (fun K hK => ?_)
          refine opIn_append_all _ _ 25 50 rfl (by kernel_rfl) prod_info rfl (by decide) W0.heap.size pv x.g.prods.length (prodR.all x.g.prods lp) HM _ 1 [.int .i64 n, vR] HX hx1 rfl rfl (by omega) (by decide) hsz ?_
          intro v' w5 hA
          obtain ⟨A9, c9, rfl⟩ := hA.out.mine.value
          have hk := hA.out.keeps
          have hr := hk.holds (fun e => (HH2.out.ap.p _ e).2.1 rfl) HH2.out.rd
          have hqq := hk.holds (fun e => hpq e) HQ2.out
          have hF : w5.cell? ⟨R, 2, none⟩ = some pv ∧ w5.cell? ⟨q, 0, none⟩ = some (.int .i64 n) ∧ w5.cell? ⟨q, 1, none⟩ = some vR := ⟨hr.cell 2, hqq.cell 0, hqq.cell 1⟩
          refine hK _ _ hF ?_
          clear hK K
          refine take_read (i := 9) (v := ?_) (by kernel_rfl) (by rfl) rfl (by rfl) (by kernel_rfl) (by kernel_rfl) (fun _ _ _ h => h) hF ⟨Or.inl ⟨by rfl, fun w9 hw => ?_⟩, fun _ => rfl⟩ ?_
          rotate_left
          · obtain ⟨r0, r1, r2⟩ := hw
            go_simp
            try rfl
          refine take_read (i := 10) (v := ?_) (by kernel_rfl) (by rfl) rfl (by rfl) (by kernel_rfl) (by kernel_rfl) (fun _ _ _ h => h) hF ⟨Or.inl ⟨by rfl, fun w9 hw => ?_⟩, fun _ => rfl⟩ ?_
          rotate_left
          · obtain ⟨r0, r1, r2⟩ := hw
            go_simp
            try rfl
          refine take_read (i := 11) (v := ?_) (by kernel_rfl) (by rfl) rfl (by rfl) (by kernel_rfl) (by kernel_rfl) (fun _ _ _ h => h) hF ⟨Or.inl ⟨by rfl, fun w9 hw => ?_⟩, fun _ => rfl⟩ ?_
          rotate_left
          · obtain ⟨r0, r1, r2⟩ := hw
            go_simp
            try rfl
          have zf := hr.frozen 2
          have y2 := hr.cell 2
          have HP := hidden (HH2.out.prod (t := ⟨n, done⟩) (l := vR) hA.out HV2.out)
          have HFr : Hid (FrG R B tv rv pv W tv rv (.slice A9 (x.g.prods.length + 1) c9) (w5.setCell ⟨R, 2, none⟩ (.slice A9 (x.g.prods.length + 1) c9))) := hidden ((FrG.later (HB4.out.trans ((Below.drew (Below.refl _ _)).mono HB4.out.size))).trans ((FrG.later hba.out).trans (FrG.prod hA.out)))
          subst hXf
          clear hF hA hCd hC2
          refine take_tail (by kernel_rfl) (by kernel_rfl) ?_
          simp only [List.drop_succ_cons, List.drop_zero]
          gi_wp2
          go_wp2
          go_ret
          exact hidden ⟨rfl, _, _, _, _, _, HP.out, HFr.out⟩
end Go.Proofs.YtfmdmeokbbpmlaaGreat
