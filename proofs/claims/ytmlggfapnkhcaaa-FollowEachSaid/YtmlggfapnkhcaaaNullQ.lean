/-
  null.every, at the questions of Empty and Makes; null.Empty, null.Makes.
-/
import Derived.Test.YtmlggfapnkhcaaaNullO
namespace Go.Proofs.Ytmlggfapnkhcaaa
open Go.RowKit Go.Shelf

theorem growth_grows {g : Gram} (hs : Sound g) (tk : Bool) : Growth g g.rules.length (stepG tk) (fun s p => !(atB s p.left) && p.right.all (itemSo s tk)) (SoundB g (Grows g tk)) where
  le := stepG_le tk
  no := fun s p _ _ h => by
    unfold stepG
    split
    · rename_i ha
      rw [ha, Bool.and_true, Bool.not_eq_false'] at h
      exact set_same (atB_iff.1 h)
    · rfl
  yes := fun s p hI hp h => by
    rw [Bool.and_eq_true, Bool.not_eq_true'] at h
    unfold stepG
    rw [if_pos h.2]
    have hl := hs.left p hp
    have hx := List.getElem?_eq_getElem (show p.left.toNat < s.length by rw [hI.1]; omega)
    refine set_more ?_
    have h1 := h.1
    unfold atB at h1
    rw [List.getD_eq_getElem?_getD, hx] at h1
    rw [hx]
    exact congrArg some h1
  inv := fun s p h hp => stepG_sound hs hp h
  len := fun s h => h.1
theorem growth_reach {g : Gram} (hs : Sound g) : Growth g g.rules.length stepR newsR (SoundB g (Reach g)) where
  le := stepR_le
  no := fun s p _ _ h => by
    unfold newsR at h
    have h1 := trues_mono (stepR_le s p)
    exact (h1.2 (by have := of_decide_eq_false h; omega)).symm
  yes := fun s p _ _ h => of_decide_eq_true h
  inv := fun s p h hp => stepR_sound hs hp h
  len := fun s h => h.1
/-- What comes of a question for a set: nothing, of a grammar that is not right. -/
def SetIs (w : World) (v : Value) (n : Nat) (ok : Bool) (s : List Bool) : Prop := if ok = true then ∃ q, v = .slice (some ⟨q, 0, none⟩) n n ∧ BoolsAt w q s ∧ s.length = n else v = .slice none 0 0
theorem SetIs.row {w : World} {v : Value} {n : Nat} {ok : Bool} {s : List Bool} (h : SetIs w v n ok s) (hn : n ≤ maxLen) : Bools w (Old w) v (if ok = true then s else []) := by
  unfold SetIs at h
  split at h
  · rename_i e
    obtain ⟨q, rfl, hb, hl⟩ := h
    rw [if_pos e]
    exact hb.row hl.symm hb.lt hn
  · rename_i e
    rw [if_neg e, h]
    exact ⟨rfl, _, 0, rfl, Nat.le_refl _, by decide, fun h => by simp at h⟩

set_option maxRecDepth 20000 in
set_option maxHeartbeats 8000000 in
theorem null_every_Empty (a b c : Value) (g : Gram) (w : World) (HG : GramIs w (Old w) a b c g) (hsm : Small g) :
    Calls Try.prog 110 #[.agg (gramCells a b c g), .func (.func 111) #[] #[]] w fun r w' => (∃ u, r = .returned u ∧ Hid (SetIs w' u g.rules.length (rightB g) (growsB g false))) ∧ Below w.heap.size w w' := by
  have HRt := hidden (fun (w' : World) (hb : Below w.heap.size w w') => gram_Right a b c g w' (HG.old hb) hsm.toks hsm.rules hsm.prods hsm.names)
  have HGo := hidden HG
  have HSd := hidden (@rightB_sound g)
  have hr := hsm.rules
  obtain ⟨⟨A1, k1, rfl, v1, m1⟩, ⟨A2, k2, rfl, v2, m2⟩, ⟨A3, k3, rfl, v3, m3⟩⟩ := HG.vals
  clear HG hsm
  unfold gramCells at *
  unfold maxLen at m2 m3
  generalize rightB g = rb at *
  have hb := Below.refl w.heap.size w
  cases rb
  · go_enter Try.func110, Try.ntmps110
    go_wp2_with fail
    refine (HRt.out _ ?_).mono ?_
    · exact (by repeat (first | (with_reducible exact Below.refl _ _) | (with_reducible assumption) | (with_reducible refine Below.drew ?_) | (with_reducible refine below_drewN ?_ _) | ((with_reducible refine below_alloc ?_ ?_); (focus (first | omega | (simp; done) | (simp; omega)))) | ((with_reducible refine below_set ?_ ?_); (focus (first | omega | (simp; done) | (simp; omega))))))
    rintro r w2 ⟨rfl, hb2⟩
    have hbw : Below w.heap.size w w2 := Below.trans (by repeat (first | (with_reducible exact Below.refl _ _) | (with_reducible assumption) | (with_reducible refine Below.drew ?_) | (with_reducible refine below_drewN ?_ _) | ((with_reducible refine below_alloc ?_ ?_); (focus (first | omega | (simp; done) | (simp; omega)))) | ((with_reducible refine below_set ?_ ?_); (focus (first | omega | (simp; done) | (simp; omega)))))) (hb2.mono (by simp; omega))
    have hbz := hbw.size
    clear hb2
    go_wp2
    go_ret
    exact ⟨⟨_, rfl, hidden rfl⟩, hbw⟩
  · have hsd := HSd.out rfl
    have HSD := hidden hsd
    have HGw := hidden (growth_grows hsd false)
    have HS0 := hidden (start_sound g (Grows g false))
    clear hsd HSd
    have hmk : ∀ w, (Instr.makeSlice 42 (.int .i64 (g.rules.length : Int)) (.int .i64 (g.rules.length : Int))).run Try.prog w = .ok (.slice (some ⟨w.heap.size, 0, none⟩) g.rules.length g.rules.length) (w.alloc (.cells (bcells (List.replicate g.rules.length false)) 4)) := fun w => by
      rw [← made_bools]
      exact run_make_row' (P := Try.prog) 42 4 (.bool false) 1 (by kernel_rfl) (by kernel_rfl) rfl .i64 .i64 g.rules.length (by omega) (by omega) w
    go_enter Try.func110, Try.ntmps110
    go_wp2_with fail
    refine (HRt.out _ ?_).mono ?_
    · exact (by repeat (first | (with_reducible exact Below.refl _ _) | (with_reducible assumption) | (with_reducible refine Below.drew ?_) | (with_reducible refine below_drewN ?_ _) | ((with_reducible refine below_alloc ?_ ?_); (focus (first | omega | (simp; done) | (simp; omega)))) | ((with_reducible refine below_set ?_ ?_); (focus (first | omega | (simp; done) | (simp; omega))))))
    rintro r w2 ⟨rfl, hb2⟩
    have hbw : Below w.heap.size w w2 := Below.trans (by repeat (first | (with_reducible exact Below.refl _ _) | (with_reducible assumption) | (with_reducible refine Below.drew ?_) | (with_reducible refine below_drewN ?_ _) | ((with_reducible refine below_alloc ?_ ?_); (focus (first | omega | (simp; done) | (simp; omega)))) | ((with_reducible refine below_set ?_ ?_); (focus (first | omega | (simp; done) | (simp; omega)))))) (hb2.mono (by simp; omega))
    have P3 := hidden (Holds.below (show Holds _ w.heap.size 26 #[.slice A1 g.toks.length k1, .slice A2 g.rules.length k2, .slice A3 g.prods.length k3, .int .i64 g.start, .int .i64 g.states, .int .i64 g.text, .int .i64 g.nodes, .int .i64 g.pairs] from (by repeat (first | (with_reducible assumption) | ((with_reducible refine holds_new ?_); (focus (first | rfl | (simp; done)))) | (with_reducible refine Holds.alloc ?_ _) | (with_reducible refine Holds.drew ?_)))) hb2 (by simp; omega))
    have P5 := hidden (Holds.below (show Holds _ (w.heap.size + 1) 135 #[.func (.func 111) #[] #[]] from (by repeat (first | (with_reducible assumption) | ((with_reducible refine holds_new ?_); (focus (first | rfl | (simp; done)))) | (with_reducible refine Holds.alloc ?_ _) | (with_reducible refine Holds.drew ?_)))) hb2 (by simp))
    obtain ⟨s0, s1, s2, s3, s4, s5, s6, s7⟩ := eight P3.out
    have hz2 : w.heap.size + 1 < w2.heap.size := by have := hb2.size; simp at this; omega
    have hz1 : w.heap.size < w2.heap.size := by omega
    clear hb2 HRt hb
    have HB0 := hidden (Holds.new w2 4 (bcells (List.replicate g.rules.length false)))
    have HL0 : Hid ((List.replicate g.rules.length false).length = g.rules.length) := hidden (by simp)
    generalize List.replicate g.rules.length false = st0 at *
    have HEv : Hid (EvAt (w2.heap.size + 1) (w.heap.size + 1) w2.heap.size g.rules.length 111 st0 ((w2.alloc (.cells (bcells st0) 4)).alloc (.cells #[.slice (some ⟨w2.heap.size, 0, none⟩) g.rules.length g.rules.length] 42))) := hidden ⟨Holds.new_at (by simp), (P5.out.alloc _).alloc _, HB0.out.alloc _, HL0.out⟩
    have HB3 := hidden ((hbw.alloc hbw.size (.cells (bcells st0) 4)).alloc (by have := hbw.size; simp; omega) (.cells #[.slice (some ⟨w2.heap.size, 0, none⟩) g.rules.length g.rules.length] 42))
    have HGr := hidden (grow_every g (.slice A3 g.prods.length k3) g.rules.length w2.heap.size #[.pointer (some ⟨w2.heap.size + 1, 0, none⟩), .pointer (some ⟨w.heap.size + 1, 0, none⟩)] (stepG false) _ (SoundB g (Grows g false)) (EvAt (w2.heap.size + 1) (w.heap.size + 1) w2.heap.size g.rules.length 111) HGw.out st0 _ HEv.out HS0.out
      ((HGo.out.2.2.below HB3.out (fun _ h => h)).mono (fun k (hk : k < w.heap.size) => ⟨by simp; omega, by omega⟩)) (fun s w1 w1' h hb => h.next hb) (fun s w1 h => h.at_.lt)
      (fun s p l1 w' h hI hp hR => ev_Empty p l1 _ _ _ _ s w' h (by omega) (by omega) hR (HSD.out.left p hp) (HSD.out.rule p hp) hr) ⟨_, _, rfl⟩)
    clear HGw
    go_wp2_with fail
    refine HGr.out.mono ?_
    rintro r w4 ⟨rfl, ⟨s, hst, hI, hp, hle⟩, hbt⟩
    have HF := hidden (grows_fix HSD.out hI hp)
    have e0 := hst.is_.c0
    have hlt := hst.is_.lt
    have hB4 := hidden (HB3.out.trans (hbt.below (B := w.heap.size) (by omega) (by simp; omega)))
    have HSf : Hid (BoolsAt w4 w2.heap.size s ∧ s.length = g.rules.length) := hidden ⟨hst.at_, hst.len⟩
    clear hst hI hp hle hbt HGr HB3
    go_wp2
    go_ret
    refine ⟨⟨_, rfl, hidden ?_⟩, hB4.out⟩
    unfold SetIs
    rw [if_pos rfl, ← HF.out]
    exact ⟨_, rfl, HSf.out.1, HSf.out.2⟩

set_option maxRecDepth 20000 in
theorem null_Empty (a b c : Value) (g : Gram) (w : World) (HG : GramIs w (Old w) a b c g) (hsm : Small g) :
    Calls Try.prog 78 #[.agg (gramCells a b c g)] w fun r w' => (∃ u, r = .returned u ∧ Hid (SetIs w' u g.rules.length (rightB g) (growsB g false))) ∧ Below w.heap.size w w' := by
  have HEv := hidden (fun (w' : World) (hb : Below w.heap.size w w') => null_every_Empty a b c g w' (HG.old hb) hsm)
  obtain ⟨⟨A1, k1, rfl, v1, m1⟩, ⟨A2, k2, rfl, v2, m2⟩, ⟨A3, k3, rfl, v3, m3⟩⟩ := HG.vals
  clear HG hsm
  unfold gramCells at *
  have hb := Below.refl w.heap.size w
  go_enter Try.func78, Try.ntmps78
  go_wp2_with fail
  refine (HEv.out _ ?_).mono ?_
  · exact (by repeat (first | (with_reducible exact Below.refl _ _) | (with_reducible assumption) | (with_reducible refine Below.drew ?_) | (with_reducible refine below_drewN ?_ _) | ((with_reducible refine below_alloc ?_ ?_); (focus (first | omega | (simp; done) | (simp; omega)))) | ((with_reducible refine below_set ?_ ?_); (focus (first | omega | (simp; done) | (simp; omega))))))
  rintro r w2 ⟨⟨u, rfl, hu⟩, hb2⟩
  have hbw : Below w.heap.size w w2 := Below.trans (by repeat (first | (with_reducible exact Below.refl _ _) | (with_reducible assumption) | (with_reducible refine Below.drew ?_) | (with_reducible refine below_drewN ?_ _) | ((with_reducible refine below_alloc ?_ ?_); (focus (first | omega | (simp; done) | (simp; omega)))) | ((with_reducible refine below_set ?_ ?_); (focus (first | omega | (simp; done) | (simp; omega)))))) (hb2.mono (by simp))
  clear hb2
  go_wp2
  go_ret
  exact ⟨⟨_, rfl, hu⟩, hbw⟩

end Go.Proofs.Ytmlggfapnkhcaaa
