/-
  The document's tokens with which items begin (facsimileref22.Of).
-/
import Derived.Test.YtmlggfapnkhcaaaFirstB
import Derived.Test.YtmlggfapnkhcaaaTakeC
import Derived.Test.YtmlggfapnkhcaaaFirstF
import Derived.Test.YtmlggfapnkhcaaaNullV
namespace Go.Proofs.Ytmlggfapnkhcaaa
open Go.RowKit Go.Shelf
attribute [local simp] wide_fn

theorem eight22q {w : World} {g : Nat} {t : TypeId} {a b c d e f k h : Value} (H : Holds w g t #[a, b, c, d, e, f, k, h]) : w.cell? ⟨g, 0, none⟩ = some a ∧ w.cell? ⟨g, 1, none⟩ = some b ∧ w.cell? ⟨g, 2, none⟩ = some c ∧ w.cell? ⟨g, 3, none⟩ = some d ∧ w.cell? ⟨g, 4, none⟩ = some e ∧ w.cell? ⟨g, 5, none⟩ = some f ∧ w.cell? ⟨g, 6, none⟩ = some k ∧ w.cell? ⟨g, 7, none⟩ = some h :=
  ⟨H.cell 0, H.cell 1, H.cell 2, H.cell 3, H.cell 4, H.cell 5, H.cell 6, H.cell 7⟩
theorem rd_apart {w : World} {z size n : Nat} {ty : TypeId} {v : Value} {cs : List Value} (h : Rd w (Old w) size v n cs) (hz : Holds w z ty #[]) : Rd w (fun j => j < w.heap.size ∧ j ≠ z) size v n cs := by
  obtain ⟨hl, A, c, hv, h1, h2, h3⟩ := h
  refine ⟨hl, A, c, hv, h1, h2, fun h0 => ?_⟩
  obtain ⟨b, off, e, hT, hc⟩ := h3 h0
  refine ⟨b, off, e, ⟨hT, fun e9 => ?_⟩, hc⟩
  have hx := hc 0 cs[0] (List.getElem?_eq_getElem h0)
  rw [e9, hz.cell] at hx
  simp at hx
theorem right_range {g : Gram} (h : rightB g = true) : InRange g := by
  have hs := rightB_sound h
  exact ⟨hs.left, fun p hp x hx hr => hs.rule p hp x hx hr⟩
/-- The tokens with which items begin; none, of what is no grammar or names what is not. -/
noncomputable def firsts22 (g : Gram) (l : List Item) : List Int := if (rightB g && itemsIn g l) = true then firstL g (growsB g false) g.toks.length l else []
noncomputable def firstTo (g : Gram) (l : List Item) (n : Nat) : List Int := firstL g (growsB g false) n l
theorem firstTo_succ (g : Gram) (l : List Item) (n : Nat) : firstTo g l (n + 1) = firstTo g l n ++ if holdsB (StartsL g (growsB g false) (n : Int) l) = true then [(n : Int)] else [] := by
  unfold firstTo firstL
  rw [List.range_succ, List.filter_append, List.map_append]
  cases h : holdsB (StartsL g (growsB g false) (n : Int) l) <;> simp [h]
theorem firstTo_len (g : Gram) (l : List Item) (n : Nat) : (firstTo g l n).length ≤ n := by
  unfold firstTo firstL
  rw [List.length_map]
  have := List.length_filter_le (fun (t : Nat) => holdsB (StartsL g (growsB g false) (t : Int) l)) (List.range n)
  rwa [List.length_range] at this

set_option maxRecDepth 20000 in
set_option maxHeartbeats 16000000 in
theorem ref_Of22 (a b c v : Value) (g : Gram) (l : List Item) (w : World) (HG : GramIs w (Old w) a b c g) (hsm : Small g) (hR : Rd w (Old w) 4 v l.length (l.flatMap itCells)) :
    Calls Try.prog 20 #[.agg (gramCells a b c g), v] w fun r w' => (∃ u, r = .returned u ∧ Hid (IntsM w' w.heap.size u (firsts22 g l))) ∧ Below w.heap.size w w' := by
  have HRi := hidden (fun (w' : World) (hb : Below w.heap.size w w') => ref_Right21 a b c g w' (HG.old hb) hsm.toks hsm.rules hsm.prods hsm.names)
  have HIt := hidden (fun (w' : World) (hb : Below w.heap.size w w') => ref_Items21 a b c v g l w' (HG.old hb) (Rd.old hR hb))
  have HEm := hidden (fun (w' : World) (hb : Below w.heap.size w w') => ref_Empty21 a b c g w' (HG.old hb) hsm)
  have HGo := hidden (fun (w' : World) (hb : Below w.heap.size w w') => HG.old hb)
  have HRo := hidden (fun (w' : World) (hb : Below w.heap.size w w') => Rd.old hR hb)
  have h1 := hsm.toks; have h2 := hsm.rules
  obtain ⟨⟨A1, k1, rfl, v1, m1⟩, ⟨A2, k2, rfl, v2, m2⟩, ⟨A3, k3, rfl, v3, m3⟩⟩ := HG.vals
  obtain ⟨Al, cl, rfl, hl1, hl2⟩ := hR.val
  unfold maxLen at m1 m2 m3 hl2
  have HGk := hidden (Holds.alloc (Holds.new w 26 #[.slice A1 g.toks.length k1, .slice A2 g.rules.length k2, .slice A3 g.prods.length k3, .int .i64 g.start, .int .i64 g.states, .int .i64 g.text, .int .i64 g.nodes, .int .i64 g.pairs]) (.cells #[] 3))
  have hb0 : Below w.heap.size w ((w.alloc (.cells #[.slice A1 g.toks.length k1, .slice A2 g.rules.length k2, .slice A3 g.prods.length k3, .int .i64 g.start, .int .i64 g.states, .int .i64 g.text, .int .i64 g.nodes, .int .i64 g.pairs] 26)).alloc (.cells #[] 3)) := (by repeat (first | (with_reducible exact Below.refl _ _) | (with_reducible assumption) | (with_reducible refine Below.drew ?_) | (with_reducible refine below_drewN ?_ _) | ((with_reducible refine below_alloc ?_ ?_); (focus (first | omega | (simp; done) | (simp; omega)))) | ((with_reducible refine below_set ?_ ?_); (focus (first | omega | (simp; done) | (simp; omega))))))
  have HM0 : Hid (Mine ((w.alloc (.cells #[.slice A1 g.toks.length k1, .slice A2 g.rules.length k2, .slice A3 g.prods.length k3, .int .i64 g.start, .int .i64 g.states, .int .i64 g.text, .int .i64 g.nodes, .int .i64 g.pairs] 26)).alloc (.cells #[] 3)) w.heap.size 3 1 (.slice (some ⟨w.heap.size + 1, 0, none⟩) 0 0) 0 []) := hidden (.inr ⟨rfl, rfl, _, rfl⟩)
  have HZ : Hid (Holds ((w.alloc (.cells #[.slice A1 g.toks.length k1, .slice A2 g.rules.length k2, .slice A3 g.prods.length k3, .int .i64 g.start, .int .i64 g.states, .int .i64 g.text, .int .i64 g.nodes, .int .i64 g.pairs] 26)).alloc (.cells #[] 3)) (w.heap.size + 1) 3 #[]) := hidden (Holds.new_at (by simp))
  generalize hP : firsts22 g l = P
  have HP := hidden hP
  clear HG hR hP
  unfold gramCells at *
  cases hg : rightB g with
  | false =>
    rw [hg] at HRi
    have HE : Hid (P = []) := hidden (by rw [← HP.out]; unfold firsts22; rw [hg]; rfl)
    go_enter Try.func20, Try.ntmps20
    obtain ⟨s0, s1, s2, s3, s4, s5, s6, s7⟩ := eight22q HGk.out
    go_wp2_with fail
    refine (HRi.out _ hb0).mono ?_
    rintro r w2 ⟨rfl, hb2⟩
    replace HGk := hidden (HGk.out.below hb2 HGk.out.lt)
    replace HM0 := hidden (Mine.below HM0.out hb2)
    replace HZ := hidden (HZ.out.below hb2 HZ.out.lt)
    replace hb0 := hb0.trans (hb2.mono hb0.size)
    clear hb2 s0 s1 s2 s3 s4 s5 s6 s7
    go_wp2
    go_ret
    exact ⟨⟨_, rfl, by rw [HE.out]; exact HM0⟩, hb0⟩
  | true =>
    rw [hg] at HRi
    cases hi : itemsIn g l with
    | false =>
      rw [hi] at HIt
      have HE : Hid (P = []) := hidden (by rw [← HP.out]; unfold firsts22; rw [hi, Bool.and_false]; rfl)
      go_enter Try.func20, Try.ntmps20
      obtain ⟨s0, s1, s2, s3, s4, s5, s6, s7⟩ := eight22q HGk.out
      go_wp2_with fail
      refine (HRi.out _ hb0).mono ?_
      rintro r w2 ⟨rfl, hb2⟩
      replace HGk := hidden (HGk.out.below hb2 HGk.out.lt)
      replace HM0 := hidden (Mine.below HM0.out hb2)
      replace HZ := hidden (HZ.out.below hb2 HZ.out.lt)
      replace hb0 := hb0.trans (hb2.mono hb0.size)
      clear hb2 s0 s1 s2 s3 s4 s5 s6 s7
      obtain ⟨s0, s1, s2, s3, s4, s5, s6, s7⟩ := eight22q HGk.out
      go_wp2_with fail
      refine (HIt.out _ hb0).mono ?_
      rintro r w3 ⟨rfl, hb2⟩
      replace HGk := hidden (HGk.out.below hb2 HGk.out.lt)
      replace HM0 := hidden (Mine.below HM0.out hb2)
      replace HZ := hidden (HZ.out.below hb2 HZ.out.lt)
      replace hb0 := hb0.trans (hb2.mono hb0.size)
      clear hb2 s0 s1 s2 s3 s4 s5 s6 s7
      go_wp2
      go_ret
      exact ⟨⟨_, rfl, by rw [HE.out]; exact HM0⟩, hb0⟩
    | true =>
      rw [hi] at HIt
      have HE : Hid (P = firstTo g l g.toks.length) := hidden (by rw [← HP.out]; unfold firsts22 firstTo; rw [hg, hi]; rfl)
      have hrg := right_range hg
      have hir : ∀ x ∈ l, x.rule = true → 0 ≤ x.n ∧ x.n < g.rules.length := fun x hx hr => itemsIn_rule hi hx hr
      have HStq := hidden (fun (w0 : World) ve (t : Int) (hE : Bools w0 (Old w0) ve (growsB g false)) (hG : GramIs w0 (Old w0) (.slice A1 g.toks.length k1) (.slice A2 g.rules.length k2) (.slice A3 g.prods.length k3) g) hRd => ref_starts w0 _ _ _ ve (.slice Al l.length cl) g (growsB g false) t g.rules.length l hrg hG hE (by simp [growsB]) hir hRd (ref_begins w0 _ _ _ ve g (growsB g false) t hrg hG hE (by simp [growsB]) _))
      have HIff := hidden (fun (t : Int) => startN_iff hrg (em := growsB g false) (t := t) hir)
      go_enter Try.func20, Try.ntmps20
      obtain ⟨s0, s1, s2, s3, s4, s5, s6, s7⟩ := eight22q HGk.out
      go_wp2_with fail
      refine (HRi.out _ hb0).mono ?_
      rintro r w2 ⟨rfl, hb2⟩
      replace HGk := hidden (HGk.out.below hb2 HGk.out.lt)
      replace HM0 := hidden (Mine.below HM0.out hb2)
      replace HZ := hidden (HZ.out.below hb2 HZ.out.lt)
      replace hb0 := hb0.trans (hb2.mono hb0.size)
      clear hb2 s0 s1 s2 s3 s4 s5 s6 s7
      obtain ⟨s0, s1, s2, s3, s4, s5, s6, s7⟩ := eight22q HGk.out
      go_wp2_with fail
      refine (HIt.out _ hb0).mono ?_
      rintro r w3 ⟨rfl, hb2⟩
      replace HGk := hidden (HGk.out.below hb2 HGk.out.lt)
      replace HM0 := hidden (Mine.below HM0.out hb2)
      replace HZ := hidden (HZ.out.below hb2 HZ.out.lt)
      replace hb0 := hb0.trans (hb2.mono hb0.size)
      clear hb2 s0 s1 s2 s3 s4 s5 s6 s7
      obtain ⟨s0, s1, s2, s3, s4, s5, s6, s7⟩ := eight22q HGk.out
      go_wp2_with fail
      refine (HEm.out _ hb0).mono ?_
      rintro r w4 ⟨⟨ue, rfl, hue⟩, hb2⟩
      replace HGk := hidden (HGk.out.below hb2 HGk.out.lt)
      replace HM0 := hidden (Mine.below HM0.out hb2)
      replace HZ := hidden (HZ.out.below hb2 HZ.out.lt)
      replace hb0 := hb0.trans (hb2.mono hb0.size)
      have hEe : Bools w4 (Old w4) ue (growsB g false) := by
        have := hue.out
        unfold growsOr at this
        rwa [if_pos hg] at this
      have HEe := hidden hEe
      obtain ⟨Ae, ce, rfl, he1, he2⟩ := hEe.val
      clear hb2 s0 s1 s2 s3 s4 s5 s6 s7 hue hEe HRi HIt HEm
      have HEa := hidden (rd_apart HEe.out HZ.out)
      have hmk : ∀ w : World, (Instr.makeSlice 42 (.int .i64 (g.rules.length : Int)) (.int .i64 (g.rules.length : Int))).run Try.prog w = .ok (.slice (some ⟨w.heap.size, 0, none⟩) g.rules.length g.rules.length) (w.alloc (.cells (bcells (List.replicate g.rules.length false)) 4)) := fun w => by
        rw [← made_bools]
        exact run_make_row' (P := Try.prog) 42 4 (.bool false) 1 (by kernel_rfl) (by kernel_rfl) rfl .i64 .i64 g.rules.length (by omega) (by omega) w
      have HMk := hidden hmk
      have HSu := hidden (firstTo_succ g l)
      have HLn := hidden (firstTo_len g l)
      have h00 : firstTo g l 0 = [] := rfl
      have HM1 : Hid (IntsM w4 w.heap.size (.slice (some ⟨w.heap.size + 1, 0, none⟩) 0 0) (firstTo g l 0)) := hidden (by rw [h00]; exact HM0.out)
      clear hmk h00 HM0 HEe
      have HG4 := HGk
      go_wp2
      go_loopg [5, 7] g.toks.length (fun gh oo tt wr => ∃ n : Nat, n ≤ g.toks.length ∧ gh = g.toks.length - n ∧ tt = .int .i64 n ∧ Hid (IntsM wr w.heap.size oo (firstTo g l n)) ∧ Hid (oo.ownBlock = some (w.heap.size + 1) ∨ ∃ q, oo.ownBlock = some q ∧ w4.heap.size ≤ q) ∧ Keeps (fun j => j ≠ w.heap.size + 1) w4 wr ∧ Below w.heap.size w wr)
      case atStart => exact ⟨0, by omega, by omega, by go_num, HM1, hidden (.inl rfl), Keeps.refl _ _, hb0⟩
      case round =>
        clear HM1 hb0
        obtain ⟨n, hn, rfl, rfl, HM, HO, hk4, hbr⟩ := hrel
        have hgl4 := HG4.out.lt
        have HGk := hidden (hk4.holds (T := fun j => j ≠ w.heap.size + 1) (by omega) HG4.out)
        have g0 : wr.cell? ⟨w.heap.size, 0, none⟩ = some (.slice A1 g.toks.length k1) := HGk.out.cell 0
        have hgl := HGk.out.lt
        by_cases hlt : n < g.toks.length
        · have hEw : Bools wr (Old wr) (.slice Ae (growsB g false).length ce) (growsB g false) := (Rd.keeps HEa.out ⟨hk4.size, fun j hj hl => hk4.block j hj.2 hl⟩).mono (fun j hj => Nat.lt_of_lt_of_le hj.1 hk4.size)
          have HEw := hidden hEw
          have hmk := HMk.out
          clear hEw
          go_wp2_with fail
          refine (wpIn_wide (n := 5)).1 ?_
          refine wpIn_region_take (fun wv => Below wr.heap.size wr wv) 8 (by kernel_rfl) ?_
          have hCd : Below wr.heap.size wr wr.drew := (Below.refl _ _).drew
          refine take_read (i := 0) (v := ?_) (by kernel_rfl) (by rfl) rfl (by rfl) (by kernel_rfl) (by kernel_rfl) (fun _ _ _ h => h) hCd ⟨Or.inl ⟨by rfl, fun wv hw => ?_⟩, fun _ => rfl⟩ ?_
          rotate_left
          · obtain ⟨r0, r1, r2, r3, r4, r5, r6, r7⟩ := eight22q (HGk.out.below hw HGk.out.lt); clear hw
            go_simp
            try rfl
          refine take_read (i := 1) (v := ?_) (by kernel_rfl) (by rfl) rfl (by rfl) (by kernel_rfl) (by kernel_rfl) (fun _ _ _ h => h) hCd ⟨Or.inl ⟨by rfl, fun wv hw => ?_⟩, fun _ => rfl⟩ ?_
          rotate_left
          · clear hw
            go_simp
            try rfl
          refine take_read (i := 2) (v := ?_) (by kernel_rfl) (by rfl) rfl (by rfl) (by kernel_rfl) (by kernel_rfl) (fun _ _ _ h => h) hCd ⟨Or.inl ⟨by rfl, fun wv hw => ?_⟩, fun _ => rfl⟩ ?_
          rotate_left
          · clear hw
            go_simp
            try rfl
          refine take_read (i := 3) (v := ?_) (by kernel_rfl) (by rfl) rfl (by rfl) (by kernel_rfl) (by kernel_rfl) (fun _ _ _ h => h) hCd ⟨Or.inl ⟨by rfl, fun wv hw => ?_⟩, fun _ => rfl⟩ ?_
          rotate_left
          · clear hw
            go_simp
            try rfl
          refine take_read (i := 4) (v := ?_) (by kernel_rfl) (by rfl) rfl (by rfl) (by kernel_rfl) (by kernel_rfl) (fun _ _ _ h => h) hCd ⟨Or.inl ⟨by rfl, fun wv hw => ?_⟩, fun _ => rfl⟩ ?_
          rotate_left
          · clear hw
            go_simp
            try rfl
          refine take_read (i := 5) (v := ?_) (by kernel_rfl) (by rfl) rfl (by rfl) (by kernel_rfl) (by kernel_rfl) (fun _ _ _ h => h) hCd ⟨Or.inl ⟨by rfl, fun wv hw => ?_⟩, fun _ => rfl⟩ ?_
          rotate_left
          · obtain ⟨r0, r1, r2, r3, r4, r5, r6, r7⟩ := eight22q (HGk.out.below hw HGk.out.lt); clear hw
            go_simp
            try rfl
          refine take_read (i := 6) (v := ?_) (by kernel_rfl) (by rfl) rfl (by rfl) (by kernel_rfl) (by kernel_rfl) (fun _ _ _ h => h) hCd ⟨Or.inl ⟨by rfl, fun wv hw => ?_⟩, fun _ => rfl⟩ ?_
          rotate_left
          · clear hw
            go_simp
            try rfl
          generalize hwd : wr.drew = wd at *
          have hzd := hCd.size
          clear hwd
          refine take_only (i := 7) (by kernel_rfl) rfl rfl (by rfl) (fun K hK => ?_)
          go_simp
          refine hK _ _ (hCd.alloc hzd _) ?_
          clear hK K
          refine take_tail (by kernel_rfl) (by kernel_rfl) ?_
          simp only [List.drop_succ_cons, List.drop_zero]
          have hbwd : Below w.heap.size w wd := hbr.trans (hCd.mono hbr.size)
          have HC := hidden (HStq.out wd _ (n : Int) (Rd.old HEw.out hCd) (HGo.out wd hbwd) (HRo.out wd hbwd) (wd.alloc (.cells (bcells (List.replicate g.rules.length false)) 4)) wd.heap.size (List.replicate g.rules.length false) ((Below.refl _ _).alloc (Nat.le_refl _) _) (Nat.le_refl _) (Holds.new _ _ _) (by simp) (by unfold falses; simp))
          have HI := hidden (HIff.out (n : Int))
          have HSn := hidden (HSu.out n)
          have HLl := HLn.out n
          clear HEw hmk g0 HGk
          generalize startN (begN g (growsB g false) (n : Int) g.rules.length) (growsB g false) (n : Int) l (List.replicate g.rules.length false) = o at *
          gi_wp2_with fail
          refine CallsIn.mono (F := Fence.wide) (callsIn_wide.2 HC.out) ?_
          rintro rr w6 ⟨rfl, _, hb6⟩
          have hw6 : Below wr.heap.size wr w6 := (hCd.alloc hzd _).trans (hb6.out.below hzd (by simp; omega))
          have hbr6 := hbr.trans (hw6.mono hbr.size)
          have hk6 : Keeps (fun j => j ≠ w.heap.size + 1) w4 w6 := hk4.trans ⟨hw6.size, fun j _ hl => hw6.block j hl⟩
          have HM6 := hidden (Mine.below HM.out hw6)
          have h64 := hk6.size
          have hz6 := hbr6.size
          clear hb6 hw6 hCd hzd HC hbwd HM hbr hk4
          obtain ⟨ob, s2⟩ := o
          cases ob with
          | true =>
            have HSn2 : Hid (firstTo g l (n + 1) = firstTo g l n ++ [(n : Int)]) := hidden (by rw [HSn.out, if_pos (holdsB_iff.2 (HI.out.1 rfl))])
            clear HSn HI
            generalize firstTo g l n = fn at *
            go_wp2_with fail
            refine wpListIn_nil ?_
            go_wp2_with (at_builtin; refine wpList_append_ia rfl _ _ rfl w.heap.size _ fn HM6 (n : Int) rfl rfl rfl (by first | rfl | simp) (by omega) (by omega) ?_; intro v' w' hM hb9 hK hO)
            have hkn : Hid (Keeps (fun j => j ≠ w.heap.size + 1) w4 w') := hidden ⟨Nat.le_trans h64 hK.out.size, fun j hj hl => by
              rw [hK.out.block j (by rcases HO.out with e | ⟨q, e, h9⟩ <;> rw [e] <;> intro e9 <;> cases e9 <;> omega) (by omega), hk6.block j hj hl]⟩
            have HOn : Hid (v'.ownBlock = some (w.heap.size + 1) ∨ ∃ q, v'.ownBlock = some q ∧ w4.heap.size ≤ q) := hidden (by
              rcases hO.out with e | ⟨q, e, h1, h2⟩
              · rw [e]; exact HO.out
              · exact .inr ⟨q, e, by omega⟩)
            have hbn := hbr6.trans hb9
            go_roundg (g.toks.length - (n + 1))
            case measure => omega
            case rel => exact ⟨n + 1, by omega, rfl, by go_num, hidden (by rw [HSn2.out]; exact hM.out), HOn, hkn.out, hbn⟩
          | false =>
            have HSn2 : Hid (firstTo g l (n + 1) = firstTo g l n) := hidden (by
              rw [HSn.out, if_neg, List.append_nil]
              intro h
              have := HI.out.2 (holdsB_iff.1 h)
              cases this)
            clear HSn HI
            go_wp2_with fail
            refine wpListIn_nil ?_
            go_wp2
            go_roundg (g.toks.length - (n + 1))
            case measure => omega
            case rel => exact ⟨n + 1, by omega, rfl, by go_num, hidden (by rw [HSn2.out]; exact HM6.out), HO, hk6, hbr6⟩
        · obtain rfl : n = g.toks.length := by omega
          go_wp2
          go_ret
          exact ⟨⟨_, rfl, by rw [HE.out]; exact HM⟩, hbr⟩
end Go.Proofs.Ytmlggfapnkhcaaa
