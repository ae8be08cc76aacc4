/-
  null.Reached, null.Void.
-/
import Derived.Test.YtmlggfapnkhcaaaNullQ
import Derived.Lib.SliceRun
namespace Go.Proofs.Ytmlggfapnkhcaaa
open Go.RowKit Go.Shelf

set_option maxRecDepth 20000 in
set_option maxHeartbeats 8000000 in
theorem null_Reached (a b c : Value) (g : Gram) (w : World) (HG : GramIs w (Old w) a b c g) (hsm : Small g) :
    Calls Try.prog 79 #[.agg (gramCells a b c g)] w fun r w' => (∃ u, r = .returned u ∧ Hid (SetIs w' u g.rules.length (rightB g) (reachB g))) ∧ Below w.heap.size w w' := by
  have HRt := hidden (fun (w' : World) (hb : Below w.heap.size w w') => gram_Right a b c g w' (HG.old hb) hsm.toks hsm.rules hsm.prods hsm.names)
  have HGo := hidden HG
  have HSd := hidden (@rightB_sound g)
  have hr := hsm.rules
  obtain ⟨⟨A1, k1, rfl, v1, m1⟩, ⟨A2, k2, rfl, v2, m2⟩, ⟨A3, k3, rfl, v3, m3⟩⟩ := HG.vals
  clear HG hsm
  unfold gramCells at *
  unfold maxLen at m2 m3
  generalize rightB g = rb at *
  have hb := Below.refl w.heap.size w
  cases rb
  · go_enter Try.func79, Try.ntmps79
    go_wp2_with fail
    refine (HRt.out _ ?_).mono ?_
    · exact (by repeat (first | (with_reducible exact Below.refl _ _) | (with_reducible assumption) | (with_reducible refine Below.drew ?_) | (with_reducible refine below_drewN ?_ _) | ((with_reducible refine below_alloc ?_ ?_); (focus (first | omega | (simp; done) | (simp; omega)))) | ((with_reducible refine below_set ?_ ?_); (focus (first | omega | (simp; done) | (simp; omega))))))
    rintro r w2 ⟨rfl, hb2⟩
    have hbw : Below w.heap.size w w2 := Below.trans (by repeat (first | (with_reducible exact Below.refl _ _) | (with_reducible assumption) | (with_reducible refine Below.drew ?_) | (with_reducible refine below_drewN ?_ _) | ((with_reducible refine below_alloc ?_ ?_); (focus (first | omega | (simp; done) | (simp; omega)))) | ((with_reducible refine below_set ?_ ?_); (focus (first | omega | (simp; done) | (simp; omega)))))) (hb2.mono (by simp))
    have hbz := hbw.size
    clear hb2
    go_wp2
    go_ret
    exact ⟨⟨_, rfl, hidden rfl⟩, hbw⟩
  · have hsd := HSd.out rfl
    have HSD := hidden hsd
    have HGw := hidden (growth_reach hsd)
    have HS0 := hidden (reach_start hsd)
    clear hsd HSd
    have hmk : ∀ w, (Instr.makeSlice 42 (.int .i64 (g.rules.length : Int)) (.int .i64 (g.rules.length : Int))).run Try.prog w = .ok (.slice (some ⟨w.heap.size, 0, none⟩) g.rules.length g.rules.length) (w.alloc (.cells (bcells (List.replicate g.rules.length false)) 4)) := fun w => by
      rw [← made_bools]
      exact run_make_row' (P := Try.prog) 42 4 (.bool false) 1 (by kernel_rfl) (by kernel_rfl) rfl .i64 .i64 g.rules.length (by omega) (by omega) w
    go_enter Try.func79, Try.ntmps79
    go_wp2_with fail
    refine (HRt.out _ ?_).mono ?_
    · exact (by repeat (first | (with_reducible exact Below.refl _ _) | (with_reducible assumption) | (with_reducible refine Below.drew ?_) | (with_reducible refine below_drewN ?_ _) | ((with_reducible refine below_alloc ?_ ?_); (focus (first | omega | (simp; done) | (simp; omega)))) | ((with_reducible refine below_set ?_ ?_); (focus (first | omega | (simp; done) | (simp; omega))))))
    rintro r w2 ⟨rfl, hb2⟩
    have hbw : Below w.heap.size w w2 := Below.trans (by repeat (first | (with_reducible exact Below.refl _ _) | (with_reducible assumption) | (with_reducible refine Below.drew ?_) | (with_reducible refine below_drewN ?_ _) | ((with_reducible refine below_alloc ?_ ?_); (focus (first | omega | (simp; done) | (simp; omega)))) | ((with_reducible refine below_set ?_ ?_); (focus (first | omega | (simp; done) | (simp; omega)))))) (hb2.mono (by simp))
    have P3 := hidden (Holds.below (show Holds _ w.heap.size 26 #[.slice A1 g.toks.length k1, .slice A2 g.rules.length k2, .slice A3 g.prods.length k3, .int .i64 g.start, .int .i64 g.states, .int .i64 g.text, .int .i64 g.nodes, .int .i64 g.pairs] from (by repeat (first | (with_reducible assumption) | ((with_reducible refine holds_new ?_); (focus (first | rfl | (simp; done)))) | (with_reducible refine Holds.alloc ?_ _) | (with_reducible refine Holds.drew ?_)))) hb2 (by simp))
    obtain ⟨s0, s1, s2, s3, s4, s5, s6, s7⟩ := eight P3.out
    have hz2 : w.heap.size < w2.heap.size := by have := hb2.size; simp at this; omega
    clear hb2 HRt hb
    obtain ⟨m0, hm0⟩ : ∃ m0 : Nat, g.start = (m0 : Int) := ⟨g.start.toNat, by have := HSD.out.start; omega⟩
    have hm0l : m0 < g.rules.length := by have := HSD.out.start; omega
    rw [hm0] at s3
    rw [hm0, Int.toNat_natCast] at HS0
    have HBz : BoolsAt (w2.alloc (.cells (bcells (List.replicate g.rules.length false)) 4)) w2.heap.size (List.replicate g.rules.length false) := Holds.new w2 4 (bcells (List.replicate g.rules.length false))
    have zz : (w2.alloc (.cells (bcells (List.replicate g.rules.length false)) 4)).cell? ⟨w2.heap.size, m0, none⟩ = some (.bool false) := HBz.at_ (by rw [List.getElem?_replicate, if_pos hm0l])
    have zq : (bcells (List.replicate g.rules.length false))[m0]? = some (.bool false) := by unfold bcells; simp [hm0l]
    clear zz
    have hbs : (bcells (List.replicate g.rules.length false)).setIfInBounds m0 (.bool true) = bcells ((List.replicate g.rules.length false).set m0 true) := by unfold bcells; rw [List.map_set, List.setIfInBounds_toArray]
    have HB0 : Hid (BoolsAt (w2.alloc (.cells ((bcells (List.replicate g.rules.length false)).setIfInBounds m0 (.bool true)) 4)) w2.heap.size ((List.replicate g.rules.length false).set m0 true)) := hidden (Holds.of_eq (Holds.new _ _ _) hbs)
    have hb4 := hidden ((hbw.alloc hbw.size (.cells ((bcells (List.replicate g.rules.length false)).setIfInBounds m0 (.bool true)) 4)).alloc (by have := hbw.size; simp; omega) (.cells #[.slice (some ⟨w2.heap.size, 0, none⟩) g.rules.length g.rules.length] 42))
    clear hbs
    have HL0 : Hid (((List.replicate g.rules.length false).set m0 true).length = g.rules.length) := hidden (by simp)
    clear HBz
    have HEv : Hid (EvR (w2.heap.size + 1) w2.heap.size g.rules.length ((List.replicate g.rules.length false).set m0 true) ((w2.alloc (.cells ((bcells (List.replicate g.rules.length false)).setIfInBounds m0 (.bool true)) 4)).alloc (.cells #[.slice (some ⟨w2.heap.size, 0, none⟩) g.rules.length g.rules.length] 42))) := hidden ⟨Holds.new_at (by simp), HB0.out.alloc _, HL0.out⟩
    generalize (List.replicate g.rules.length false).set m0 true = st0 at *
    have HGr := hidden (grow_reached g (.slice A3 g.prods.length k3) g.rules.length w2.heap.size #[.pointer (some ⟨w2.heap.size + 1, 0, none⟩)] stepR newsR (SoundB g (Reach g)) (EvR (w2.heap.size + 1) w2.heap.size g.rules.length) HGw.out st0 _ HEv.out HS0.out.1
      ((HGo.out.2.2.below hb4.out (fun _ h => h)).mono (fun k (hk : k < w.heap.size) => ⟨by simp; omega, by omega⟩)) (fun s w1 w1' h hb => h.next hb) (fun s w1 h => h.at_.lt)
      (fun s p l1 w' h hI hp hR => ev_Reached p l1 _ _ _ s w' h (by omega) hR (HSD.out.left p hp) (HSD.out.rule p hp)) ⟨_, rfl⟩)
    clear HGw HEv
    go_wp2_with fail
    refine HGr.out.mono ?_
    rintro r w4 ⟨rfl, ⟨s, hst, hI, hp, hle⟩, hbt⟩
    have HF := hidden (reach_fix HSD.out hI (by rw [hm0, Int.toNat_natCast]; exact hle.2 m0 HS0.out.2) hp)
    have e0 := hst.is_.c0
    have hlt := hst.is_.lt
    have hB4 := hidden (hb4.out.trans (hbt.below (B := w.heap.size) (by omega) (by simp; omega)))
    have HSf : Hid (BoolsAt w4 w2.heap.size s ∧ s.length = g.rules.length) := hidden ⟨hst.at_, hst.len⟩
    clear hst hI hp hle hbt HGr hb4 zq HB0 s0 s1 s2 s3 s4 s5 s6 s7
    go_wp2
    go_ret
    refine ⟨⟨_, rfl, hidden ?_⟩, hB4.out⟩
    unfold SetIs
    rw [if_pos rfl, ← HF.out]
    exact ⟨_, rfl, HSf.out.1, HSf.out.2⟩

/-- Whether an item is a rule's that is in a set. -/
def okV (s : List Bool) (x : Item) : Bool := x.rule && (decide (0 ≤ x.n) && (decide (x.n < s.length) && atB s x.n))
theorem okV_all {g : Gram} {s : List Bool} (hs : s.length = g.rules.length) (l : List Item) : (itemsIn g l && l.all (itemSo s false)) = l.all (okV s) := by
  unfold itemsIn
  induction l with
  | nil => rfl
  | cons x l ih =>
    rw [List.all_cons, List.all_cons, List.all_cons, ← ih]
    have h1 : (itemIn g x && itemSo s false x) = okV s x := by
      unfold itemIn itemSo okV
      cases x.rule
      · simp
      · simp only [if_true, Bool.true_and]
        rw [hs, Bool.and_assoc]
    rw [← h1]
    cases itemIn g x <;> cases itemSo s false x <;> cases l.all (itemIn g) <;> cases l.all (itemSo s false) <;> rfl
theorem okV_cases (s : List Bool) (x : Item) : (okV s x = false ∧ x.rule = false) ∨ (okV s x = false ∧ x.rule = true ∧ x.n < 0) ∨ (okV s x = false ∧ x.rule = true ∧ 0 ≤ x.n ∧ (s.length : Int) ≤ x.n) ∨
    (x.rule = true ∧ ∃ m : Nat, x.n = (m : Int) ∧ m < s.length ∧ s[m]? = some (okV s x)) := by
  unfold okV
  cases hr : x.rule
  · exact .inl ⟨rfl, rfl⟩
  · by_cases h : x.n < 0
    · exact .inr (.inl ⟨by simp; intro h'; omega, rfl, h⟩)
    · have h : 0 ≤ x.n := by omega
      by_cases h2 : x.n < s.length
      · refine .inr (.inr (.inr ⟨rfl, x.n.toNat, by omega, by omega, ?_⟩))
        have e := List.getElem?_eq_getElem (show x.n.toNat < s.length by omega)
        unfold atB
        rw [List.getD_eq_getElem?_getD, e]
        simp [h, h2]
      · exact .inr (.inr (.inl ⟨by simp; intro _ h'; omega, rfl, h, by omega⟩))

set_option maxRecDepth 20000 in
set_option maxHeartbeats 8000000 in
theorem null_Void (a b c v : Value) (g : Gram) (l : List Item) (w : World) (HG : GramIs w (Old w) a b c g) (hsm : Small g) (hR : Rd w (Old w) 4 v l.length (l.flatMap itCells)) :
    Calls Try.prog 127 #[.agg (gramCells a b c g), v] w fun r w' => r = .returned (.bool (voidOf g l)) ∧ Below w.heap.size w w' := by
  have HE := hidden (fun (w' : World) (hb : Below w.heap.size w w') => null_Empty a b c g w' (HG.old hb) hsm)
  have HRo := hidden (fun (w' : World) (hb : Below w.heap.size w w') => Rd.old hR hb)
  have hr := hsm.rules
  obtain ⟨⟨A1, k1, rfl, v1, m1⟩, ⟨A2, k2, rfl, v2, m2⟩, ⟨A3, k3, rfl, v3, m3⟩⟩ := HG.vals
  obtain ⟨A, cl, rfl, hc1, hc2⟩ := hR.val
  clear HG hsm hR
  unfold gramCells maxLen at *
  have hlen := growsB_len g false
  have hall : voidOf g l = (rightB g && l.all (okV (growsB g false))) := by unfold voidOf; rw [okV_all hlen]
  rw [hall]
  clear hall
  generalize rightB g = rb at *
  generalize growsB g false = s at *
  have hF : Hid (∀ (k : Nat) x, l[k]? = some x → okV s x = false → l.all (okV s) = false) := hidden (fun k x h1 h2 => by
    rw [Bool.eq_false_iff]; intro h; rw [List.all_eq_true] at h
    have := h x (List.mem_of_getElem? h1); rw [h2] at this; cases this)
  have hT : Hid ((∀ (k : Nat) x, k < l.length → l[k]? = some x → okV s x = true) → l.all (okV s) = true) := hidden (fun h => by
    rw [List.all_eq_true]; intro x hx
    obtain ⟨k, hk, e⟩ := List.mem_iff_getElem.1 hx
    exact h k x hk (by rw [List.getElem?_eq_getElem hk, e]))
  generalize l.all (okV s) = al at *
  have hb := Below.refl w.heap.size w
  cases rb
  · rw [Bool.false_and]
    go_enter Try.func127, Try.ntmps127
    go_wp2_with fail
    refine (HE.out _ ?_).mono ?_
    · exact (by repeat (first | (with_reducible exact Below.refl _ _) | (with_reducible assumption) | (with_reducible refine Below.drew ?_) | (with_reducible refine below_drewN ?_ _) | ((with_reducible refine below_alloc ?_ ?_); (focus (first | omega | (simp; done) | (simp; omega)))) | ((with_reducible refine below_set ?_ ?_); (focus (first | omega | (simp; done) | (simp; omega))))))
    rintro r w2 ⟨⟨u, rfl, hu⟩, hb2⟩
    have hbw : Below w.heap.size w w2 := Below.trans (by repeat (first | (with_reducible exact Below.refl _ _) | (with_reducible assumption) | (with_reducible refine Below.drew ?_) | (with_reducible refine below_drewN ?_ _) | ((with_reducible refine below_alloc ?_ ?_); (focus (first | omega | (simp; done) | (simp; omega)))) | ((with_reducible refine below_set ?_ ?_); (focus (first | omega | (simp; done) | (simp; omega)))))) (hb2.mono (by simp))
    have hu := hu.out
    unfold SetIs at hu
    clear hb2 HE hb
    rw [if_neg (by decide)] at hu
    subst hu
    have hnil := fun (w : World) => Lib.run_eql_slice_nil (P := Try.prog) w 42 4 none 0 0 0 0 Try.underlying42
    simp only [Option.isNone_none] at hnil
    go_wp2
    go_ret
    exact ⟨rfl, hbw⟩
  · rw [Bool.true_and]
    go_enter Try.func127, Try.ntmps127
    go_wp2_with fail
    refine (HE.out _ ?_).mono ?_
    · exact (by repeat (first | (with_reducible exact Below.refl _ _) | (with_reducible assumption) | (with_reducible refine Below.drew ?_) | (with_reducible refine below_drewN ?_ _) | ((with_reducible refine below_alloc ?_ ?_); (focus (first | omega | (simp; done) | (simp; omega)))) | ((with_reducible refine below_set ?_ ?_); (focus (first | omega | (simp; done) | (simp; omega))))))
    rintro r w2 ⟨⟨u, rfl, hu⟩, hb2⟩
    have hbw : Below w.heap.size w w2 := Below.trans (by repeat (first | (with_reducible exact Below.refl _ _) | (with_reducible assumption) | (with_reducible refine Below.drew ?_) | (with_reducible refine below_drewN ?_ _) | ((with_reducible refine below_alloc ?_ ?_); (focus (first | omega | (simp; done) | (simp; omega)))) | ((with_reducible refine below_set ?_ ?_); (focus (first | omega | (simp; done) | (simp; omega)))))) (hb2.mono (by simp))
    have hu := hu.out
    unfold SetIs at hu
    clear hb2 HE hb
    rw [if_pos rfl] at hu
    obtain ⟨q, rfl, hB, hn⟩ := hu
    have HB := hidden hB
    have hn' : s.length ≤ 100000 := by omega
    have hn : Hid (s.length = g.rules.length) := hidden hn
    clear hB hlen
    have hnil := fun (w : World) => Lib.run_eql_slice_nil (P := Try.prog) w 42 4 (some ⟨q, 0, none⟩) g.rules.length g.rules.length 0 0 Try.underlying42
    simp only [Option.isNone_some] at hnil
    go_wp2
    clear hnil
    go_loopw [14] (fun ii wr => ∃ k : Nat, k ≤ l.length ∧ ii = .int .i64 k ∧ Hid (∀ (j : Nat) x, j < k → l[j]? = some x → okV s x = true) ∧ Hid (Below w2.heap.size w2 wr)) (fun ii _ => l.length - (intOf ii).toNat)
    case atStart => exact ⟨0, by omega, rfl, hidden (fun j x h => by omega), hidden (Below.refl _ _)⟩
    case round =>
      obtain ⟨k, hk, rfl, HN, hbr⟩ := hrel
      have hb := Below.trans hbw (hbr.out.mono hbw.size)
      by_cases hlt : k < l.length
      · have hx := List.getElem?_eq_getElem hlt
        generalize l[k] = x at *
        obtain ⟨b, off, rfl, hT', hat⟩ := (HRo.out _ hb).flat_at (fun _ => rfl) (by decide) hx
        have i0 : wr.cell? ⟨b, off + k * 4, none⟩ = some (.bool x.rule) := hat 0 _ rfl
        have i1 : wr.cell? ⟨b, off + k * 4 + 1, none⟩ = some (.int .i64 x.n) := hat 1 _ rfl
        have i2 : wr.cell? ⟨b, off + k * 4 + 2, none⟩ = some (.int .i64 x.gap) := hat 2 _ rfl
        have i3 : wr.cell? ⟨b, off + k * 4 + 3, none⟩ = some (.int .i64 x.in_) := hat 3 _ rfl
        have hT : b < wr.heap.size := hT'
        have hbn := hidden (hbr.out.alloc hbr.out.size (.cells #[.bool x.rule, .int .i64 x.n, .int .i64 x.gap, .int .i64 x.in_] 49))
        have hbn' := hidden (hb.alloc hb.size (.cells #[.bool x.rule, .int .i64 x.n, .int .i64 x.gap, .int .i64 x.in_] 49))
        have hqr : q < wr.heap.size := Nat.lt_of_lt_of_le HB.out.lt hbr.out.size
        have HF := hidden (hF.out k x hx)
        have HNx : Hid (okV s x = true → ∀ (j : Nat) y, j < k + 1 → l[j]? = some y → okV s y = true) := hidden (fun h j y hj hy => by
          by_cases e : j = k
          · subst e; rw [hx] at hy; cases hy; exact h
          · exact HN.out j y (by omega) hy)
        have HBr := hidden (HB.out.below hbr.out HB.out.lt)
        have hoc := okV_cases s x
        obtain ⟨xr, xn, xg, xi⟩ := x
        dsimp only at *
        generalize okV s ⟨xr, xn, xg, xi⟩ = ok at *
        rw [hn.out] at hoc
        clear hat hx HN hbr hF hT HRo hT'
        rcases hoc with ⟨rfl, rfl⟩ | ⟨rfl, rfl, h1⟩ | ⟨rfl, rfl, h1, h2⟩ | ⟨rfl, m, rfl, h1, h2⟩
        · have HA := hidden (HF.out rfl)
          clear HF HNx
          go_wp2
          go_ret
          exact ⟨by rw [HA.out]; rfl, hbn'.out⟩
        · have HA := hidden (HF.out rfl)
          clear HF HNx
          go_wp2
          go_ret
          exact ⟨by rw [HA.out]; rfl, hbn'.out⟩
        · have HA := hidden (HF.out rfl)
          clear HF HNx
          go_wp2
          go_ret
          exact ⟨by rw [HA.out]; rfl, hbn'.out⟩
        · have z0 := BoolsAt.at_ HBr.out h2
          clear h2
          cases ok
          · have HA := hidden (HF.out rfl)
            clear HF HNx
            go_wp2
            go_ret
            exact ⟨by rw [HA.out]; rfl, hbn'.out⟩
          · have HN2 := hidden (HNx.out rfl)
            clear HF HNx
            go_wp2
            go_roundw
            case rel => exact ⟨k + 1, by omega, by go_num, HN2, hbn⟩
            case measure => simp [intOf]; omega
      · obtain rfl : k = l.length := by omega
        have HA := hidden (hT.out (fun j x h1 h2 => HN.out j x h1 h2))
        clear HN hF hT
        go_wp2
        go_ret
        exact ⟨by rw [HA.out]; rfl, hb⟩
end Go.Proofs.Ytmlggfapnkhcaaa
