/-
  rxtext.Show. The document's Show.
-/
import Derived.Test.YtfmdmeokbbpmlaaDoorC2
import Derived.Test.YtfmdmeokbbpmlaaDoorC0
namespace Go.Proofs.YtfmdmeokbbpmlaaDoor
open Go.RowKit Go.Shelf

theorem err_run {l : List Rx} (h : rxErr l = 0) : l.length ≤ 512 ∧ rxRun l 0 = .inl 1 := by
  by_cases hl : 512 < l.length
  · unfold rxErr at h; rw [if_pos hl] at h; cases h
  · refine ⟨by omega, ?_⟩
    rw [rxErr_end hl] at h
    have hz : ∀ (l : List Rx) (p : Int), rxRun l p ≠ .inr 0 := by
      intro l
      induction l with
      | nil => intro p hp; cases hp
      | cons x l ih =>
        intro p hp
        rw [rxRun] at hp
        split at hp
        · exact ih _ hp
        · rename_i hne
          exact hne (Sum.inr.inj hp)
    have hz := hz l 0
    generalize rxRun l 0 = r at *
    match r with
    | .inr e => exact absurd (congrArg Sum.inr h) hz
    | .inl p =>
      unfold rxEnd at h
      dsimp only at h
      split at h
      · rename_i hp; rw [hp]
      · cases h
theorem run_step {x : Rx} {l : List Rx} {p : Int} (h : rxRun (x :: l) p = .inl 1) : stepBad x p = 0 ∧ rxRun l (p - arity x.kind + 1) = .inl 1 := by
  rw [rxRun] at h
  split at h
  · rename_i hs; exact ⟨hs, h⟩
  · cases h
theorem postS_len (us : List RxT) : us.length ≤ (postS us).length := by
  induction us with
  | nil => exact Nat.le_refl _
  | cons a us ih =>
    have := post_pos a
    rw [postS, List.length_append, List.length_cons]; omega
/-- How long what was shown is. -/
theorem tex_small {us : List RxT} {t : RxT} (h : t ∈ us) (hl : (postS us).length ≤ 512) : (bs (tex t)).size ≤ 2000000 := by
  rw [bs_size]
  have h1 := tex_len t
  have h2 : (post t).length ≤ (postS us).length := by
    clear hl h1
    induction us with
    | nil => cases h
    | cons a us ih =>
      rw [postS, List.length_append]
      rcases List.mem_cons.1 h with rfl | h
      · omega
      · have := ih h; omega
  omega
/-- What holds ahead of each round. -/
structure ShInv (l : List Rx) (k : Nat) (us : List RxT) : Prop where
  hk : k ≤ l.length
  at_ : postS us = l.take k
  run : rxRun (l.drop k) us.length = .inl 1
theorem ShInv.room {l : List Rx} {k : Nat} {us : List RxT} (h : ShInv l k us) : us.length ≤ k := by
  have := postS_len us
  rw [h.at_, List.length_take] at this
  omega
theorem ShInv.step {l : List Rx} {k : Nat} {us : List RxT} (h : ShInv l k us) {x : Rx} (hx : l[k]? = some x) : stepBad x us.length = 0 ∧ ∀ us' : List RxT, (us'.length : Int) = us.length - arity x.kind + 1 → postS us' = postS us ++ [x] → ShInv l (k + 1) us' := by
  have hlt := (List.getElem?_eq_some_iff.1 hx).1
  have he := (List.getElem?_eq_some_iff.1 hx).2
  have hr := h.run
  rw [List.drop_eq_getElem_cons hlt, he] at hr
  obtain ⟨h1, h2⟩ := run_step hr
  exact ⟨h1, fun us' ha hb => ⟨hlt, by rw [hb, h.at_, List.take_add_one, hx]; rfl, by rw [ha]; exact h2⟩⟩
theorem ShInv.done {l : List Rx} {us : List RxT} (h : ShInv l l.length us) : ∃ t, us = [t] ∧ l = post t := by
  have hr := h.run
  rw [List.drop_length, rxRun] at hr
  have hr : (us.length : Int) = 1 := Sum.inl.inj hr
  match us, hr with
  | [t], _ => exact ⟨t, rfl, by have := h.at_; rw [List.take_length] at this; simpa [postS] using this.symm⟩
  | [], hr => simp at hr
  | _ :: _ :: _, hr => simp at hr; omega

theorem gen_world {P : World → Prop} {G : World → Prop} (w : World) (h : P w) (hG : ∀ w', P w' → G w') : G w := hG w h
theorem ShAt.with9 {W0 w : World} {S B q q9 : Nat} {tx ty : TypeId} {cx cy : Array Value} {st : List (ByteArray × Int)} (h : ShAt W0 S B q tx cx q9 ty cy st w) (t : TypeId) (cs : Array Value) : ShAt W0 S B q tx cx w.heap.size t cs st (w.alloc (.cells cs t)) :=
  ⟨(h.alloc _).stk, (h.alloc _).hx, Holds.new _ _ _, h.qS, fun e => absurd h.stk.ltS (by omega), h.oldS, (h.alloc _).below⟩
theorem rd_drew {w : World} {S size n : Nat} {v : Value} {cs : List Value} (h : Rd w (fun k => k ≠ S ∧ k < w.heap.size) size v n cs) : Rd w.drew (fun k => k ≠ S ∧ k < w.drew.heap.size) size v n cs := rd_later h (Below.drew (Below.refl _ _))
theorem rd_new1e {w : World} {S q : Nat} (hq : q = w.heap.size) (hS : S < w.heap.size) (a : Int) (e : TypeId) : Rd (w.alloc (.cells #[.int .i64 a] e)) (fun k => k ≠ S ∧ k < (w.alloc (.cells #[.int .i64 a] e)).heap.size) 1 (.slice (some ⟨q, 0, none⟩) 1 1) [a].length ([a].map (Value.int .i64)) := by subst hq; exact rd_new1 hS a e
theorem rd_new2e {w : World} {S q : Nat} (hq : q = w.heap.size) (hS : S < w.heap.size) (a b : Int) (e : TypeId) : Rd (w.alloc (.cells #[.int .i64 a, .int .i64 b] e)) (fun k => k ≠ S ∧ k < (w.alloc (.cells #[.int .i64 a, .int .i64 b] e)).heap.size) 1 (.slice (some ⟨q, 0, none⟩) 2 2) [a, b].length ([a, b].map (Value.int .i64)) := by subst hq; exact rd_new2 hS a b e
theorem use_it {a b : Prop} (h : a) (f : a → b) : b := f h
set_option maxRecDepth 100000 in
set_option maxHeartbeats 32000000 in
theorem rx_Show (v : Value) (l : List Rx) (w : World) (h : Rd w (Old w) 5 v l.length (l.flatMap rxCells)) (hw : ∀ x ∈ l, Wordy x) (HT : TabW w) :
    Calls Tryd.prog 10 #[v] w fun r w' => Below w.heap.size w w' ∧ ((rxErr l ≠ 0 ∧ r = .returned (.string (bs []))) ∨ (rxErr l = 0 ∧ ∃ t, l = post t ∧ r = .returned (.string (bs (tex t))))) := by
  have HChk := hidden (rx_check v l w h)
  have HR := hidden (fun w' (hb : Below w.heap.size w w') => h.old hb)
  have HSh := hidden (fun f w' (hb : Below w.heap.size w w') => rx_ShowSet f w' (HT.old hb))
  obtain ⟨A, c, rfl, hc1, hc2⟩ := h.val
  unfold maxLen at hc2
  have HW := hidden hw
  clear h HT hw
  go_enter Tryd.func10, Tryd.ntmps10
  go_wp2_with fail
  refine HChk.out.mono ?_
  rintro r w1 ⟨rfl, hb1⟩
  clear HChk
  by_cases he : rxErr l ≠ 0
  · have he2 : (rxErr l != 0) = true := by simpa using he
    go_wp2
    go_ret
    exact ⟨hb1, .inl ⟨he, rfl⟩⟩
  · replace he : rxErr l = 0 := by omega
    have he2 : (rxErr l != 0) = false := by simpa using he
    obtain ⟨hl, hrun⟩ := err_run he
    have HE := hidden he
    have HRun := hidden hrun
    clear he hrun
    go_upto_region 5 with fail
    have HS0 : Hid (StkAt ((w1.alloc (.cells Tryd.zeroCells67 67)).alloc (.cells #[.slice (some ⟨w1.heap.size, 0, none⟩) 0 512] 68)) (w1.heap.size + 1) w1.heap.size (stkL [])) := hidden ⟨by
        have := Holds.new (w1.alloc (.cells Tryd.zeroCells67 67)) 68 #[.slice (some ⟨w1.heap.size, 0, none⟩) 0 512]
        rw [World.size_alloc] at this
        exact this, ⟨Tryd.zeroCells67, (Holds.new w1 _ _).below ((Below.refl _ _).alloc (Nat.le_refl _) _) (by rw [World.size_alloc]; exact Nat.lt_succ_self _), by kernel_rfl, fun j u hj => by simp [stkL] at hj⟩, by omega⟩
    have hb2 := (hb1.alloc hb1.size (.cells Tryd.zeroCells67 67)).alloc (by simp; have := hb1.size; omega) (.cells #[.slice (some ⟨w1.heap.size, 0, none⟩) 0 512] 68)
    have hSo : w.heap.size ≤ w1.heap.size + 1 := by have := hb1.size; omega
    generalize ((w1.alloc (.cells Tryd.zeroCells67 67)).alloc (.cells #[.slice (some ⟨w1.heap.size, 0, none⟩) 0 512] 68)) = w2 at *
    have hBo : w.heap.size ≤ w1.heap.size := hb1.size
    generalize hSB : w1.heap.size = B at *
    clear hSB hb1
    have hI0 : Hid (ShInv l 0 []) := hidden ⟨Nat.zero_le _, rfl, HRun.out⟩
    clear HRun
    go_wp2
    go_loopw [7, 8, 9, 10, 18] (fun _ _ _ _ ii wr => ∃ (k : Nat) (us : List RxT), ii = .int .i64 k ∧ k ≤ l.length ∧ Hid (ShInv l k us) ∧ Hid (StkAt wr (B + 1) B (stkL us)) ∧ Below w.heap.size w wr) (fun _ _ _ _ ii _ => l.length - (intOf ii).toNat)
    case atStart => exact ⟨0, [], by go_num, Nat.zero_le _, hI0, HS0, hb2⟩
    case round =>
      clear hI0 HS0 hb2
      obtain ⟨k, us, rfl, hk, HI, HS, hb⟩ := hrel
      have hbz := hb.size
      by_cases hlt : k < l.length
      · have q1 : (k : Int) < (l.length : Int) := by omega
        obtain ⟨b, off, rfl, hT, hat⟩ := (HR.out _ hb).flat_at (fun _ => rfl) (by decide) (List.getElem?_eq_getElem hlt)
        have hx := List.getElem?_eq_getElem hlt
        have hmem : l[k] ∈ l := List.getElem_mem hlt
        generalize l[k] = x at *
        have hwx := HW.out x hmem
        obtain ⟨hst, hgo⟩ := HI.out.step hx
        have hroom := HI.out.room
        have hpost : (postS us).length ≤ 512 := by rw [HI.out.at_, List.length_take]; omega
        obtain ⟨har, hkind⟩ := step_kinds hst
        have x0 := hat 0 _ rfl
        have x1 := hat 1 _ rfl
        have x2 := hat 2 _ rfl
        have x3 := hat 3 _ rfl
        have x4 := hat 4 _ rfl
        clear hat hst hmem hx
        rw [Nat.add_zero] at x0
        have e0 : arity 1 = 0 ∧ arity 2 = 0 ∧ arity 3 = 2 ∧ arity 4 = 2 ∧ arity 5 = 1 ∧ arity 6 = 1 ∧ arity 7 = 1 := by decide
        obtain ⟨e1, e2, e3, e4, e5, e6, e7⟩ := e0
        rcases hkind with hkd | ⟨hkd, hxo⟩
        · have hxs := setOfRx_is hwx
          rw [hkd] at hxs
          obtain ⟨f, rfl⟩ : ∃ f, x = setRx f := ⟨setOfRx x, hxs⟩
          clear hwx hkd hxs
          unfold setRx at x0 x1 x2 x3 x4
          dsimp only at x0 x1 x2 x3 x4
          have hltS := HS.out.ltS
          have HA0 : Hid (ShAt w (B + 1) B wr.heap.size 64 #[.int .i64 1, .int .u64 (wd f 0), .int .u64 (wd f 1), .int .u64 (wd f 2), .int .u64 (wd f 3)] wr.heap.size 64 #[.int .i64 1, .int .u64 (wd f 0), .int .u64 (wd f 1), .int .u64 (wd f 2), .int .u64 (wd f 3)] (stkL (us)) (wr.alloc (.cells #[.int .i64 1, .int .u64 (wd f 0), .int .u64 (wd f 1), .int .u64 (wd f 2), .int .u64 (wd f 3)] 64))) := hidden ⟨HS.out.alloc _, Holds.new _ _ _, Holds.new _ _ _, by omega, by omega, hSo, hb.alloc hbz _⟩
          clear HS

          have HX := hidden (fun (w' : World) (hb : Below w.heap.size w w') => HSh.out f w' hb)
          have HA1 := hidden (fun (w' : World) (hb : Below _ _ w') => HA0.out.later hb)
          have hbA := HA0.out.below
          have hbAz := hbA.size
          unfold setC at HX
          have hgo : Hid (ShInv l (k + 1) (.set f :: us)) := hidden (hgo _ (by rw [show (setRx f).kind = 1 from rfl, e1]; simp) (by rw [postS, post]))
          have hte : Hid (tex (.set f) = setT f) := hidden rfl
          generalize wd f 0 = n0 at *
          generalize wd f 1 = n1 at *
          generalize wd f 2 = n2 at *
          generalize wd f 3 = n3 at *
          go_wp2_with fail
          refine (HX.out _ hbA).mono ?_
          rintro r wc ⟨rfl, hb5⟩
          rw [← hte.out]
          have HA2 := hidden (HA1.out _ hb5)
          clear HA1 HA0 hbA hbAz hb5 HX x0 x1 x2 x3 x4
          go_upto_region 22 with fail

          have HF : Hid (ShInv l (k + 1) (.set f :: us)) := hidden hgo.out
          have hst : Hid (stkL (.set f :: us) = stkL us ++ [(bs (tex (.set f)), 1)]) := hidden (stkL_cons _ _)
          have hnS : (stkL us).length < 512 := by rw [stkL_len]; omega
          generalize stkL us = st at *
          generalize bs (tex (.set f)) = tb at *
          have hb3 := HA2.out.below
          have hbz3 := hb3.size
          have HP := hidden (HA2.out.stk.alloc (.cells #[.string tb, .int .i64 (1)] 66))
          have s0 : wc.cell? ⟨B + 1, 0, none⟩ = some (.slice (some ⟨B, 0, none⟩) st.length 512) := HA2.out.stk.cell.cell 0
          have k0 := HA2.out.kind
          have hne := HP.out.ne
          have HQ := hidden ((HP.out.cell.far (p := ⟨B, st.length * 2, none⟩) hne (.string tb)).far (p := ⟨B, st.length * 2 + 1, none⟩) hne (.int .i64 (1)))
          have y0 := HQ.out.cell 0
          have y1 := HQ.out.frozen 0
          have hsl : (0 : Int) ≤ (st.length : Int) := by omega
          clear HA2 hgo HQ
          go_wp2_with (at_builtin; refine wpList_append_sh rfl _ _ rfl (B + 1) B wc.heap.size st (tb, 1) HP rfl rfl (by simp) (by simp) hnS ?_)
          go_roundw
          case rel => exact ⟨k + 1, _, by go_num, by omega, HF, hidden (by rw [hst.out]; exact StkAt.push HP.out (tb, 1) hnS), (((hb3.alloc hbz3 _).setCell (p := ⟨B, st.length * 2, none⟩) hBo _).setCell (p := ⟨B, st.length * 2 + 1, none⟩) hBo _).setCell (p := ⟨B + 1, 0, none⟩) hSo _⟩
          case measure => simp [intOf] <;> omega
        · rcases hkd with hkd | hkd | hkd | hkd | hkd | hkd
          all_goals
            rw [hkd] at hxo
            subst hxo
            clear hwx hkd
            unfold opRx at x0 x1 x2 x3 x4
            dsimp only at x0 x1 x2 x3 x4
          · have hltS := HS.out.ltS
            have HA0 : Hid (ShAt w (B + 1) B wr.heap.size 64 #[.int .i64 2, .int .u64 0, .int .u64 0, .int .u64 0, .int .u64 0] wr.heap.size 64 #[.int .i64 2, .int .u64 0, .int .u64 0, .int .u64 0, .int .u64 0] (stkL (us)) (wr.alloc (.cells #[.int .i64 2, .int .u64 0, .int .u64 0, .int .u64 0, .int .u64 0] 64))) := hidden ⟨HS.out.alloc _, Holds.new _ _ _, Holds.new _ _ _, by omega, by omega, hSo, hb.alloc hbz _⟩
            clear HS

            go_upto_region 22 with fail
            clear x0 x1 x2 x3 x4
            generalize (wr.alloc (.cells #[.int .i64 2, .int .u64 0, .int .u64 0, .int .u64 0, .int .u64 0] 64)) = wc at *

            have HF : Hid (ShInv l (k + 1) (.empty :: us)) := hidden (hgo _ (by rw [show (opRx 2).kind = 2 from rfl, e2]; simp) (by rw [postS, post]))
            have hst : Hid (stkL (.empty :: us) = stkL us ++ [((⟨#[40, 41]⟩ : ByteArray), 2)]) := hidden (stkL_cons _ _)
            have hnS : (stkL us).length < 512 := by rw [stkL_len]; omega
            generalize stkL us = st at *

            have hb3 := HA0.out.below
            have hbz3 := hb3.size
            have HP := hidden (HA0.out.stk.alloc (.cells #[.string (⟨#[40, 41]⟩ : ByteArray), .int .i64 (2)] 66))
            have s0 : wc.cell? ⟨B + 1, 0, none⟩ = some (.slice (some ⟨B, 0, none⟩) st.length 512) := HA0.out.stk.cell.cell 0
            have k0 := HA0.out.kind
            have hne := HP.out.ne
            have HQ := hidden ((HP.out.cell.far (p := ⟨B, st.length * 2, none⟩) hne (.string (⟨#[40, 41]⟩ : ByteArray))).far (p := ⟨B, st.length * 2 + 1, none⟩) hne (.int .i64 (2)))
            have y0 := HQ.out.cell 0
            have y1 := HQ.out.frozen 0
            have hsl : (0 : Int) ≤ (st.length : Int) := by omega
            clear HA0 hgo HQ
            go_wp2_with (at_builtin; refine wpList_append_sh rfl _ _ rfl (B + 1) B wc.heap.size st ((⟨#[40, 41]⟩ : ByteArray), 2) HP rfl rfl (by simp) (by simp) hnS ?_)
            go_roundw
            case rel => exact ⟨k + 1, _, by go_num, by omega, HF, hidden (by rw [hst.out]; exact StkAt.push HP.out ((⟨#[40, 41]⟩ : ByteArray), 2) hnS), (((hb3.alloc hbz3 _).setCell (p := ⟨B, st.length * 2, none⟩) hBo _).setCell (p := ⟨B, st.length * 2 + 1, none⟩) hBo _).setCell (p := ⟨B + 1, 0, none⟩) hSo _⟩
            case measure => simp [intOf] <;> omega
          · obtain ⟨a, b, us, rfl⟩ : ∃ a b rest, us = b :: a :: rest := by
              rw [show (opRx 3).kind = 3 from rfl, e3] at har
              match us, har with
              | [], har => simp at har
              | [_], har => simp at har
              | b :: a :: us, _ => exact ⟨a, b, us, rfl⟩
            have hsa : Hid ((bs (tex a)).size ≤ 2000000) := hidden (tex_small (List.mem_cons_of_mem _ List.mem_cons_self) hpost)
            have hsb : Hid ((bs (tex b)).size ≤ 2000000) := hidden (tex_small List.mem_cons_self hpost)
            have hgo : Hid (ShInv l (k + 1) (.cat a b :: us)) := hidden (hgo _ (by rw [show (opRx 3).kind = 3 from rfl, e3]; simp; omega) (by rw [postS, postS, postS, post]; simp))
            rw [List.length_cons, List.length_cons] at hroom

            have hltS := HS.out.ltS
            have HA0 : Hid (ShAt w (B + 1) B wr.heap.size 64 #[.int .i64 3, .int .u64 0, .int .u64 0, .int .u64 0, .int .u64 0] wr.heap.size 64 #[.int .i64 3, .int .u64 0, .int .u64 0, .int .u64 0, .int .u64 0] (stkL (b :: a :: us)) (wr.alloc (.cells #[.int .i64 3, .int .u64 0, .int .u64 0, .int .u64 0, .int .u64 0] 64))) := hidden ⟨HS.out.alloc _, Holds.new _ _ _, Holds.new _ _ _, by omega, by omega, hSo, hb.alloc hbz _⟩
            clear HS

            rw [stkL_cons, stkL_cons] at HA0
            have HPopB := hidden (fun (w' : World) (H : StkAt w' (B + 1) B (stkL us ++ [encT a] ++ [encT b])) => rx_pop (B + 1) B (stkL us ++ [encT a]) (encT b) w' H (by rw [List.length_append, stkL_len, List.length_singleton]; omega))
            have HPop := hidden (fun (w' : World) (H : StkAt w' (B + 1) B (stkL us ++ [encT a])) => rx_pop (B + 1) B (stkL us) (encT a) w' H (by rw [stkL_len]; omega))
            have HIn := hidden (fun (v : Value) (w' : World) (HR : Rd w' (fun k => k ≠ B + 1 ∧ k < w'.heap.size) 1 v [(4 : Int)].length ([(4 : Int)].map (Value.int .i64))) => rx_in (bs (tex a)) a.kind v [(4 : Int)] w' (by have := hsa.out; omega) (rd_in HR))
            rw [in_alt] at HIn
            have HIn2 := hidden (fun (v : Value) (w' : World) (HR : Rd w' (fun k => k ≠ B + 1 ∧ k < w'.heap.size) 1 v [(4 : Int), 3].length ([(4 : Int), 3].map (Value.int .i64))) => rx_in (bs (tex b)) b.kind v [(4 : Int), 3] w' (by have := hsb.out; omega) (rd_in HR))
            rw [in_seq] at HIn2
            have hpz : (bs (par (isAlt a) (tex a))).size ≤ 2000002 := by have h1 := par_len (isAlt a) (tex a); have h2 := hsa.out; rw [bs_size] at h2 ⊢; omega
            have hpy : (bs (par (isSeq b) (tex b))).size ≤ 2000002 := by have h1 := par_len (isSeq b) (tex b); have h2 := hsb.out; rw [bs_size] at h2 ⊢; omega
            have hst : Hid (stkL (.cat a b :: us) = stkL us ++ [(bs (par (isAlt a) (tex a)) ++ bs (par (isSeq b) (tex b)), 3)]) := hidden ((stkL_cons _ _).trans (by rw [show encT (.cat a b) = (bs (tex (.cat a b)), 3) from rfl, tex, bs_app]))
            have hnS : (stkL us).length < 512 := by rw [stkL_len]; omega
            unfold encT at HA0 HPop HPopB
            dsimp only at HA0 HPop HPopB
            generalize bs (par (isAlt a) (tex a)) = tp at *
            generalize bs (par (isAlt b) (tex b)) = tq at *
            generalize bs (par (isSeq b) (tex b)) = tr at *
            generalize bs (tex a) = ta at *
            generalize bs (tex b) = tb at *
            generalize a.kind = ka at *
            generalize b.kind = kb at *
            generalize stkL us = st at *
            clear hpost

            have sa0 : ¬ (9223372036854775807 < tp.size + tr.size) := by omega
            have sb0 : tp.size + tr.size ≤ 9223372036854775807 := by omega
            go_upto_region 20 with fail
            clear x0 x1 x2 x3 x4 hltS
            generalize (wr.alloc (.cells #[.int .i64 3, .int .u64 0, .int .u64 0, .int .u64 0, .int .u64 0] 64)) = w3 at *
            generalize wr.heap.size = qx at *
            go_wp2_with fail
            refine (HPopB.out _ HA0.out.stk).mono ?_
            rintro e wp ⟨rfl, hs0, hk0, hb0⟩
            have HA1 := hidden ((HA0.out.pop hs0.out hk0.out hb0.out).with9 66 #[.string tb, .int .i64 kb])
            clear HPopB HA0 hs0 hk0 hb0
            go_upto_region 21 with fail
            generalize (wp.alloc (.cells #[.string tb, .int .i64 kb] 66)) = w4 at *
            generalize wp.heap.size = qy at *

            have LT : Hid (∀ (w' : World) (s' : List (ByteArray × Int)), ShAt w (B + 1) B qx 64 #[.int .i64 3, .int .u64 0, .int .u64 0, .int .u64 0, .int .u64 0] qy 66 #[.string tb, .int .i64 kb] s' w' → B + 1 < w'.heap.size) := hidden (fun _ _ h => h.stk.ltS)
            have KND : Hid (∀ (w' : World) (s' : List (ByteArray × Int)), ShAt w (B + 1) B qx 64 #[.int .i64 3, .int .u64 0, .int .u64 0, .int .u64 0, .int .u64 0] qy 66 #[.string tb, .int .i64 kb] s' w' → w'.cell? ⟨qx, 0, none⟩ = some (.int .i64 3)) := hidden (fun _ _ h => h.kind)
            have LAT : Hid (∀ (w' w'' : World) (s' : List (ByteArray × Int)), ShAt w (B + 1) B qx 64 #[.int .i64 3, .int .u64 0, .int .u64 0, .int .u64 0, .int .u64 0] qy 66 #[.string tb, .int .i64 kb] s' w' → Below w'.heap.size w' w'' → ShAt w (B + 1) B qx 64 #[.int .i64 3, .int .u64 0, .int .u64 0, .int .u64 0, .int .u64 0] qy 66 #[.string tb, .int .i64 kb] s' w'') := hidden (fun _ _ _ h hb => h.later hb)
            have STK : Hid (∀ (w' : World), ShAt w (B + 1) B qx 64 #[.int .i64 3, .int .u64 0, .int .u64 0, .int .u64 0, .int .u64 0] qy 66 #[.string tb, .int .i64 kb] (st ++ [(ta, ka)]) w' → StkAt w' (B + 1) B (st ++ [(ta, ka)])) := hidden (fun _ h => h.stk)
            have NXT : Hid (∀ (w' w'' : World), ShAt w (B + 1) B qx 64 #[.int .i64 3, .int .u64 0, .int .u64 0, .int .u64 0, .int .u64 0] qy 66 #[.string tb, .int .i64 kb] (st ++ [(ta, ka)]) w' → StkAt w'' (B + 1) B st → Keeps (fun k => k ≠ B + 1 ∧ k < w'.heap.size) w' w'' → (∀ C, C ≤ B + 1 → Below C w' w'') → ShAt w (B + 1) B qx 64 #[.int .i64 3, .int .u64 0, .int .u64 0, .int .u64 0, .int .u64 0] qy 66 #[.string tb, .int .i64 kb] st w'') := hidden (fun _ _ h => ShAt.pop h)

            have TWO : Hid (∀ (w' : World) (s' : List (ByteArray × Int)), ShAt w (B + 1) B qx 64 #[.int .i64 3, .int .u64 0, .int .u64 0, .int .u64 0, .int .u64 0] qy 66 #[.string tb, .int .i64 kb] s' w' → w'.cell? ⟨qy, 0, none⟩ = some (.string tb) ∧ w'.cell? ⟨qy, 1, none⟩ = some (.int .i64 kb)) := hidden (fun _ _ h => h.two)
            have HAs := HA1.out
            clear HA1 hbz hT HI HR
            go_region_held3 (fun w' => w'.cell? ⟨qy, 0, none⟩ = some (.string tb) ∧ w'.cell? ⟨qy, 1, none⟩ = some (.int .i64 kb)) (first | (refine TWO.out _ (st ++ [(ta, ka)]) ?_; (repeat (first | assumption | refine ShAt.alloc ?_ _ | refine ShAt.drew ?_)); done) | (refine TWO.out _ st ?_; (repeat (first | assumption | refine ShAt.alloc ?_ _ | refine ShAt.drew ?_)); done))
              (first | (go_at_call 31; go_split_ands; refine (HPop.out _ (STK.out _ ?_)).mono ?_; (focus ((repeat (first | assumption | refine ShAt.alloc ?_ _ | refine ShAt.drew ?_)); done)); rintro e wc ⟨rfl, hs5, hk5, hb5⟩; replace hs5 := hs5.out; replace hk5 := hk5.out; refine use_it (NXT.out _ _ ?_ hs5 hk5 hb5.out) ?_; (focus ((repeat (first | assumption | refine ShAt.alloc ?_ _ | refine ShAt.drew ?_)); done)); intro HA5) | (go_at_call 32; go_split_ands; with_reducible refine (HIn.out _ _ ?_).mono ?_; (focus ((repeat (first | (refine rd_new1e ?_ ?_ _ _; (focus (first | rfl | (simp; done)))) | (refine rd_new2e ?_ ?_ _ _ _; (focus (first | rfl | (simp; done)))) | refine rd_alloc ?_ _ | refine rd_drew ?_ | refine rd_kept ?_ hk5 | refine rd_later ?_ hb6 | refine rd_later ?_ hb7 | (first | (refine LT.out _ (st ++ [(ta, ka)]) ?_; (repeat (first | assumption | refine ShAt.alloc ?_ _ | refine ShAt.drew ?_)); done) | (refine LT.out _ st ?_; (repeat (first | assumption | refine ShAt.alloc ?_ _ | refine ShAt.drew ?_)); done)))); done)); rintro e wc ⟨rfl, hb6⟩; (first | (refine use_it (LAT.out _ _ st ?_ hb6) ?_; (focus ((repeat (first | assumption | refine ShAt.alloc ?_ _ | refine ShAt.drew ?_)); done))) | (refine use_it (LAT.out _ _ (st ++ [(ta, ka)]) ?_ hb6) ?_; (focus ((repeat (first | assumption | refine ShAt.alloc ?_ _ | refine ShAt.drew ?_)); done)))); intro HA6) | (go_at_call 32; go_split_ands; with_reducible refine (HIn2.out _ _ ?_).mono ?_; (focus ((repeat (first | (refine rd_new1e ?_ ?_ _ _; (focus (first | rfl | (simp; done)))) | (refine rd_new2e ?_ ?_ _ _ _; (focus (first | rfl | (simp; done)))) | refine rd_alloc ?_ _ | refine rd_drew ?_ | refine rd_kept ?_ hk5 | refine rd_later ?_ hb6 | refine rd_later ?_ hb7 | (first | (refine LT.out _ (st ++ [(ta, ka)]) ?_; (repeat (first | assumption | refine ShAt.alloc ?_ _ | refine ShAt.drew ?_)); done) | (refine LT.out _ st ?_; (repeat (first | assumption | refine ShAt.alloc ?_ _ | refine ShAt.drew ?_)); done)))); done)); rintro e wc ⟨rfl, hb7⟩; (first | (refine use_it (LAT.out _ _ st ?_ hb7) ?_; (focus ((repeat (first | assumption | refine ShAt.alloc ?_ _ | refine ShAt.drew ?_)); done))) | (refine use_it (LAT.out _ _ (st ++ [(ta, ka)]) ?_ hb7) ?_; (focus ((repeat (first | assumption | refine ShAt.alloc ?_ _ | refine ShAt.drew ?_)); done)))); intro HA7))
            all_goals
              go_upto_region 22 with fail
              refine gen_world (P := fun w' => ShAt w (B + 1) B qx 64 #[.int .i64 3, .int .u64 0, .int .u64 0, .int .u64 0, .int .u64 0] qy 66 #[.string tb, .int .i64 kb] st w') _ ?_ ?_
              · first | exact HA6 | exact HA7 | exact HA5
              clear HAs LT KND LAT STK NXT HPop HIn HSh HW TWO HA5 HA6 hs5 hk5 hb5 hb6
              (try clear HA7 hb7)
              (try clear HIn2)
              intro wz HAf
              replace HAf := hidden HAf
              have HF : Hid (ShInv l (k + 1) (.cat a b :: us)) := hidden hgo.out

              have hb3 := HAf.out.below
              have hbz3 := hb3.size
              have HP := hidden (HAf.out.stk.alloc (.cells #[.string (tp ++ tr), .int .i64 (3)] 66))
              have s0 : wz.cell? ⟨B + 1, 0, none⟩ = some (.slice (some ⟨B, 0, none⟩) st.length 512) := HAf.out.stk.cell.cell 0
              have k0 := HAf.out.kind
              have hne := HP.out.ne
              have HQ := hidden ((HP.out.cell.far (p := ⟨B, st.length * 2, none⟩) hne (.string (tp ++ tr))).far (p := ⟨B, st.length * 2 + 1, none⟩) hne (.int .i64 (3)))
              have y0 := HQ.out.cell 0
              have y1 := HQ.out.frozen 0
              have hsl : (0 : Int) ≤ (st.length : Int) := by omega
              clear HAf hgo HQ
              go_wp2_with (at_builtin; refine wpList_append_sh rfl _ _ rfl (B + 1) B wz.heap.size st ((tp ++ tr), 3) HP rfl rfl (by simp) (by simp) hnS ?_)
              go_roundw
              case rel => exact ⟨k + 1, _, by go_num, by omega, HF, hidden (by rw [hst.out]; exact StkAt.push HP.out ((tp ++ tr), 3) hnS), (((hb3.alloc hbz3 _).setCell (p := ⟨B, st.length * 2, none⟩) hBo _).setCell (p := ⟨B, st.length * 2 + 1, none⟩) hBo _).setCell (p := ⟨B + 1, 0, none⟩) hSo _⟩
              case measure => simp [intOf] <;> omega
          · obtain ⟨a, b, us, rfl⟩ : ∃ a b rest, us = b :: a :: rest := by
              rw [show (opRx 4).kind = 4 from rfl, e4] at har
              match us, har with
              | [], har => simp at har
              | [_], har => simp at har
              | b :: a :: us, _ => exact ⟨a, b, us, rfl⟩
            have hsa : Hid ((bs (tex a)).size ≤ 2000000) := hidden (tex_small (List.mem_cons_of_mem _ List.mem_cons_self) hpost)
            have hsb : Hid ((bs (tex b)).size ≤ 2000000) := hidden (tex_small List.mem_cons_self hpost)
            have hgo : Hid (ShInv l (k + 1) (.alt a b :: us)) := hidden (hgo _ (by rw [show (opRx 4).kind = 4 from rfl, e4]; simp; omega) (by rw [postS, postS, postS, post]; simp))
            rw [List.length_cons, List.length_cons] at hroom

            have hltS := HS.out.ltS
            have HA0 : Hid (ShAt w (B + 1) B wr.heap.size 64 #[.int .i64 4, .int .u64 0, .int .u64 0, .int .u64 0, .int .u64 0] wr.heap.size 64 #[.int .i64 4, .int .u64 0, .int .u64 0, .int .u64 0, .int .u64 0] (stkL (b :: a :: us)) (wr.alloc (.cells #[.int .i64 4, .int .u64 0, .int .u64 0, .int .u64 0, .int .u64 0] 64))) := hidden ⟨HS.out.alloc _, Holds.new _ _ _, Holds.new _ _ _, by omega, by omega, hSo, hb.alloc hbz _⟩
            clear HS

            rw [stkL_cons, stkL_cons] at HA0
            have HPopB := hidden (fun (w' : World) (H : StkAt w' (B + 1) B (stkL us ++ [encT a] ++ [encT b])) => rx_pop (B + 1) B (stkL us ++ [encT a]) (encT b) w' H (by rw [List.length_append, stkL_len, List.length_singleton]; omega))
            have HPop := hidden (fun (w' : World) (H : StkAt w' (B + 1) B (stkL us ++ [encT a])) => rx_pop (B + 1) B (stkL us) (encT a) w' H (by rw [stkL_len]; omega))
            have HIn := hidden (fun (v : Value) (w' : World) (HR : Rd w' (fun k => k ≠ B + 1 ∧ k < w'.heap.size) 1 v [(4 : Int)].length ([(4 : Int)].map (Value.int .i64))) => rx_in (bs (tex b)) b.kind v [(4 : Int)] w' (by have := hsb.out; omega) (rd_in HR))
            rw [in_alt] at HIn
            have hpz : (bs (par (isAlt b) (tex b))).size ≤ 2000002 := by have h1 := par_len (isAlt b) (tex b); have h2 := hsb.out; rw [bs_size] at h2 ⊢; omega
            have hpa : (bs (tex a)).size ≤ 2000000 := hsa.out
            have hfld : ∀ (s : ByteArray) (n : Int) (w : World), (Instr.field 66 (.agg #[.string s, .int .i64 n]) 0).run Tryd.prog w = .ok (.string s) w := fun _ _ _ => by kernel_rfl
            have hst : Hid (stkL (.alt a b :: us) = stkL us ++ [(bs (tex a) ++ (⟨#[124]⟩ : ByteArray) ++ bs (par (isAlt b) (tex b)), 4)]) := hidden ((stkL_cons _ _).trans (by rw [show encT (.alt a b) = (bs (tex (.alt a b)), 4) from rfl, show tex (.alt a b) = tex a ++ [124] ++ par (isAlt b) (tex b) by rw [tex]; simp, bs_app, bs_app]; rfl))
            have hnS : (stkL us).length < 512 := by rw [stkL_len]; omega
            unfold encT at HA0 HPop HPopB
            dsimp only at HA0 HPop HPopB
            generalize bs (par (isAlt a) (tex a)) = tp at *
            generalize bs (par (isAlt b) (tex b)) = tq at *
            generalize bs (par (isSeq b) (tex b)) = tr at *
            generalize bs (tex a) = ta at *
            generalize bs (tex b) = tb at *
            generalize a.kind = ka at *
            generalize b.kind = kb at *
            generalize stkL us = st at *
            clear hpost
            have hl1 : (⟨#[124]⟩ : ByteArray).size = 1 := rfl
            have sa0 : ¬ (9223372036854775807 < ta.size + (⟨#[124]⟩ : ByteArray).size) := by (try rw [hl1]); omega
            have sb0 : ta.size + (⟨#[124]⟩ : ByteArray).size ≤ 9223372036854775807 := by (try rw [hl1]); omega
            have sa1 : ¬ (9223372036854775807 < ta.size + 1) := by (try rw [hl1]); omega
            have sb1 : ta.size + 1 ≤ 9223372036854775807 := by (try rw [hl1]); omega
            have sa2 : ¬ (9223372036854775807 < ta.size + (⟨#[124]⟩ : ByteArray).size + tq.size) := by (try rw [hl1]); omega
            have sb2 : ta.size + (⟨#[124]⟩ : ByteArray).size + tq.size ≤ 9223372036854775807 := by (try rw [hl1]); omega
            have sa3 : ¬ (9223372036854775807 < ta.size + 1 + tq.size) := by (try rw [hl1]); omega
            have sb3 : ta.size + 1 + tq.size ≤ 9223372036854775807 := by (try rw [hl1]); omega
            clear hl1
            go_upto_region 17 with fail
            clear x0 x1 x2 x3 x4 hltS
            generalize (wr.alloc (.cells #[.int .i64 4, .int .u64 0, .int .u64 0, .int .u64 0, .int .u64 0] 64)) = w3 at *
            generalize wr.heap.size = qx at *
            go_wp2_with fail
            refine (HPopB.out _ HA0.out.stk).mono ?_
            rintro e wp ⟨rfl, hs0, hk0, hb0⟩
            have HA1 := hidden ((HA0.out.pop hs0.out hk0.out hb0.out).with9 66 #[.string tb, .int .i64 kb])
            clear HPopB HA0 hs0 hk0 hb0
            go_upto_region 18 with fail
            generalize (wp.alloc (.cells #[.string tb, .int .i64 kb] 66)) = w4 at *
            generalize wp.heap.size = qy at *

            have LT : Hid (∀ (w' : World) (s' : List (ByteArray × Int)), ShAt w (B + 1) B qx 64 #[.int .i64 4, .int .u64 0, .int .u64 0, .int .u64 0, .int .u64 0] qy 66 #[.string tb, .int .i64 kb] s' w' → B + 1 < w'.heap.size) := hidden (fun _ _ h => h.stk.ltS)
            have KND : Hid (∀ (w' : World) (s' : List (ByteArray × Int)), ShAt w (B + 1) B qx 64 #[.int .i64 4, .int .u64 0, .int .u64 0, .int .u64 0, .int .u64 0] qy 66 #[.string tb, .int .i64 kb] s' w' → w'.cell? ⟨qx, 0, none⟩ = some (.int .i64 4)) := hidden (fun _ _ h => h.kind)
            have LAT : Hid (∀ (w' w'' : World) (s' : List (ByteArray × Int)), ShAt w (B + 1) B qx 64 #[.int .i64 4, .int .u64 0, .int .u64 0, .int .u64 0, .int .u64 0] qy 66 #[.string tb, .int .i64 kb] s' w' → Below w'.heap.size w' w'' → ShAt w (B + 1) B qx 64 #[.int .i64 4, .int .u64 0, .int .u64 0, .int .u64 0, .int .u64 0] qy 66 #[.string tb, .int .i64 kb] s' w'') := hidden (fun _ _ _ h hb => h.later hb)
            have STK : Hid (∀ (w' : World), ShAt w (B + 1) B qx 64 #[.int .i64 4, .int .u64 0, .int .u64 0, .int .u64 0, .int .u64 0] qy 66 #[.string tb, .int .i64 kb] (st ++ [(ta, ka)]) w' → StkAt w' (B + 1) B (st ++ [(ta, ka)])) := hidden (fun _ h => h.stk)
            have NXT : Hid (∀ (w' w'' : World), ShAt w (B + 1) B qx 64 #[.int .i64 4, .int .u64 0, .int .u64 0, .int .u64 0, .int .u64 0] qy 66 #[.string tb, .int .i64 kb] (st ++ [(ta, ka)]) w' → StkAt w'' (B + 1) B st → Keeps (fun k => k ≠ B + 1 ∧ k < w'.heap.size) w' w'' → (∀ C, C ≤ B + 1 → Below C w' w'') → ShAt w (B + 1) B qx 64 #[.int .i64 4, .int .u64 0, .int .u64 0, .int .u64 0, .int .u64 0] qy 66 #[.string tb, .int .i64 kb] st w'') := hidden (fun _ _ h => ShAt.pop h)

            have TWO : Hid (∀ (w' : World) (s' : List (ByteArray × Int)), ShAt w (B + 1) B qx 64 #[.int .i64 4, .int .u64 0, .int .u64 0, .int .u64 0, .int .u64 0] qy 66 #[.string tb, .int .i64 kb] s' w' → w'.cell? ⟨qy, 0, none⟩ = some (.string tb) ∧ w'.cell? ⟨qy, 1, none⟩ = some (.int .i64 kb)) := hidden (fun _ _ h => h.two)
            have HAs := HA1.out
            clear HA1 hbz hT HI HR
            go_region_held3 (fun w' => w'.cell? ⟨qy, 0, none⟩ = some (.string tb) ∧ w'.cell? ⟨qy, 1, none⟩ = some (.int .i64 kb)) (first | (refine TWO.out _ (st ++ [(ta, ka)]) ?_; (repeat (first | assumption | refine ShAt.alloc ?_ _ | refine ShAt.drew ?_)); done) | (refine TWO.out _ st ?_; (repeat (first | assumption | refine ShAt.alloc ?_ _ | refine ShAt.drew ?_)); done))
              (first | (go_at_call 31; go_split_ands; refine (HPop.out _ (STK.out _ ?_)).mono ?_; (focus ((repeat (first | assumption | refine ShAt.alloc ?_ _ | refine ShAt.drew ?_)); done)); rintro e wc ⟨rfl, hs5, hk5, hb5⟩; replace hs5 := hs5.out; replace hk5 := hk5.out; refine use_it (NXT.out _ _ ?_ hs5 hk5 hb5.out) ?_; (focus ((repeat (first | assumption | refine ShAt.alloc ?_ _ | refine ShAt.drew ?_)); done)); intro HA5) | (go_at_call 32; go_split_ands; with_reducible refine (HIn.out _ _ ?_).mono ?_; (focus ((repeat (first | (refine rd_new1e ?_ ?_ _ _; (focus (first | rfl | (simp; done)))) | (refine rd_new2e ?_ ?_ _ _ _; (focus (first | rfl | (simp; done)))) | refine rd_alloc ?_ _ | refine rd_drew ?_ | refine rd_kept ?_ hk5 | refine rd_later ?_ hb6 | refine rd_later ?_ hb7 | (first | (refine LT.out _ (st ++ [(ta, ka)]) ?_; (repeat (first | assumption | refine ShAt.alloc ?_ _ | refine ShAt.drew ?_)); done) | (refine LT.out _ st ?_; (repeat (first | assumption | refine ShAt.alloc ?_ _ | refine ShAt.drew ?_)); done)))); done)); rintro e wc ⟨rfl, hb6⟩; (first | (refine use_it (LAT.out _ _ st ?_ hb6) ?_; (focus ((repeat (first | assumption | refine ShAt.alloc ?_ _ | refine ShAt.drew ?_)); done))) | (refine use_it (LAT.out _ _ (st ++ [(ta, ka)]) ?_ hb6) ?_; (focus ((repeat (first | assumption | refine ShAt.alloc ?_ _ | refine ShAt.drew ?_)); done)))); intro HA6))
            all_goals
              go_upto_region 22 with fail
              refine gen_world (P := fun w' => ShAt w (B + 1) B qx 64 #[.int .i64 4, .int .u64 0, .int .u64 0, .int .u64 0, .int .u64 0] qy 66 #[.string tb, .int .i64 kb] st w') _ ?_ ?_
              · first | exact HA6 | exact HA7 | exact HA5
              clear HAs LT KND LAT STK NXT HPop HIn HSh HW TWO HA5 HA6 hs5 hk5 hb5 hb6
              (try clear HA7 hb7)
              (try clear HIn2)
              intro wz HAf
              replace HAf := hidden HAf
              have HF : Hid (ShInv l (k + 1) (.alt a b :: us)) := hidden hgo.out

              have hb3 := HAf.out.below
              have hbz3 := hb3.size
              have HP := hidden (HAf.out.stk.alloc (.cells #[.string (ta ++ (⟨#[124]⟩ : ByteArray) ++ tq), .int .i64 (4)] 66))
              have s0 : wz.cell? ⟨B + 1, 0, none⟩ = some (.slice (some ⟨B, 0, none⟩) st.length 512) := HAf.out.stk.cell.cell 0
              have k0 := HAf.out.kind
              have hne := HP.out.ne
              have HQ := hidden ((HP.out.cell.far (p := ⟨B, st.length * 2, none⟩) hne (.string (ta ++ (⟨#[124]⟩ : ByteArray) ++ tq))).far (p := ⟨B, st.length * 2 + 1, none⟩) hne (.int .i64 (4)))
              have y0 := HQ.out.cell 0
              have y1 := HQ.out.frozen 0
              have hsl : (0 : Int) ≤ (st.length : Int) := by omega
              clear HAf hgo HQ
              go_wp2_with (at_builtin; refine wpList_append_sh rfl _ _ rfl (B + 1) B wz.heap.size st ((ta ++ (⟨#[124]⟩ : ByteArray) ++ tq), 4) HP rfl rfl (by simp) (by simp) hnS ?_)
              go_roundw
              case rel => exact ⟨k + 1, _, by go_num, by omega, HF, hidden (by rw [hst.out]; exact StkAt.push HP.out ((ta ++ (⟨#[124]⟩ : ByteArray) ++ tq), 4) hnS), (((hb3.alloc hbz3 _).setCell (p := ⟨B, st.length * 2, none⟩) hBo _).setCell (p := ⟨B, st.length * 2 + 1, none⟩) hBo _).setCell (p := ⟨B + 1, 0, none⟩) hSo _⟩
              case measure => simp [intOf] <;> omega
          · obtain ⟨a, us, rfl⟩ : ∃ a rest, us = a :: rest := by
              cases us with
              | nil => rw [show (opRx 5).kind = 5 from rfl, e5] at har; simp at har
              | cons a us => exact ⟨a, us, rfl⟩
            have hsm : Hid ((bs (tex a)).size ≤ 2000000) := hidden (tex_small List.mem_cons_self hpost)
            have hgo : Hid (ShInv l (k + 1) (.rep .star a :: us)) := hidden (hgo _ (by rw [show (opRx 5).kind = 5 from rfl, e5]; simp) (by rw [postS, postS, post]; simp [Rep.num]))
            rw [List.length_cons] at hroom

            have hltS := HS.out.ltS
            have HA0 : Hid (ShAt w (B + 1) B wr.heap.size 64 #[.int .i64 5, .int .u64 0, .int .u64 0, .int .u64 0, .int .u64 0] wr.heap.size 64 #[.int .i64 5, .int .u64 0, .int .u64 0, .int .u64 0, .int .u64 0] (stkL (a :: us)) (wr.alloc (.cells #[.int .i64 5, .int .u64 0, .int .u64 0, .int .u64 0, .int .u64 0] 64))) := hidden ⟨HS.out.alloc _, Holds.new _ _ _, Holds.new _ _ _, by omega, by omega, hSo, hb.alloc hbz _⟩
            clear HS

            rw [stkL_cons] at HA0
            have HPop := hidden (fun (w' : World) (H : StkAt w' (B + 1) B (stkL us ++ [encT a])) => rx_pop (B + 1) B (stkL us) (encT a) w' H (by rw [stkL_len]; omega))
            have HIn := hidden (fun (v : Value) (w' : World) (HR : Rd w' (fun k => k ≠ B + 1 ∧ k < w'.heap.size) 1 v [(4 : Int), 3].length ([(4 : Int), 3].map (Value.int .i64))) => rx_in (bs (tex a)) a.kind v [4, 3] w' (by have := hsm.out; omega) (rd_in HR))
            rw [in_seq] at HIn
            have hpz : (bs (par (isSeq a) (tex a))).size ≤ 2000002 := by have h1 := par_len (isSeq a) (tex a); have h2 := hsm.out; rw [bs_size] at h2 ⊢; omega
            have hst : Hid (stkL (.rep .star a :: us) = stkL us ++ [(bs (par (isSeq a) (tex a)) ++ (⟨#[42, 43, 63]⟩ : ByteArray).extract 0 1, 5)]) := hidden ((stkL_cons _ _).trans (by rw [show encT (.rep .star a) = (bs (tex (.rep .star a)), 5) from rfl, tex, bs_app]; rfl))
            have hnS : (stkL us).length < 512 := by rw [stkL_len]; omega
            unfold encT at HA0 HPop
            dsimp only at HA0 HPop
            generalize bs (par (isSeq a) (tex a)) = tp at *
            generalize bs (tex a) = ta at *
            generalize a.kind = ka at *
            generalize stkL us = st at *
            clear hpost
            go_upto_region 11 with fail
            clear x0 x1 x2 x3 x4 hltS
            generalize (wr.alloc (.cells #[.int .i64 5, .int .u64 0, .int .u64 0, .int .u64 0, .int .u64 0] 64)) = w3 at *
            generalize wr.heap.size = qx at *

            have hps : 0 ≤ tp.size := Nat.zero_le _
            have hw2 : IntKind.i64.wrap 2 = 2 := by decide
            have hw3 : IntKind.i64.wrap 3 = 3 := by decide
            have hw4 : IntKind.i64.wrap (2 + 1) = 3 := by decide
            clear hbz hT HI HR
            have hgo := hgo
            have HA0d := hidden HA0.out.drew
            have hCd := HA0d.out.kind
            refine (wpIn_wide (n := 5)).1 ?_
            refine wpIn_region_take (fun w' => w'.cell? ⟨qx, 0, none⟩ = some (.int .i64 5)) 12 (by kernel_rfl) ?_
            refine take_read (i := 0) (v := ?_) (by kernel_rfl) (by rfl) rfl (by rfl) (by kernel_rfl) (by kernel_rfl) (fun _ _ _ h => h) hCd ⟨Or.inl ⟨by rfl, fun w9 hw => ?_⟩, fun _ => rfl⟩ ?_
            rotate_left
            · clear hw
              go_simp
              try rfl
            refine take_read (i := 4) (v := ?_) (by kernel_rfl) (by rfl) rfl (by rfl) (by kernel_rfl) (by kernel_rfl) (fun _ _ _ h => h) hCd ⟨Or.inl ⟨by rfl, fun w9 hw => ?_⟩, fun _ => rfl⟩ ?_
            rotate_left
            · clear hw
              go_simp
              try rfl
            refine take_read (i := 5) (v := ?_) (by kernel_rfl) (by rfl) rfl (by rfl) (by kernel_rfl) (by kernel_rfl) (fun _ _ _ h => h) hCd ⟨Or.inl ⟨by rfl, fun w9 hw => ?_⟩, fun _ => rfl⟩ ?_
            rotate_left
            · have r0 : w9.cell? ⟨qx, 0, none⟩ = some (.int .i64 5) := hw
              go_simp
              try rfl
            refine take_read (i := 6) (v := ?_) (by kernel_rfl) (by rfl) rfl (by rfl) (by kernel_rfl) (by kernel_rfl) (fun _ _ _ h => h) hCd ⟨Or.inl ⟨by rfl, fun w9 hw => ?_⟩, fun _ => rfl⟩ ?_
            rotate_left
            · clear hw
              go_simp
              try rfl
            refine take_read (i := 7) (v := ?_) (by kernel_rfl) (by rfl) rfl (by rfl) (by kernel_rfl) (by kernel_rfl) (fun _ _ _ h => h) hCd ⟨Or.inl ⟨by rfl, fun w9 hw => ?_⟩, fun _ => rfl⟩ ?_
            rotate_left
            · clear hw
              go_simp
              try rfl
            refine take_read (i := 8) (v := ?_) (by kernel_rfl) (by rfl) rfl (by rfl) (by kernel_rfl) (by kernel_rfl) (fun _ _ _ h => h) hCd ⟨Or.inl ⟨by rfl, fun w9 hw => ?_⟩, fun _ => rfl⟩ ?_
            rotate_left
            · have r0 : w9.cell? ⟨qx, 0, none⟩ = some (.int .i64 5) := hw
              go_simp
              try rfl
            refine take_read (i := 9) (v := ?_) (by kernel_rfl) (by rfl) rfl (by rfl) (by kernel_rfl) (by kernel_rfl) (fun _ _ _ h => h) hCd ⟨Or.inl ⟨by rfl, fun w9 hw => ?_⟩, fun _ => rfl⟩ ?_
            rotate_left
            · clear hw
              go_simp
              try rfl
            refine take_read (i := 10) (v := ?_) (by kernel_rfl) (by rfl) rfl (by rfl) (by kernel_rfl) (by kernel_rfl) (fun _ _ _ h => h) hCd ⟨Or.inl ⟨by rfl, fun w9 hw => ?_⟩, fun _ => rfl⟩ ?_
            rotate_left
            · clear hw
              go_simp
              try rfl
            refine take_read (i := 11) (v := ?_) (by kernel_rfl) (by rfl) rfl (by rfl) (by kernel_rfl) (by kernel_rfl) (fun _ _ _ h => h) hCd ⟨Or.inl ⟨by rfl, fun w9 hw => ?_⟩, fun _ => rfl⟩ ?_
            rotate_left
            · clear hw
              go_simp
              try rfl
            refine take_two (i := 1) (j := 2) (by kernel_rfl) rfl rfl rfl rfl (by rfl) (by rfl) (fun K hK => ?_) (fun K hK => ?_)
            · skip
              go_simp
              refine ⟨trivial, ?_⟩
              gi_at_call 31
              refine CallsIn.mono (F := Fence.wide) (callsIn_wide.2 (HPop.out _ HA0d.out.stk)) ?_
              rintro e w9 ⟨rfl, hs5, hk5, hb5⟩
              have HA5 := hidden (HA0d.out.pop hs5.out hk5.out hb5.out)
              refine hK _ _ HA5.out.kind ?_
              clear hK K
              refine take_only (i := 2) (by kernel_rfl) rfl rfl (by rfl) (fun K hK => ?_)
              go_simp
              refine hK _ _ (HA5.out.alloc _).kind ?_
              clear hK K
              refine take_only (i := 3) (by kernel_rfl) rfl rfl (by rfl) (fun K hK => ?_)
              go_simp
              refine ⟨trivial, ?_⟩
              gi_at_call 32
              refine CallsIn.mono (F := Fence.wide) (callsIn_wide.2 (HIn.out _ _ (rd_new2e rfl HA5.out.stk.ltS _ _ _))) ?_
              rintro e wc ⟨rfl, hb6⟩
              have HA6 := (HA5.out.alloc _).later hb6
              refine hK _ _ HA6.kind ?_
              clear hK K
              refine take_tail (by kernel_rfl) (by kernel_rfl) ?_
              simp only [List.drop_succ_cons, List.drop_zero]
              gi_wp2_with fail
              have HAf := hidden HA6
              clear hw2 hw3 hw4 HA5 hs5 hk5 hb5 hb6 HA6 HA0 HPop HIn HSh HW HA0d

              have HF : Hid (ShInv l (k + 1) (.rep .star a :: us)) := hidden hgo.out

              have hb3 := HAf.out.below
              have hbz3 := hb3.size
              have HP := hidden (HAf.out.stk.alloc (.cells #[.string (tp ++ (⟨#[42, 43, 63]⟩ : ByteArray).extract 0 1), .int .i64 (5)] 66))
              have s0 : wc.cell? ⟨B + 1, 0, none⟩ = some (.slice (some ⟨B, 0, none⟩) st.length 512) := HAf.out.stk.cell.cell 0
              have k0 := HAf.out.kind
              have hne := HP.out.ne
              have HQ := hidden ((HP.out.cell.far (p := ⟨B, st.length * 2, none⟩) hne (.string (tp ++ (⟨#[42, 43, 63]⟩ : ByteArray).extract 0 1))).far (p := ⟨B, st.length * 2 + 1, none⟩) hne (.int .i64 (5)))
              have y0 := HQ.out.cell 0
              have y1 := HQ.out.frozen 0
              have hsl : (0 : Int) ≤ (st.length : Int) := by omega
              clear HAf hgo HQ
              go_wp2_with (at_builtin; refine wpList_append_sh rfl _ _ rfl (B + 1) B wc.heap.size st ((tp ++ (⟨#[42, 43, 63]⟩ : ByteArray).extract 0 1), 5) HP rfl rfl (by simp) (by simp) hnS ?_)
              go_roundw
              case rel => exact ⟨k + 1, _, by go_num, by omega, HF, hidden (by rw [hst.out]; exact StkAt.push HP.out ((tp ++ (⟨#[42, 43, 63]⟩ : ByteArray).extract 0 1), 5) hnS), (((hb3.alloc hbz3 _).setCell (p := ⟨B, st.length * 2, none⟩) hBo _).setCell (p := ⟨B, st.length * 2 + 1, none⟩) hBo _).setCell (p := ⟨B + 1, 0, none⟩) hSo _⟩
              case measure => simp [intOf] <;> omega
            · skip
              go_simp
              refine hK _ _ (HA0d.out.alloc _).kind ?_
              clear hK K
              refine take_only (i := 1) (by kernel_rfl) rfl rfl (by rfl) (fun K hK => ?_)
              go_simp
              refine ⟨trivial, ?_⟩
              gi_at_call 31
              refine CallsIn.mono (F := Fence.wide) (callsIn_wide.2 (HPop.out _ (HA0d.out.alloc _).stk)) ?_
              rintro e w9 ⟨rfl, hs5, hk5, hb5⟩
              have HA5 := hidden ((HA0d.out.alloc _).pop hs5.out hk5.out hb5.out)
              refine hK _ _ HA5.out.kind ?_
              clear hK K
              refine take_only (i := 3) (by kernel_rfl) rfl rfl (by rfl) (fun K hK => ?_)
              go_simp
              refine ⟨trivial, ?_⟩
              gi_at_call 32
              refine CallsIn.mono (F := Fence.wide) (callsIn_wide.2 (HIn.out _ _ (rd_kept (rd_new2e rfl HA0d.out.stk.ltS _ _ _) hk5.out))) ?_
              rintro e wc ⟨rfl, hb6⟩
              have HA6 := HA5.out.later hb6
              refine hK _ _ HA6.kind ?_
              clear hK K
              refine take_tail (by kernel_rfl) (by kernel_rfl) ?_
              simp only [List.drop_succ_cons, List.drop_zero]
              gi_wp2_with fail
              have HAf := hidden HA6
              clear hw2 hw3 hw4 HA5 hs5 hk5 hb5 hb6 HA6 HA0 HPop HIn HSh HW HA0d

              have HF : Hid (ShInv l (k + 1) (.rep .star a :: us)) := hidden hgo.out

              have hb3 := HAf.out.below
              have hbz3 := hb3.size
              have HP := hidden (HAf.out.stk.alloc (.cells #[.string (tp ++ (⟨#[42, 43, 63]⟩ : ByteArray).extract 0 1), .int .i64 (5)] 66))
              have s0 : wc.cell? ⟨B + 1, 0, none⟩ = some (.slice (some ⟨B, 0, none⟩) st.length 512) := HAf.out.stk.cell.cell 0
              have k0 := HAf.out.kind
              have hne := HP.out.ne
              have HQ := hidden ((HP.out.cell.far (p := ⟨B, st.length * 2, none⟩) hne (.string (tp ++ (⟨#[42, 43, 63]⟩ : ByteArray).extract 0 1))).far (p := ⟨B, st.length * 2 + 1, none⟩) hne (.int .i64 (5)))
              have y0 := HQ.out.cell 0
              have y1 := HQ.out.frozen 0
              have hsl : (0 : Int) ≤ (st.length : Int) := by omega
              clear HAf hgo HQ
              go_wp2_with (at_builtin; refine wpList_append_sh rfl _ _ rfl (B + 1) B wc.heap.size st ((tp ++ (⟨#[42, 43, 63]⟩ : ByteArray).extract 0 1), 5) HP rfl rfl (by simp) (by simp) hnS ?_)
              go_roundw
              case rel => exact ⟨k + 1, _, by go_num, by omega, HF, hidden (by rw [hst.out]; exact StkAt.push HP.out ((tp ++ (⟨#[42, 43, 63]⟩ : ByteArray).extract 0 1), 5) hnS), (((hb3.alloc hbz3 _).setCell (p := ⟨B, st.length * 2, none⟩) hBo _).setCell (p := ⟨B, st.length * 2 + 1, none⟩) hBo _).setCell (p := ⟨B + 1, 0, none⟩) hSo _⟩
              case measure => simp [intOf] <;> omega
          · obtain ⟨a, us, rfl⟩ : ∃ a rest, us = a :: rest := by
              cases us with
              | nil => rw [show (opRx 6).kind = 6 from rfl, e6] at har; simp at har
              | cons a us => exact ⟨a, us, rfl⟩
            have hsm : Hid ((bs (tex a)).size ≤ 2000000) := hidden (tex_small List.mem_cons_self hpost)
            have hgo : Hid (ShInv l (k + 1) (.rep .plus a :: us)) := hidden (hgo _ (by rw [show (opRx 6).kind = 6 from rfl, e6]; simp) (by rw [postS, postS, post]; simp [Rep.num]))
            rw [List.length_cons] at hroom

            have hltS := HS.out.ltS
            have HA0 : Hid (ShAt w (B + 1) B wr.heap.size 64 #[.int .i64 6, .int .u64 0, .int .u64 0, .int .u64 0, .int .u64 0] wr.heap.size 64 #[.int .i64 6, .int .u64 0, .int .u64 0, .int .u64 0, .int .u64 0] (stkL (a :: us)) (wr.alloc (.cells #[.int .i64 6, .int .u64 0, .int .u64 0, .int .u64 0, .int .u64 0] 64))) := hidden ⟨HS.out.alloc _, Holds.new _ _ _, Holds.new _ _ _, by omega, by omega, hSo, hb.alloc hbz _⟩
            clear HS

            rw [stkL_cons] at HA0
            have HPop := hidden (fun (w' : World) (H : StkAt w' (B + 1) B (stkL us ++ [encT a])) => rx_pop (B + 1) B (stkL us) (encT a) w' H (by rw [stkL_len]; omega))
            have HIn := hidden (fun (v : Value) (w' : World) (HR : Rd w' (fun k => k ≠ B + 1 ∧ k < w'.heap.size) 1 v [(4 : Int), 3].length ([(4 : Int), 3].map (Value.int .i64))) => rx_in (bs (tex a)) a.kind v [4, 3] w' (by have := hsm.out; omega) (rd_in HR))
            rw [in_seq] at HIn
            have hpz : (bs (par (isSeq a) (tex a))).size ≤ 2000002 := by have h1 := par_len (isSeq a) (tex a); have h2 := hsm.out; rw [bs_size] at h2 ⊢; omega
            have hst : Hid (stkL (.rep .plus a :: us) = stkL us ++ [(bs (par (isSeq a) (tex a)) ++ (⟨#[42, 43, 63]⟩ : ByteArray).extract 1 2, 6)]) := hidden ((stkL_cons _ _).trans (by rw [show encT (.rep .plus a) = (bs (tex (.rep .plus a)), 6) from rfl, tex, bs_app]; rfl))
            have hnS : (stkL us).length < 512 := by rw [stkL_len]; omega
            unfold encT at HA0 HPop
            dsimp only at HA0 HPop
            generalize bs (par (isSeq a) (tex a)) = tp at *
            generalize bs (tex a) = ta at *
            generalize a.kind = ka at *
            generalize stkL us = st at *
            clear hpost
            go_upto_region 11 with fail
            clear x0 x1 x2 x3 x4 hltS
            generalize (wr.alloc (.cells #[.int .i64 6, .int .u64 0, .int .u64 0, .int .u64 0, .int .u64 0] 64)) = w3 at *
            generalize wr.heap.size = qx at *

            have hps : 0 ≤ tp.size := Nat.zero_le _
            have hw2 : IntKind.i64.wrap 2 = 2 := by decide
            have hw3 : IntKind.i64.wrap 3 = 3 := by decide
            have hw4 : IntKind.i64.wrap (2 + 1) = 3 := by decide
            clear hbz hT HI HR
            have hgo := hgo
            have HA0d := hidden HA0.out.drew
            have hCd := HA0d.out.kind
            refine (wpIn_wide (n := 5)).1 ?_
            refine wpIn_region_take (fun w' => w'.cell? ⟨qx, 0, none⟩ = some (.int .i64 6)) 12 (by kernel_rfl) ?_
            refine take_read (i := 0) (v := ?_) (by kernel_rfl) (by rfl) rfl (by rfl) (by kernel_rfl) (by kernel_rfl) (fun _ _ _ h => h) hCd ⟨Or.inl ⟨by rfl, fun w9 hw => ?_⟩, fun _ => rfl⟩ ?_
            rotate_left
            · clear hw
              go_simp
              try rfl
            refine take_read (i := 4) (v := ?_) (by kernel_rfl) (by rfl) rfl (by rfl) (by kernel_rfl) (by kernel_rfl) (fun _ _ _ h => h) hCd ⟨Or.inl ⟨by rfl, fun w9 hw => ?_⟩, fun _ => rfl⟩ ?_
            rotate_left
            · clear hw
              go_simp
              try rfl
            refine take_read (i := 5) (v := ?_) (by kernel_rfl) (by rfl) rfl (by rfl) (by kernel_rfl) (by kernel_rfl) (fun _ _ _ h => h) hCd ⟨Or.inl ⟨by rfl, fun w9 hw => ?_⟩, fun _ => rfl⟩ ?_
            rotate_left
            · have r0 : w9.cell? ⟨qx, 0, none⟩ = some (.int .i64 6) := hw
              go_simp
              try rfl
            refine take_read (i := 6) (v := ?_) (by kernel_rfl) (by rfl) rfl (by rfl) (by kernel_rfl) (by kernel_rfl) (fun _ _ _ h => h) hCd ⟨Or.inl ⟨by rfl, fun w9 hw => ?_⟩, fun _ => rfl⟩ ?_
            rotate_left
            · clear hw
              go_simp
              try rfl
            refine take_read (i := 7) (v := ?_) (by kernel_rfl) (by rfl) rfl (by rfl) (by kernel_rfl) (by kernel_rfl) (fun _ _ _ h => h) hCd ⟨Or.inl ⟨by rfl, fun w9 hw => ?_⟩, fun _ => rfl⟩ ?_
            rotate_left
            · clear hw
              go_simp
              try rfl
            refine take_read (i := 8) (v := ?_) (by kernel_rfl) (by rfl) rfl (by rfl) (by kernel_rfl) (by kernel_rfl) (fun _ _ _ h => h) hCd ⟨Or.inl ⟨by rfl, fun w9 hw => ?_⟩, fun _ => rfl⟩ ?_
            rotate_left
            · have r0 : w9.cell? ⟨qx, 0, none⟩ = some (.int .i64 6) := hw
              go_simp
              try rfl
            refine take_read (i := 9) (v := ?_) (by kernel_rfl) (by rfl) rfl (by rfl) (by kernel_rfl) (by kernel_rfl) (fun _ _ _ h => h) hCd ⟨Or.inl ⟨by rfl, fun w9 hw => ?_⟩, fun _ => rfl⟩ ?_
            rotate_left
            · clear hw
              go_simp
              try rfl
            refine take_read (i := 10) (v := ?_) (by kernel_rfl) (by rfl) rfl (by rfl) (by kernel_rfl) (by kernel_rfl) (fun _ _ _ h => h) hCd ⟨Or.inl ⟨by rfl, fun w9 hw => ?_⟩, fun _ => rfl⟩ ?_
            rotate_left
            · clear hw
              go_simp
              try rfl
            refine take_read (i := 11) (v := ?_) (by kernel_rfl) (by rfl) rfl (by rfl) (by kernel_rfl) (by kernel_rfl) (fun _ _ _ h => h) hCd ⟨Or.inl ⟨by rfl, fun w9 hw => ?_⟩, fun _ => rfl⟩ ?_
            rotate_left
            · clear hw
              go_simp
              try rfl
            refine take_two (i := 1) (j := 2) (by kernel_rfl) rfl rfl rfl rfl (by rfl) (by rfl) (fun K hK => ?_) (fun K hK => ?_)
            · skip
              go_simp
              refine ⟨trivial, ?_⟩
              gi_at_call 31
              refine CallsIn.mono (F := Fence.wide) (callsIn_wide.2 (HPop.out _ HA0d.out.stk)) ?_
              rintro e w9 ⟨rfl, hs5, hk5, hb5⟩
              have HA5 := hidden (HA0d.out.pop hs5.out hk5.out hb5.out)
              refine hK _ _ HA5.out.kind ?_
              clear hK K
              refine take_only (i := 2) (by kernel_rfl) rfl rfl (by rfl) (fun K hK => ?_)
              go_simp
              refine hK _ _ (HA5.out.alloc _).kind ?_
              clear hK K
              refine take_only (i := 3) (by kernel_rfl) rfl rfl (by rfl) (fun K hK => ?_)
              go_simp
              refine ⟨trivial, ?_⟩
              gi_at_call 32
              refine CallsIn.mono (F := Fence.wide) (callsIn_wide.2 (HIn.out _ _ (rd_new2e rfl HA5.out.stk.ltS _ _ _))) ?_
              rintro e wc ⟨rfl, hb6⟩
              have HA6 := (HA5.out.alloc _).later hb6
              refine hK _ _ HA6.kind ?_
              clear hK K
              refine take_tail (by kernel_rfl) (by kernel_rfl) ?_
              simp only [List.drop_succ_cons, List.drop_zero]
              gi_wp2_with fail
              have HAf := hidden HA6
              clear hw2 hw3 hw4 HA5 hs5 hk5 hb5 hb6 HA6 HA0 HPop HIn HSh HW HA0d

              have HF : Hid (ShInv l (k + 1) (.rep .plus a :: us)) := hidden hgo.out

              have hb3 := HAf.out.below
              have hbz3 := hb3.size
              have HP := hidden (HAf.out.stk.alloc (.cells #[.string (tp ++ (⟨#[42, 43, 63]⟩ : ByteArray).extract 1 2), .int .i64 (6)] 66))
              have s0 : wc.cell? ⟨B + 1, 0, none⟩ = some (.slice (some ⟨B, 0, none⟩) st.length 512) := HAf.out.stk.cell.cell 0
              have k0 := HAf.out.kind
              have hne := HP.out.ne
              have HQ := hidden ((HP.out.cell.far (p := ⟨B, st.length * 2, none⟩) hne (.string (tp ++ (⟨#[42, 43, 63]⟩ : ByteArray).extract 1 2))).far (p := ⟨B, st.length * 2 + 1, none⟩) hne (.int .i64 (6)))
              have y0 := HQ.out.cell 0
              have y1 := HQ.out.frozen 0
              have hsl : (0 : Int) ≤ (st.length : Int) := by omega
              clear HAf hgo HQ
              go_wp2_with (at_builtin; refine wpList_append_sh rfl _ _ rfl (B + 1) B wc.heap.size st ((tp ++ (⟨#[42, 43, 63]⟩ : ByteArray).extract 1 2), 6) HP rfl rfl (by simp) (by simp) hnS ?_)
              go_roundw
              case rel => exact ⟨k + 1, _, by go_num, by omega, HF, hidden (by rw [hst.out]; exact StkAt.push HP.out ((tp ++ (⟨#[42, 43, 63]⟩ : ByteArray).extract 1 2), 6) hnS), (((hb3.alloc hbz3 _).setCell (p := ⟨B, st.length * 2, none⟩) hBo _).setCell (p := ⟨B, st.length * 2 + 1, none⟩) hBo _).setCell (p := ⟨B + 1, 0, none⟩) hSo _⟩
              case measure => simp [intOf] <;> omega
            · skip
              go_simp
              refine hK _ _ (HA0d.out.alloc _).kind ?_
              clear hK K
              refine take_only (i := 1) (by kernel_rfl) rfl rfl (by rfl) (fun K hK => ?_)
              go_simp
              refine ⟨trivial, ?_⟩
              gi_at_call 31
              refine CallsIn.mono (F := Fence.wide) (callsIn_wide.2 (HPop.out _ (HA0d.out.alloc _).stk)) ?_
              rintro e w9 ⟨rfl, hs5, hk5, hb5⟩
              have HA5 := hidden ((HA0d.out.alloc _).pop hs5.out hk5.out hb5.out)
              refine hK _ _ HA5.out.kind ?_
              clear hK K
              refine take_only (i := 3) (by kernel_rfl) rfl rfl (by rfl) (fun K hK => ?_)
              go_simp
              refine ⟨trivial, ?_⟩
              gi_at_call 32
              refine CallsIn.mono (F := Fence.wide) (callsIn_wide.2 (HIn.out _ _ (rd_kept (rd_new2e rfl HA0d.out.stk.ltS _ _ _) hk5.out))) ?_
              rintro e wc ⟨rfl, hb6⟩
              have HA6 := HA5.out.later hb6
              refine hK _ _ HA6.kind ?_
              clear hK K
              refine take_tail (by kernel_rfl) (by kernel_rfl) ?_
              simp only [List.drop_succ_cons, List.drop_zero]
              gi_wp2_with fail
              have HAf := hidden HA6
              clear hw2 hw3 hw4 HA5 hs5 hk5 hb5 hb6 HA6 HA0 HPop HIn HSh HW HA0d

              have HF : Hid (ShInv l (k + 1) (.rep .plus a :: us)) := hidden hgo.out

              have hb3 := HAf.out.below
              have hbz3 := hb3.size
              have HP := hidden (HAf.out.stk.alloc (.cells #[.string (tp ++ (⟨#[42, 43, 63]⟩ : ByteArray).extract 1 2), .int .i64 (6)] 66))
              have s0 : wc.cell? ⟨B + 1, 0, none⟩ = some (.slice (some ⟨B, 0, none⟩) st.length 512) := HAf.out.stk.cell.cell 0
              have k0 := HAf.out.kind
              have hne := HP.out.ne
              have HQ := hidden ((HP.out.cell.far (p := ⟨B, st.length * 2, none⟩) hne (.string (tp ++ (⟨#[42, 43, 63]⟩ : ByteArray).extract 1 2))).far (p := ⟨B, st.length * 2 + 1, none⟩) hne (.int .i64 (6)))
              have y0 := HQ.out.cell 0
              have y1 := HQ.out.frozen 0
              have hsl : (0 : Int) ≤ (st.length : Int) := by omega
              clear HAf hgo HQ
              go_wp2_with (at_builtin; refine wpList_append_sh rfl _ _ rfl (B + 1) B wc.heap.size st ((tp ++ (⟨#[42, 43, 63]⟩ : ByteArray).extract 1 2), 6) HP rfl rfl (by simp) (by simp) hnS ?_)
              go_roundw
              case rel => exact ⟨k + 1, _, by go_num, by omega, HF, hidden (by rw [hst.out]; exact StkAt.push HP.out ((tp ++ (⟨#[42, 43, 63]⟩ : ByteArray).extract 1 2), 6) hnS), (((hb3.alloc hbz3 _).setCell (p := ⟨B, st.length * 2, none⟩) hBo _).setCell (p := ⟨B, st.length * 2 + 1, none⟩) hBo _).setCell (p := ⟨B + 1, 0, none⟩) hSo _⟩
              case measure => simp [intOf] <;> omega
          · obtain ⟨a, us, rfl⟩ : ∃ a rest, us = a :: rest := by
              cases us with
              | nil => rw [show (opRx 7).kind = 7 from rfl, e7] at har; simp at har
              | cons a us => exact ⟨a, us, rfl⟩
            have hsm : Hid ((bs (tex a)).size ≤ 2000000) := hidden (tex_small List.mem_cons_self hpost)
            have hgo : Hid (ShInv l (k + 1) (.rep .opt a :: us)) := hidden (hgo _ (by rw [show (opRx 7).kind = 7 from rfl, e7]; simp) (by rw [postS, postS, post]; simp [Rep.num]))
            rw [List.length_cons] at hroom

            have hltS := HS.out.ltS
            have HA0 : Hid (ShAt w (B + 1) B wr.heap.size 64 #[.int .i64 7, .int .u64 0, .int .u64 0, .int .u64 0, .int .u64 0] wr.heap.size 64 #[.int .i64 7, .int .u64 0, .int .u64 0, .int .u64 0, .int .u64 0] (stkL (a :: us)) (wr.alloc (.cells #[.int .i64 7, .int .u64 0, .int .u64 0, .int .u64 0, .int .u64 0] 64))) := hidden ⟨HS.out.alloc _, Holds.new _ _ _, Holds.new _ _ _, by omega, by omega, hSo, hb.alloc hbz _⟩
            clear HS

            rw [stkL_cons] at HA0
            have HPop := hidden (fun (w' : World) (H : StkAt w' (B + 1) B (stkL us ++ [encT a])) => rx_pop (B + 1) B (stkL us) (encT a) w' H (by rw [stkL_len]; omega))
            have HIn := hidden (fun (v : Value) (w' : World) (HR : Rd w' (fun k => k ≠ B + 1 ∧ k < w'.heap.size) 1 v [(4 : Int), 3].length ([(4 : Int), 3].map (Value.int .i64))) => rx_in (bs (tex a)) a.kind v [4, 3] w' (by have := hsm.out; omega) (rd_in HR))
            rw [in_seq] at HIn
            have hpz : (bs (par (isSeq a) (tex a))).size ≤ 2000002 := by have h1 := par_len (isSeq a) (tex a); have h2 := hsm.out; rw [bs_size] at h2 ⊢; omega
            have hst : Hid (stkL (.rep .opt a :: us) = stkL us ++ [(bs (par (isSeq a) (tex a)) ++ (⟨#[42, 43, 63]⟩ : ByteArray).extract 2 3, 7)]) := hidden ((stkL_cons _ _).trans (by rw [show encT (.rep .opt a) = (bs (tex (.rep .opt a)), 7) from rfl, tex, bs_app]; rfl))
            have hnS : (stkL us).length < 512 := by rw [stkL_len]; omega
            unfold encT at HA0 HPop
            dsimp only at HA0 HPop
            generalize bs (par (isSeq a) (tex a)) = tp at *
            generalize bs (tex a) = ta at *
            generalize a.kind = ka at *
            generalize stkL us = st at *
            clear hpost
            go_upto_region 11 with fail
            clear x0 x1 x2 x3 x4 hltS
            generalize (wr.alloc (.cells #[.int .i64 7, .int .u64 0, .int .u64 0, .int .u64 0, .int .u64 0] 64)) = w3 at *
            generalize wr.heap.size = qx at *

            have hps : 0 ≤ tp.size := Nat.zero_le _
            have hw2 : IntKind.i64.wrap 2 = 2 := by decide
            have hw3 : IntKind.i64.wrap 3 = 3 := by decide
            have hw4 : IntKind.i64.wrap (2 + 1) = 3 := by decide
            clear hbz hT HI HR
            have hgo := hgo
            have HA0d := hidden HA0.out.drew
            have hCd := HA0d.out.kind
            refine (wpIn_wide (n := 5)).1 ?_
            refine wpIn_region_take (fun w' => w'.cell? ⟨qx, 0, none⟩ = some (.int .i64 7)) 12 (by kernel_rfl) ?_
            refine take_read (i := 0) (v := ?_) (by kernel_rfl) (by rfl) rfl (by rfl) (by kernel_rfl) (by kernel_rfl) (fun _ _ _ h => h) hCd ⟨Or.inl ⟨by rfl, fun w9 hw => ?_⟩, fun _ => rfl⟩ ?_
            rotate_left
            · clear hw
              go_simp
              try rfl
            refine take_read (i := 4) (v := ?_) (by kernel_rfl) (by rfl) rfl (by rfl) (by kernel_rfl) (by kernel_rfl) (fun _ _ _ h => h) hCd ⟨Or.inl ⟨by rfl, fun w9 hw => ?_⟩, fun _ => rfl⟩ ?_
            rotate_left
            · clear hw
              go_simp
              try rfl
            refine take_read (i := 5) (v := ?_) (by kernel_rfl) (by rfl) rfl (by rfl) (by kernel_rfl) (by kernel_rfl) (fun _ _ _ h => h) hCd ⟨Or.inl ⟨by rfl, fun w9 hw => ?_⟩, fun _ => rfl⟩ ?_
            rotate_left
            · have r0 : w9.cell? ⟨qx, 0, none⟩ = some (.int .i64 7) := hw
              go_simp
              try rfl
            refine take_read (i := 6) (v := ?_) (by kernel_rfl) (by rfl) rfl (by rfl) (by kernel_rfl) (by kernel_rfl) (fun _ _ _ h => h) hCd ⟨Or.inl ⟨by rfl, fun w9 hw => ?_⟩, fun _ => rfl⟩ ?_
            rotate_left
            · clear hw
              go_simp
              try rfl
            refine take_read (i := 7) (v := ?_) (by kernel_rfl) (by rfl) rfl (by rfl) (by kernel_rfl) (by kernel_rfl) (fun _ _ _ h => h) hCd ⟨Or.inl ⟨by rfl, fun w9 hw => ?_⟩, fun _ => rfl⟩ ?_
            rotate_left
            · clear hw
              go_simp
              try rfl
            refine take_read (i := 8) (v := ?_) (by kernel_rfl) (by rfl) rfl (by rfl) (by kernel_rfl) (by kernel_rfl) (fun _ _ _ h => h) hCd ⟨Or.inl ⟨by rfl, fun w9 hw => ?_⟩, fun _ => rfl⟩ ?_
            rotate_left
            · have r0 : w9.cell? ⟨qx, 0, none⟩ = some (.int .i64 7) := hw
              go_simp
              try rfl
            refine take_read (i := 9) (v := ?_) (by kernel_rfl) (by rfl) rfl (by rfl) (by kernel_rfl) (by kernel_rfl) (fun _ _ _ h => h) hCd ⟨Or.inl ⟨by rfl, fun w9 hw => ?_⟩, fun _ => rfl⟩ ?_
            rotate_left
            · clear hw
              go_simp
              try rfl
            refine take_read (i := 10) (v := ?_) (by kernel_rfl) (by rfl) rfl (by rfl) (by kernel_rfl) (by kernel_rfl) (fun _ _ _ h => h) hCd ⟨Or.inl ⟨by rfl, fun w9 hw => ?_⟩, fun _ => rfl⟩ ?_
            rotate_left
            · clear hw
              go_simp
              try rfl
            refine take_read (i := 11) (v := ?_) (by kernel_rfl) (by rfl) rfl (by rfl) (by kernel_rfl) (by kernel_rfl) (fun _ _ _ h => h) hCd ⟨Or.inl ⟨by rfl, fun w9 hw => ?_⟩, fun _ => rfl⟩ ?_
            rotate_left
            · clear hw
              go_simp
              try rfl
            refine take_two (i := 1) (j := 2) (by kernel_rfl) rfl rfl rfl rfl (by rfl) (by rfl) (fun K hK => ?_) (fun K hK => ?_)
            · skip
              go_simp
              refine ⟨trivial, ?_⟩
              gi_at_call 31
              refine CallsIn.mono (F := Fence.wide) (callsIn_wide.2 (HPop.out _ HA0d.out.stk)) ?_
              rintro e w9 ⟨rfl, hs5, hk5, hb5⟩
              have HA5 := hidden (HA0d.out.pop hs5.out hk5.out hb5.out)
              refine hK _ _ HA5.out.kind ?_
              clear hK K
              refine take_only (i := 2) (by kernel_rfl) rfl rfl (by rfl) (fun K hK => ?_)
              go_simp
              refine hK _ _ (HA5.out.alloc _).kind ?_
              clear hK K
              refine take_only (i := 3) (by kernel_rfl) rfl rfl (by rfl) (fun K hK => ?_)
              go_simp
              refine ⟨trivial, ?_⟩
              gi_at_call 32
              refine CallsIn.mono (F := Fence.wide) (callsIn_wide.2 (HIn.out _ _ (rd_new2e rfl HA5.out.stk.ltS _ _ _))) ?_
              rintro e wc ⟨rfl, hb6⟩
              have HA6 := (HA5.out.alloc _).later hb6
              refine hK _ _ HA6.kind ?_
              clear hK K
              refine take_tail (by kernel_rfl) (by kernel_rfl) ?_
              simp only [List.drop_succ_cons, List.drop_zero]
              gi_wp2_with fail
              have HAf := hidden HA6
              clear hw2 hw3 hw4 HA5 hs5 hk5 hb5 hb6 HA6 HA0 HPop HIn HSh HW HA0d

              have HF : Hid (ShInv l (k + 1) (.rep .opt a :: us)) := hidden hgo.out

              have hb3 := HAf.out.below
              have hbz3 := hb3.size
              have HP := hidden (HAf.out.stk.alloc (.cells #[.string (tp ++ (⟨#[42, 43, 63]⟩ : ByteArray).extract 2 3), .int .i64 (7)] 66))
              have s0 : wc.cell? ⟨B + 1, 0, none⟩ = some (.slice (some ⟨B, 0, none⟩) st.length 512) := HAf.out.stk.cell.cell 0
              have k0 := HAf.out.kind
              have hne := HP.out.ne
              have HQ := hidden ((HP.out.cell.far (p := ⟨B, st.length * 2, none⟩) hne (.string (tp ++ (⟨#[42, 43, 63]⟩ : ByteArray).extract 2 3))).far (p := ⟨B, st.length * 2 + 1, none⟩) hne (.int .i64 (7)))
              have y0 := HQ.out.cell 0
              have y1 := HQ.out.frozen 0
              have hsl : (0 : Int) ≤ (st.length : Int) := by omega
              clear HAf hgo HQ
              go_wp2_with (at_builtin; refine wpList_append_sh rfl _ _ rfl (B + 1) B wc.heap.size st ((tp ++ (⟨#[42, 43, 63]⟩ : ByteArray).extract 2 3), 7) HP rfl rfl (by simp) (by simp) hnS ?_)
              go_roundw
              case rel => exact ⟨k + 1, _, by go_num, by omega, HF, hidden (by rw [hst.out]; exact StkAt.push HP.out ((tp ++ (⟨#[42, 43, 63]⟩ : ByteArray).extract 2 3), 7) hnS), (((hb3.alloc hbz3 _).setCell (p := ⟨B, st.length * 2, none⟩) hBo _).setCell (p := ⟨B, st.length * 2 + 1, none⟩) hBo _).setCell (p := ⟨B + 1, 0, none⟩) hSo _⟩
              case measure => simp [intOf] <;> omega
            · skip
              go_simp
              refine hK _ _ (HA0d.out.alloc _).kind ?_
              clear hK K
              refine take_only (i := 1) (by kernel_rfl) rfl rfl (by rfl) (fun K hK => ?_)
              go_simp
              refine ⟨trivial, ?_⟩
              gi_at_call 31
              refine CallsIn.mono (F := Fence.wide) (callsIn_wide.2 (HPop.out _ (HA0d.out.alloc _).stk)) ?_
              rintro e w9 ⟨rfl, hs5, hk5, hb5⟩
              have HA5 := hidden ((HA0d.out.alloc _).pop hs5.out hk5.out hb5.out)
              refine hK _ _ HA5.out.kind ?_
              clear hK K
              refine take_only (i := 3) (by kernel_rfl) rfl rfl (by rfl) (fun K hK => ?_)
              go_simp
              refine ⟨trivial, ?_⟩
              gi_at_call 32
              refine CallsIn.mono (F := Fence.wide) (callsIn_wide.2 (HIn.out _ _ (rd_kept (rd_new2e rfl HA0d.out.stk.ltS _ _ _) hk5.out))) ?_
              rintro e wc ⟨rfl, hb6⟩
              have HA6 := HA5.out.later hb6
              refine hK _ _ HA6.kind ?_
              clear hK K
              refine take_tail (by kernel_rfl) (by kernel_rfl) ?_
              simp only [List.drop_succ_cons, List.drop_zero]
              gi_wp2_with fail
              have HAf := hidden HA6
              clear hw2 hw3 hw4 HA5 hs5 hk5 hb5 hb6 HA6 HA0 HPop HIn HSh HW HA0d

              have HF : Hid (ShInv l (k + 1) (.rep .opt a :: us)) := hidden hgo.out

              have hb3 := HAf.out.below
              have hbz3 := hb3.size
              have HP := hidden (HAf.out.stk.alloc (.cells #[.string (tp ++ (⟨#[42, 43, 63]⟩ : ByteArray).extract 2 3), .int .i64 (7)] 66))
              have s0 : wc.cell? ⟨B + 1, 0, none⟩ = some (.slice (some ⟨B, 0, none⟩) st.length 512) := HAf.out.stk.cell.cell 0
              have k0 := HAf.out.kind
              have hne := HP.out.ne
              have HQ := hidden ((HP.out.cell.far (p := ⟨B, st.length * 2, none⟩) hne (.string (tp ++ (⟨#[42, 43, 63]⟩ : ByteArray).extract 2 3))).far (p := ⟨B, st.length * 2 + 1, none⟩) hne (.int .i64 (7)))
              have y0 := HQ.out.cell 0
              have y1 := HQ.out.frozen 0
              have hsl : (0 : Int) ≤ (st.length : Int) := by omega
              clear HAf hgo HQ
              go_wp2_with (at_builtin; refine wpList_append_sh rfl _ _ rfl (B + 1) B wc.heap.size st ((tp ++ (⟨#[42, 43, 63]⟩ : ByteArray).extract 2 3), 7) HP rfl rfl (by simp) (by simp) hnS ?_)
              go_roundw
              case rel => exact ⟨k + 1, _, by go_num, by omega, HF, hidden (by rw [hst.out]; exact StkAt.push HP.out ((tp ++ (⟨#[42, 43, 63]⟩ : ByteArray).extract 2 3), 7) hnS), (((hb3.alloc hbz3 _).setCell (p := ⟨B, st.length * 2, none⟩) hBo _).setCell (p := ⟨B, st.length * 2 + 1, none⟩) hBo _).setCell (p := ⟨B + 1, 0, none⟩) hSo _⟩
              case measure => simp [intOf] <;> omega
      · obtain rfl : k = l.length := by omega
        obtain ⟨t, rfl, hpt⟩ := HI.out.done
        have q1 : ¬ (l.length : Int) < (l.length : Int) := by omega
        have s0 : wr.cell? ⟨B + 1, 0, none⟩ = some (.slice (some ⟨B, 0, none⟩) 1 512) := HS.out.cell.cell 0
        have s1 : wr.cell? ⟨B, 0, none⟩ = some (.string (bs (tex t))) := HS.out.first
        have hfin : Hid (l = post t) := hidden hpt
        clear hpt
        go_wp2
        go_ret
        exact ⟨hb, .inr ⟨HE.out, t, hfin.out, rfl⟩⟩
end Go.Proofs.YtfmdmeokbbpmlaaDoor

namespace Go.Proofs.YtfmdmeokbbpmlaaDoor
open Go.RowKit Go.Shelf

set_option maxRecDepth 20000 in
set_option maxHeartbeats 4000000 in
theorem ref_Show08_bad (v : Value) (l : List Rx) (w : World) (h : Rd w (Old w) 5 v l.length (l.flatMap rxCells)) (he : rxErr l ≠ 0) :
    Calls Tryd.prog 11 #[v] w fun r w' => r = .returned (.string (bs [])) ∧ Below w.heap.size w w' := by
  have HC := hidden (ref07_check v l w h)
  have he2 : (rxErr l != 0) = true := by simpa using he
  clear he h
  go_enter Tryd.func11, Tryd.ntmps11
  go_wp2_with fail
  refine HC.out.mono ?_
  rintro r w1 ⟨rfl, rfl⟩
  go_wp2
  go_ret
  exact ⟨rfl, Below.refl _ _⟩
set_option maxRecDepth 20000 in
set_option maxHeartbeats 4000000 in
theorem ref_Show08 (v : Value) (t : RxT) (w : World) (h : Rd w (Old w) 5 v (post t).length ((post t).flatMap rxCells)) (he : rxErr (post t) = 0) (hl : (post t).length ≤ 512) :
    Calls Tryd.prog 11 #[v] w fun r w' => r = .returned (.string (bs (tex t))) ∧ Below w.heap.size w w' := by
  have HC := hidden (ref07_check v (post t) w h)
  have he2 : (rxErr (post t) != 0) = false := by simpa using he
  obtain ⟨b, off, c, rfl⟩ : ∃ b off c, v = .slice (some ⟨b, off, none⟩) (post t).length c := by
    obtain ⟨h1, A, c, hv, _, _, h3⟩ := h
    have hp := post_pos t
    obtain ⟨b, off, rfl, _⟩ := h3 (by rw [h1]; omega)
    exact ⟨b, off, c, hv⟩
  have hp := post_pos t
  have HS := hidden (ref_show08 _ _ _ (post t) w h hl t 0 ((post t).length - 1) w (Below.refl _ _) (SitsX.self _) (by omega))
  generalize hn : (post t).length = n at *
  clear hn h he
  obtain ⟨m, rfl⟩ : ∃ m, n = m + 1 := ⟨n - 1, by omega⟩
  rw [Nat.add_sub_cancel] at HS
  have q1 : IntKind.i64.wrap (((m + 1 : Nat) : Int) - 1) = (m : Int) := by rw [IntKind.wrap_i64]; omega
  go_enter Tryd.func11, Tryd.ntmps11
  go_wp2_with fail
  refine HC.out.mono ?_
  rintro r w1 ⟨rfl, rfl⟩
  go_wp2_with fail
  refine HS.out.mono ?_
  rintro r w2 ⟨rfl, hb2⟩
  go_wp2
  go_ret
  exact ⟨rfl, hb2⟩
end Go.Proofs.YtfmdmeokbbpmlaaDoor
