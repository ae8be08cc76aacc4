/-
  many.Union: two rising lists put together.
-/
import Derived.Test.YtmlggfapnkhcaaaAscU
import Derived.Test.YtmlggfapnkhcaaaHeadC
namespace Go.Proofs.Ytmlggfapnkhcaaa
open Go.RowKit Go.Shelf
attribute [local simp] wide_fn

/-- One number is put behind the call's own; where the row lies then. -/
theorem wpList_append_ia {w W0 : World} {ops : Array Oper} {rest : List Oper} {o : Oper} {a : Act} {Q : Exit → Act → World → Prop} (hgd : o.guard = none) (s x : Operand)
    (ho : o.op = .call { callee := .builtin .append, args := #[s, x], argTypes := #[34, 34] }) (base : Nat) (v : Value) (l : List Int) (HM : Hid (IntsM W0 base v l)) (u : Int) {e' : TypeId} (hw : w = W0.alloc (.cells #[.int .i64 u] e')) (hs : a.eval s = v) {g : Nat}
    (hx : a.eval x = .slice (some ⟨g, 0, none⟩) 1 1) (hg : g = W0.heap.size) (hn : l.length ≤ 1000000000000) (hb : base ≤ W0.heap.size)
    (h : ∀ v' w', Hid (IntsM w' base v' (l ++ [u])) → Below base W0 w' → Hid (Keeps (fun k => v.ownBlock ≠ some k) W0 w') → Hid (v'.ownBlock = v.ownBlock ∨ ∃ q, v'.ownBlock = some q ∧ W0.heap.size ≤ q ∧ q < w'.heap.size) → wpList Try.prog ops Q rest (a.put o.dst v') w') : wpList Try.prog ops Q (o :: rest) a w := by
  obtain ⟨i, hi, hz, hsz, hby⟩ := int_info.out
  subst hw hg
  refine wpList_append_rd hgd s x 34 ho base 3 i _ 1 8 (by kernel_rfl) hi hz hsz hby rfl (by decide) v l.length _ hs (HM.out.alloc _) (T := fun _ => True) _ 1 [intV u] hx ?_ ?_ (by omega) (by decide) (Nat.le_trans hb (by simp)) (fun v' w' hA => h v' w' ?_ (((Below.refl _ _).alloc hb _).trans hA.below) (hidden (((Keeps.refl _ _).alloc _).trans hA.keeps)) (hidden ?_))
  · exact Rd.fresh (cs := [intV u]) (n := 1) (size := 1) rfl (Nat.le_refl _) (by decide) trivial rfl
  · intro y hy; simp at hy; subst hy; rfl
  · have := hA.mine
    refine hidden ?_
    unfold IntsM RowM
    rw [List.length_append, List.flatMap_append]
    exact this
  · rcases hA.at_ with h | ⟨q, h1, h2, h3⟩
    · exact .inl h
    · exact .inr ⟨q, h1, by simp at h2; omega, h3⟩

/-- A box with the call's own numbers, and what has been put out. -/
theorem cell_onI {w w1 : World} {b o : Nat} {v : Value} (h : w.cell? ⟨b, o, none⟩ = some v) (h1 : Below w.heap.size w w1) : w1.cell? ⟨b, o, none⟩ = some v := Ext.cell h ⟨w1, h1⟩
structure OutI (W : World) (m : Nat) (vo : Value) (l : List Int) : Prop where
  ho : Holds W m 34 #[vo]
  mine : IntsM W (m + 1) vo l
  own : ∀ q, vo.ownBlock = some q → m + 1 ≤ q ∧ q < W.heap.size
/-- What a call that puts a number out leaves as it is. -/
def PutT (m : Nat) (vo : Value) (k : Nat) : Prop := k ≠ m ∧ vo.ownBlock ≠ some k
def PutTo (m : Nat) (vo : Value) (l : List Int) (W W' : World) : Prop := ∃ vo', OutI W' m vo' l ∧ Keeps (PutT m vo) W W' ∧ (vo'.ownBlock = vo.ownBlock ∨ ∃ q, vo'.ownBlock = some q ∧ W.heap.size ≤ q) ∧ Below m W W'
theorem OutI.later {W W' : World} {m : Nat} {vo : Value} {l : List Int} (h : OutI W m vo l) (hb : Below W.heap.size W W') : OutI W' m vo l := ⟨h.ho.below hb h.ho.lt, Mine.below h.mine hb, fun q hq => ⟨(h.own q hq).1, Nat.lt_of_lt_of_le (h.own q hq).2 hb.size⟩⟩
theorem PutTo.holds {m n : Nat} {vo : Value} {W W' : World} {t : TypeId} {cs : Array Value} (h1 : Keeps (PutT m vo) W W') (hn : n ≠ m) (ho : vo.ownBlock ≠ some n) (h : Holds W n t cs) : Holds W' n t cs := h1.holds ⟨hn, ho⟩ h

set_option maxRecDepth 20000 in
set_option maxHeartbeats 4000000 in
theorem put_int (W : World) (m : Nat) (vo : Value) (l : List Int) (n : Int) (H : OutI W m vo l) (hl : l.length ≤ 1000000000000) :
    Calls Try.prog 128 #[.int .i64 n, .pointer (some ⟨m, 0, none⟩)] W fun r W' => r = .returned (.tuple #[]) ∧ Hid (PutTo m vo (l ++ [n]) W W') := by
  have HM := hidden (fun o => Mine.alloc H.mine o)
  have hm := H.ho.lt
  have hb := (Below.refl W.heap.size W).alloc (Nat.le_refl _) (.cells #[.int .i64 n] 3)
  have HH := hidden H
  obtain ⟨A, c, rfl⟩ := H.mine.value
  have h1 : W.cell? ⟨m, 0, none⟩ = some (.slice A l.length c) := H.ho.cell 0
  have HGr := hidden (fun (w' : World) (hK : Keeps (fun j => (Value.slice A l.length c).ownBlock ≠ some j) W w') => hK.holds (fun e => by have := H.own _ e; omega) H.ho)
  have HM0 := hidden H.mine
  clear H
  go_enter Try.func128, Try.ntmps128
  go_wp2_with (at_builtin; refine wpList_append_ia rfl _ _ rfl (m + 1) _ l HM0 n rfl rfl rfl (by first | rfl | simp) hl (by omega) ?_; intro v' w' hM hb9 hK hO; obtain ⟨A9, c9, rfl⟩ := hM.out.value; have hB9 := HGr.out w' hK.out; have h1' : w'.cell? ⟨m, 0, none⟩ = some (.slice A l.length c) := hB9.cell 0; have h2' : w'.frozen? ⟨m, 0, none⟩ = false := hB9.frozen 0; have hB9' := hB9.lt; have HB9 := hidden hB9; clear hB9)
  have hz := hK.out.size
  have hown : ∀ q, (Value.slice A9 (l ++ [n]).length c9).ownBlock = some q → m + 1 ≤ q ∧ q < w'.heap.size := fun q hq => by
    rcases hO.out with e | ⟨z, e, h1, h2⟩
    · have := HH.out.own q (by rw [← e]; exact hq)
      omega
    · rw [e] at hq
      cases hq
      omega
  have hfin : PutTo m (.slice A l.length c) (l ++ [n]) W (w'.setCell ⟨m, 0, none⟩ (.slice A9 (l ++ [n]).length c9)) := by
    refine ⟨_, ⟨(HB9.out.set 0 _).of_eq rfl, Mine.set (p := ⟨m, 0, none⟩) hM.out (fun e => by have := (hown _ e).1; dsimp only at this; omega) _, fun q hq => by simp only [World.size_setCell]; exact hown q hq⟩, ⟨by simp only [World.size_setCell]; exact hz, fun k hk hl => ?_⟩, ?_⟩
    · rw [Below.heap_setCell _ _ _ _ (by dsimp only; exact hk.1), hK.out.block k hk.2 hl]
    · refine ⟨?_, (hb9.mono (by omega)).setCell (p := ⟨m, 0, none⟩) (by dsimp only; omega) _⟩
      rcases hO.out with e | ⟨z, e, h1, h2⟩
      · exact .inl e
      · exact .inr ⟨z, e, h1⟩
  simp only [List.length_append, List.length_cons, List.length_nil, Nat.zero_add] at hfin
  exact bodyPost_end (v := .tuple #[]) (by simp [results, Try.results128, go_sem]) rfl ⟨rfl, hidden hfin⟩

abbrev putF (m : Nat) : Value := .func (.func 128) #[] #[.pointer (some ⟨m, 0, none⟩)]
set_option maxRecDepth 20000 in
set_option maxHeartbeats 4000000 in
theorem to_int (W : World) (m : Nat) (vo : Value) (l : List Int) (n : Int) (H : OutI W m vo l) (hl : l.length ≤ 1000000000000) :
    Calls Try.prog 147 #[putF m, .int .i64 n] W fun r W' => r = .returned (.tuple #[]) ∧ Hid (PutTo m vo (l ++ [n]) W W') := by
  have HP := hidden (put_int W m vo l n H hl)
  have hq : ∀ w : World, (binOp BinOp.neq 151 (.func (.func 128) #[] #[.pointer (some ⟨m, 0, none⟩)]) .nilFunc).run Try.prog w = .ok (.bool true) w := fun _ => by kernel_rfl
  clear H hl
  unfold putF
  go_enter Try.func147, Try.ntmps147
  go_wp2_with fail
  refine HP.out.mono ?_
  rintro r w2 ⟨rfl, hp⟩
  go_wp2
  exact bodyPost_end (v := .tuple #[]) (by simp [results, Try.results147, go_sem]) rfl ⟨rfl, hp⟩

theorem rd_emptyI (w : World) (T : Nat → Prop) (size : Nat) (A : Option Addr) : Rd w T size (.slice A 0 0) 0 [] := ⟨by simp, A, 0, rfl, Nat.le_refl _, by simp [maxLen], fun h => by simp at h⟩
theorem ints_tail {w : World} {T : Nat → Prop} {b o n c : Nat} {x : Int} {l : List Int} (h : Ints w T (.slice (some ⟨b, o, none⟩) n c) (x :: l)) (hn : n = l.length + 1) :
    (c = 1 → Ints w T (.slice (some ⟨b, o, none⟩) (n - 1) 0) l) ∧ (c ≠ 1 → Ints w T (.slice (some ⟨b, o + 1, none⟩) (n - 1) (c - 1)) l) := by
  have h : Rd w T 1 (.slice (some ⟨b, o, none⟩) n c) n ((x :: l).flatMap (one1 intV)) := by
    unfold Ints Row at h
    rwa [show (x :: l).length = n by rw [List.length_cons]; omega] at h
  obtain ⟨A, c', hv, h1, h2⟩ := h.val
  simp only [Value.slice.injEq] at hv
  obtain ⟨rfl, _, rfl⟩ := hv
  constructor
  · intro hc
    have e0 : l = [] := List.eq_nil_of_length_eq_zero (by omega)
    subst e0
    rw [hn]
    exact rd_emptyI _ _ _ _
  · intro _
    have := rd_drop h (i := 1) (by omega)
    rw [Nat.mul_one] at this
    have e : n - 1 = l.length := by omega
    unfold Ints Row
    rw [e] at this ⊢
    exact this
theorem mergeU_cons (x y : Int) (a b : List Int) : mergeU (x :: a) (y :: b) = if x < y then x :: mergeU a (y :: b) else if y < x then y :: mergeU (x :: a) b else x :: mergeU a b := by rw [mergeU]

set_option maxRecDepth 20000 in
set_option maxHeartbeats 16000000 in
theorem merge_ints (w : World) (va vb : Value) (a b : List Int) (hA : Ints w (Old w) va a) (hB : Ints w (Old w) vb b) (hn : a.length + b.length ≤ 1000000) (W : World) (vo : Value) (hb : Below w.heap.size w W) (H : OutI W w.heap.size vo []) :
    Calls Try.prog 129 #[va, vb, .agg #[putF w.heap.size, putF w.heap.size, putF w.heap.size]] W fun r W' => r = .returned (.tuple #[]) ∧ ∃ vo', Hid (OutI W' w.heap.size vo' (mergeU a b)) ∧ Below w.heap.size w W' := by
  have HO0 := hidden (H.later ((Below.refl W.heap.size W).alloc (Nat.le_refl _) (.cells #[putF w.heap.size, putF w.heap.size, putF w.heap.size] 154)))
  have hbz := hb.size
  have hb0 := hb.alloc hbz (.cells #[putF w.heap.size, putF w.heap.size, putF w.heap.size] 154)
  have HK0 := hidden (Holds.new W 154 #[putF w.heap.size, putF w.heap.size, putF w.heap.size])
  have hml := H.ho.lt
  have hown0 : vo.ownBlock ≠ some W.heap.size := fun e => by have := (H.own _ e).2; omega
  have HTo := hidden (fun (W9 : World) vo l n h hl => to_int W9 w.heap.size vo l n h hl)
  have HA0 := hidden hA
  have HB0 := hidden hB
  obtain ⟨A1, c1, rfl, d1, d2⟩ := hA.val
  obtain ⟨A2, c2, rfl, d3, d4⟩ := hB.val
  unfold maxLen at d2 d4
  have HL0 : Hid (mergeU a b = [] ++ mergeU a b) := hidden rfl
  clear hA hB H
  unfold putF at *
  go_enter Try.func129, Try.ntmps129
  go_wp2
  go_loopg [0, 1] (a.length + b.length) (fun gh xa xb wr => ∃ (a' b' done : List Int) (vo' : Value), gh = a'.length + b'.length ∧ Hid (Ints w (Old w) xa a') ∧ Hid (Ints w (Old w) xb b') ∧ Hid (OutI wr w.heap.size vo' done) ∧ Hid (mergeU a b = done ++ mergeU a' b') ∧ Hid (Holds wr W.heap.size 154 #[(.func (.func 128) #[] #[.pointer (some ⟨w.heap.size, 0, none⟩)]), (.func (.func 128) #[] #[.pointer (some ⟨w.heap.size, 0, none⟩)]), (.func (.func 128) #[] #[.pointer (some ⟨w.heap.size, 0, none⟩)])]) ∧ Below w.heap.size w wr ∧ Hid (vo'.ownBlock ≠ some W.heap.size) ∧ done.length + a'.length + b'.length ≤ 1000000)
  case atStart => exact ⟨a, b, [], vo, rfl, HA0, HB0, HO0, HL0, HK0, hb0, hidden hown0, by simp; omega⟩
  case round =>
    clear HA0 HB0 HO0 HL0 HK0 hb0 hown0
    obtain ⟨a', b', done, vo', rfl, HA, HB, HO, HL, HK, hbr, HW, hdn⟩ := hrel
    have k0 : wr.cell? ⟨W.heap.size, 0, none⟩ = some (.func (.func 128) #[] #[.pointer (some ⟨w.heap.size, 0, none⟩)]) := HK.out.cell 0
    have k1 : wr.cell? ⟨W.heap.size, 1, none⟩ = some (.func (.func 128) #[] #[.pointer (some ⟨w.heap.size, 0, none⟩)]) := HK.out.cell 1
    have k2 : wr.cell? ⟨W.heap.size, 2, none⟩ = some (.func (.func 128) #[] #[.pointer (some ⟨w.heap.size, 0, none⟩)]) := HK.out.cell 2
    have hkl := HK.out.lt
    cases a' with
    | nil =>
      obtain ⟨A7, c7, hv7, e1, e2⟩ := HA.out.val
      rw [List.length_nil] at hv7 e1
      subst hv7
      cases b' with
      | nil =>
        obtain ⟨A8, c8, hv8, e3, e4⟩ := HB.out.val
        rw [List.length_nil] at hv8 e3
        subst hv8
        have HLe : Hid (mergeU a b = done) := hidden (by rw [HL.out, nil_mergeU, List.append_nil])
        clear k0 k1 k2 HL
        go_wp2
        exact bodyPost_end (v := .tuple #[]) (by simp [results, Try.results129, go_sem]) rfl ⟨rfl, vo', hidden (by rw [HLe.out]; exact HO.out), hbr⟩
      | cons y b' =>
        obtain ⟨A8, c8, rfl, e81, e82⟩ := HB.out.val
        unfold maxLen at e82
        obtain ⟨b8, o8, rfl, hT8, x8'⟩ := row_at HB.out (i := 0) (x := y) rfl
        rw [Nat.add_zero] at x8'
        have x8 := cell_onI x8' hbr
        have HLn8 : Hid ((y :: b').length = b'.length + 1) := hidden rfl
        have HTl8 := hidden (fun n hn h => ints_tail (n := n) (x := y) (l := b') (b := b8) (o := o8) (c := c8) (w := w) (T := Old w) h hn)
        have HR8 := HB
        generalize hn8 : (y :: b').length = n8 at *
        have hn8' : n8 = b'.length + 1 := by rw [← hn8]; rfl
        have hp8 : 0 < n8 := by omega
        have HN8 := hidden hn8'
        clear hn8 x8' hn8'
        have hm : mergeU [] (y :: b') = y :: mergeU [] b' := by rw [nil_mergeU, nil_mergeU]
        have q4 : decide ((0 : Int) < (n8 : Int)) = true := by simp; omega
        have q5 : decide (0 < n8) = true := by simp; omega
        have q1 : ((n8 : Int) == 0) = false := by simp; omega
        have HLz : Hid (mergeU a b = (done ++ [y]) ++ mergeU [] b') := hidden (by rw [HL.out, hm]; simp)
        go_wp2_with fail
        refine wp_region_ext (by kernel_rfl) (by kernel_rfl) ?_
        repeat (go_big_quiet_step (fail))
        refine wpQuiet_nil ?_
        intro wg1 hwg1
        go_wp2_with fail
        refine wp_region_ext (by kernel_rfl) (by kernel_rfl) ?_
        repeat (go_big_quiet_step (fail))
        refine wpQuiet_nil ?_
        intro wg hwg
        have hbg := hwg1.trans (hwg.mono hwg1.size)
        clear hwg1 hwg
        have HKg := hidden (HK.out.below hbg hkl)
        have HOg := HO.out.later hbg
        have hbw9 := hbr.trans (hbg.mono hbr.size)
        have xg := cell_onI x8 hbg
        have t0 := Ext.cell (show wg.cell? ⟨W.heap.size, 2, none⟩ = some (.func (.func 128) #[] #[.pointer (some ⟨w.heap.size, 0, none⟩)]) from HKg.out.cell 2)
        have t1 := Ext.cell xg
        have HTq := hidden (fun (W9 : World) (h9 : Below wg.heap.size wg W9) => HTo.out W9 vo' done y (HOg.later h9) (by omega))
        clear HO HK HOg k0 k1 k2 xg x8
        go_wp2_with fail
        refine (wpIn_wide (n := 5)).1 ?_
        refine wpIn_region_ext_tail 6 (by kernel_rfl) (by kernel_rfl) rfl ?_
        simp only [List.take_succ_cons, List.take_zero, List.drop_succ_cons, List.drop_zero]
        repeat (gi_big_quiet_step (fail))
        refine wpQuietIn_nil ?_
        intro wh hbh
        have HC9 := hidden (HTq.out wh hbh)
        have HKh := hidden (HKg.out.below hbh HKg.out.lt)
        have hbwh := hbw9.trans (hbh.mono hbw9.size)
        have hkh := HKh.out.lt
        clear t0 t1 HTq HKg hbh hbw9
        gi_wp2_with fail
        refine CallsIn.mono (F := Fence.wide) (callsIn_wide.2 HC9.out) ?_
        rintro r wz ⟨rfl, hp⟩
        obtain ⟨v2, p1, p2, p3, p4⟩ := hp.out
        have HOz := hidden p1
        have HKz := hidden (PutTo.holds p2 (by omega) HW.out HKh.out)
        have HWz : Hid (v2.ownBlock ≠ some W.heap.size) := hidden (by
          rcases p3 with e | ⟨q, e, h⟩
          · rw [e]; exact HW.out
          · rw [e]; intro e9; cases e9; omega)
        have hbz9 := hbwh.trans (p4.mono (Nat.le_refl _))
        have hdl : (done ++ [y]).length = done.length + 1 := by simp
        clear hp p1 p2 p3 p4 HC9 HKh
        go_wp2_with fail
        refine wpListIn_nil ?_
        by_cases hc8 : c8 = 1
        · have HT8 := hidden ((HTl8.out n8 HN8.out HR8.out).1 hc8)
          go_wp2
          go_roundg (([] : List Int).length + b'.length)
          case measure => have h8 := HN8.out; (try simp only [List.length_nil]); omega
          case rel => exact ⟨([] : List Int), b', done ++ [y], v2, rfl, HA, HT8, HOz, HLz, HKz, hbz9, HWz, by have h8 := HN8.out; (try simp only [List.length_nil] at *); omega⟩
        · have HT8 := hidden ((HTl8.out n8 HN8.out HR8.out).2 hc8)
          go_wp2
          go_roundg (([] : List Int).length + b'.length)
          case measure => have h8 := HN8.out; (try simp only [List.length_nil]); omega
          case rel => exact ⟨([] : List Int), b', done ++ [y], v2, rfl, HA, HT8, HOz, HLz, HKz, hbz9, HWz, by have h8 := HN8.out; (try simp only [List.length_nil] at *); omega⟩
    | cons x a' =>
      obtain ⟨A7, c7, rfl, e71, e72⟩ := HA.out.val
      unfold maxLen at e72
      obtain ⟨b7, o7, rfl, hT7, x7'⟩ := row_at HA.out (i := 0) (x := x) rfl
      rw [Nat.add_zero] at x7'
      have x7 := cell_onI x7' hbr
      have HLn7 : Hid ((x :: a').length = a'.length + 1) := hidden rfl
      have HTl7 := hidden (fun n hn h => ints_tail (n := n) (x := x) (l := a') (b := b7) (o := o7) (c := c7) (w := w) (T := Old w) h hn)
      have HR7 := HA
      generalize hn7 : (x :: a').length = n7 at *
      have hn7' : n7 = a'.length + 1 := by rw [← hn7]; rfl
      have hp7 : 0 < n7 := by omega
      have HN7 := hidden hn7'
      clear hn7 x7' hn7'
      cases b' with
      | nil =>
        obtain ⟨A8, c8, hv8, e3, e4⟩ := HB.out.val
        rw [List.length_nil] at hv8 e3
        subst hv8
        have hm : mergeU (x :: a') [] = x :: mergeU a' [] := by rw [mergeU_nil, mergeU_nil]
        have HLz : Hid (mergeU a b = (done ++ [x]) ++ mergeU a' []) := hidden (by rw [HL.out, hm]; simp)
        have q4 : decide ((0 : Int) < (n7 : Int)) = true := by simp; omega
        have q5 : decide (0 < n7) = true := by simp; omega
        have q6 : ((n7 : Int) == 0) = false := by simp; omega
        go_wp2_with fail
        refine wp_region_ext (by kernel_rfl) (by kernel_rfl) ?_
        repeat (go_big_quiet_step (fail))
        refine wpQuiet_nil ?_
        intro wg hwg
        have hbg := hwg
        clear hwg
        have HKg := hidden (HK.out.below hbg hkl)
        have HOg := HO.out.later hbg
        have hbw9 := hbr.trans (hbg.mono hbr.size)
        have xg := cell_onI x7 hbg
        have t0 := Ext.cell (show wg.cell? ⟨W.heap.size, 0, none⟩ = some (.func (.func 128) #[] #[.pointer (some ⟨w.heap.size, 0, none⟩)]) from HKg.out.cell 0)
        have t1 := Ext.cell xg
        have HTq := hidden (fun (W9 : World) (h9 : Below wg.heap.size wg W9) => HTo.out W9 vo' done x (HOg.later h9) (by omega))
        clear HO HK HOg k0 k1 k2 xg x7
        go_wp2_with fail
        refine (wpIn_wide (n := 5)).1 ?_
        refine wpIn_region_ext_tail 6 (by kernel_rfl) (by kernel_rfl) rfl ?_
        simp only [List.take_succ_cons, List.take_zero, List.drop_succ_cons, List.drop_zero]
        repeat (gi_big_quiet_step (fail))
        refine wpQuietIn_nil ?_
        intro wh hbh
        have HC9 := hidden (HTq.out wh hbh)
        have HKh := hidden (HKg.out.below hbh HKg.out.lt)
        have hbwh := hbw9.trans (hbh.mono hbw9.size)
        have hkh := HKh.out.lt
        clear t0 t1 HTq HKg hbh hbw9
        gi_wp2_with fail
        refine CallsIn.mono (F := Fence.wide) (callsIn_wide.2 HC9.out) ?_
        rintro r wz ⟨rfl, hp⟩
        obtain ⟨v2, p1, p2, p3, p4⟩ := hp.out
        have HOz := hidden p1
        have HKz := hidden (PutTo.holds p2 (by omega) HW.out HKh.out)
        have HWz : Hid (v2.ownBlock ≠ some W.heap.size) := hidden (by
          rcases p3 with e | ⟨q, e, h⟩
          · rw [e]; exact HW.out
          · rw [e]; intro e9; cases e9; omega)
        have hbz9 := hbwh.trans (p4.mono (Nat.le_refl _))
        have hdl : (done ++ [x]).length = done.length + 1 := by simp
        clear hp p1 p2 p3 p4 HC9 HKh
        go_wp2_with fail
        refine wpListIn_nil ?_
        by_cases hc7 : c7 = 1
        · have HT7 := hidden ((HTl7.out n7 HN7.out HR7.out).1 hc7)
          go_wp2
          go_roundg (a'.length + ([] : List Int).length)
          case measure => have h7 := HN7.out; (try simp only [List.length_nil]); (try simp only [List.length_cons]); omega
          case rel => exact ⟨a', ([] : List Int), done ++ [x], v2, rfl, HT7, HB, HOz, HLz, HKz, hbz9, HWz, by have h7 := HN7.out; (try simp only [List.length_nil] at *); (try simp only [List.length_cons] at *); omega⟩
        · have HT7 := hidden ((HTl7.out n7 HN7.out HR7.out).2 hc7)
          go_wp2
          go_roundg (a'.length + ([] : List Int).length)
          case measure => have h7 := HN7.out; (try simp only [List.length_nil]); (try simp only [List.length_cons]); omega
          case rel => exact ⟨a', ([] : List Int), done ++ [x], v2, rfl, HT7, HB, HOz, HLz, HKz, hbz9, HWz, by have h7 := HN7.out; (try simp only [List.length_nil] at *); (try simp only [List.length_cons] at *); omega⟩
      | cons y b' =>
        obtain ⟨A8, c8, rfl, e81, e82⟩ := HB.out.val
        unfold maxLen at e82
        obtain ⟨b8, o8, rfl, hT8, x8'⟩ := row_at HB.out (i := 0) (x := y) rfl
        rw [Nat.add_zero] at x8'
        have x8 := cell_onI x8' hbr
        have HTl8 := hidden (fun n hn h => ints_tail (n := n) (x := y) (l := b') (b := b8) (o := o8) (c := c8) (w := w) (T := Old w) h hn)
        have HR8 := HB
        generalize hn8 : (y :: b').length = n8 at *
        have hn8' : n8 = b'.length + 1 := by rw [← hn8]; rfl
        have hp8 : 0 < n8 := by omega
        have HN8 := hidden hn8'
        clear hn8 x8' hn8'
        have q4 : decide ((0 : Int) < (n7 : Int)) = true := by simp; omega
        have q5 : decide (0 < n7) = true := by simp; omega
        have q6 : ((n7 : Int) == 0) = false := by simp; omega
        have r4 : decide ((0 : Int) < (n8 : Int)) = true := by simp; omega
        have r5 : decide (0 < n8) = true := by simp; omega
        have r6 : ((n8 : Int) == 0) = false := by simp; omega
        have xe7 := Ext.cell x7; have xe8 := Ext.cell x8
        by_cases hxy : x < y
        · have hm : mergeU (x :: a') (y :: b') = x :: mergeU a' (y :: b') := by rw [mergeU_cons, if_pos hxy]
          have HLz : Hid (mergeU a b = (done ++ [x]) ++ mergeU a' (y :: b')) := hidden (by rw [HL.out, hm]; simp)
          have q3 : decide (x < y) = true := by simp [hxy]
          go_wp2_with fail
          refine wp_region_ext (by kernel_rfl) (by kernel_rfl) ?_
          repeat (go_big_quiet_step (fail))
          refine wpQuiet_nil ?_
          intro wg hwg
          have hbg := hwg
          clear hwg xe7 xe8 q3 hxy x8
          have HKg := hidden (HK.out.below hbg hkl)
          have HOg := HO.out.later hbg
          have hbw9 := hbr.trans (hbg.mono hbr.size)
          have xg := cell_onI x7 hbg
          have t0 := Ext.cell (show wg.cell? ⟨W.heap.size, 0, none⟩ = some (.func (.func 128) #[] #[.pointer (some ⟨w.heap.size, 0, none⟩)]) from HKg.out.cell 0)
          have t1 := Ext.cell xg
          have HTq := hidden (fun (W9 : World) (h9 : Below wg.heap.size wg W9) => HTo.out W9 vo' done x (HOg.later h9) (by omega))
          clear HO HK HOg k0 k1 k2 xg x7
          go_wp2_with fail
          refine (wpIn_wide (n := 5)).1 ?_
          refine wpIn_region_ext_tail 6 (by kernel_rfl) (by kernel_rfl) rfl ?_
          simp only [List.take_succ_cons, List.take_zero, List.drop_succ_cons, List.drop_zero]
          repeat (gi_big_quiet_step (fail))
          refine wpQuietIn_nil ?_
          intro wh hbh
          have HC9 := hidden (HTq.out wh hbh)
          have HKh := hidden (HKg.out.below hbh HKg.out.lt)
          have hbwh := hbw9.trans (hbh.mono hbw9.size)
          have hkh := HKh.out.lt
          clear t0 t1 HTq HKg hbh hbw9
          gi_wp2_with fail
          refine CallsIn.mono (F := Fence.wide) (callsIn_wide.2 HC9.out) ?_
          rintro r wz ⟨rfl, hp⟩
          obtain ⟨v2, p1, p2, p3, p4⟩ := hp.out
          have HOz := hidden p1
          have HKz := hidden (PutTo.holds p2 (by omega) HW.out HKh.out)
          have HWz : Hid (v2.ownBlock ≠ some W.heap.size) := hidden (by
            rcases p3 with e | ⟨q, e, h⟩
            · rw [e]; exact HW.out
            · rw [e]; intro e9; cases e9; omega)
          have hbz9 := hbwh.trans (p4.mono (Nat.le_refl _))
          have hdl : (done ++ [x]).length = done.length + 1 := by simp
          clear hp p1 p2 p3 p4 HC9 HKh
          go_wp2_with fail
          refine wpListIn_nil ?_
          by_cases hc7 : c7 = 1
          · have HT7 := hidden ((HTl7.out n7 HN7.out HR7.out).1 hc7)
            go_wp2
            go_roundg (a'.length + (y :: b').length)
            case measure => have h7 := HN7.out; have h8 := HN8.out; (try simp only [List.length_nil]); (try simp only [List.length_cons]); omega
            case rel => exact ⟨a', (y :: b'), done ++ [x], v2, rfl, HT7, HR8, HOz, HLz, HKz, hbz9, HWz, by have h7 := HN7.out; have h8 := HN8.out; (try simp only [List.length_nil] at *); (try simp only [List.length_cons] at *); omega⟩
          · have HT7 := hidden ((HTl7.out n7 HN7.out HR7.out).2 hc7)
            go_wp2
            go_roundg (a'.length + (y :: b').length)
            case measure => have h7 := HN7.out; have h8 := HN8.out; (try simp only [List.length_nil]); (try simp only [List.length_cons]); omega
            case rel => exact ⟨a', (y :: b'), done ++ [x], v2, rfl, HT7, HR8, HOz, HLz, HKz, hbz9, HWz, by have h7 := HN7.out; have h8 := HN8.out; (try simp only [List.length_nil] at *); (try simp only [List.length_cons] at *); omega⟩
        · have q3 : decide (x < y) = false := by simp; omega
          by_cases hyx : y < x
          · have hm : mergeU (x :: a') (y :: b') = y :: mergeU (x :: a') b' := by rw [mergeU_cons, if_neg hxy, if_pos hyx]
            have HLz : Hid (mergeU a b = (done ++ [y]) ++ mergeU (x :: a') b') := hidden (by rw [HL.out, hm]; simp)
            have q9 : decide (y < x) = true := by simp [hyx]
            go_wp2_with fail
            refine wp_region_ext (by kernel_rfl) (by kernel_rfl) ?_
            repeat (go_big_quiet_step (fail))
            refine wpQuiet_nil ?_
            intro wg1 hwg1
            have ze7 := Ext.cell (cell_onI x7 hwg1); have ze8 := Ext.cell (cell_onI x8 hwg1)
            clear xe7 xe8
            go_wp2_with fail
            refine wp_region_ext (by kernel_rfl) (by kernel_rfl) ?_
            repeat (go_big_quiet_step (fail))
            refine wpQuiet_nil ?_
            intro wg hwg
            have hbg := hwg1.trans (hwg.mono hwg1.size)
            clear hwg hwg1 ze7 ze8 q3 q9 hxy hyx x7
            have HKg := hidden (HK.out.below hbg hkl)
            have HOg := HO.out.later hbg
            have hbw9 := hbr.trans (hbg.mono hbr.size)
            have xg := cell_onI x8 hbg
            have t0 := Ext.cell (show wg.cell? ⟨W.heap.size, 2, none⟩ = some (.func (.func 128) #[] #[.pointer (some ⟨w.heap.size, 0, none⟩)]) from HKg.out.cell 2)
            have t1 := Ext.cell xg
            have HTq := hidden (fun (W9 : World) (h9 : Below wg.heap.size wg W9) => HTo.out W9 vo' done y (HOg.later h9) (by omega))
            clear HO HK HOg k0 k1 k2 xg x8
            go_wp2_with fail
            refine (wpIn_wide (n := 5)).1 ?_
            refine wpIn_region_ext_tail 6 (by kernel_rfl) (by kernel_rfl) rfl ?_
            simp only [List.take_succ_cons, List.take_zero, List.drop_succ_cons, List.drop_zero]
            repeat (gi_big_quiet_step (fail))
            refine wpQuietIn_nil ?_
            intro wh hbh
            have HC9 := hidden (HTq.out wh hbh)
            have HKh := hidden (HKg.out.below hbh HKg.out.lt)
            have hbwh := hbw9.trans (hbh.mono hbw9.size)
            have hkh := HKh.out.lt
            clear t0 t1 HTq HKg hbh hbw9
            gi_wp2_with fail
            refine CallsIn.mono (F := Fence.wide) (callsIn_wide.2 HC9.out) ?_
            rintro r wz ⟨rfl, hp⟩
            obtain ⟨v2, p1, p2, p3, p4⟩ := hp.out
            have HOz := hidden p1
            have HKz := hidden (PutTo.holds p2 (by omega) HW.out HKh.out)
            have HWz : Hid (v2.ownBlock ≠ some W.heap.size) := hidden (by
              rcases p3 with e | ⟨q, e, h⟩
              · rw [e]; exact HW.out
              · rw [e]; intro e9; cases e9; omega)
            have hbz9 := hbwh.trans (p4.mono (Nat.le_refl _))
            have hdl : (done ++ [y]).length = done.length + 1 := by simp
            clear hp p1 p2 p3 p4 HC9 HKh
            go_wp2_with fail
            refine wpListIn_nil ?_
            by_cases hc8 : c8 = 1
            · have HT8 := hidden ((HTl8.out n8 HN8.out HR8.out).1 hc8)
              go_wp2
              go_roundg ((x :: a').length + b'.length)
              case measure => have h7 := HN7.out; have h8 := HN8.out; (try simp only [List.length_nil]); (try simp only [List.length_cons]); omega
              case rel => exact ⟨(x :: a'), b', done ++ [y], v2, rfl, HR7, HT8, HOz, HLz, HKz, hbz9, HWz, by have h7 := HN7.out; have h8 := HN8.out; (try simp only [List.length_nil] at *); (try simp only [List.length_cons] at *); omega⟩
            · have HT8 := hidden ((HTl8.out n8 HN8.out HR8.out).2 hc8)
              go_wp2
              go_roundg ((x :: a').length + b'.length)
              case measure => have h7 := HN7.out; have h8 := HN8.out; (try simp only [List.length_nil]); (try simp only [List.length_cons]); omega
              case rel => exact ⟨(x :: a'), b', done ++ [y], v2, rfl, HR7, HT8, HOz, HLz, HKz, hbz9, HWz, by have h7 := HN7.out; have h8 := HN8.out; (try simp only [List.length_nil] at *); (try simp only [List.length_cons] at *); omega⟩
          · have q9 : decide (y < x) = false := by simp; omega
            have hm : mergeU (x :: a') (y :: b') = x :: mergeU a' b' := by rw [mergeU_cons, if_neg hxy, if_neg hyx]
            have HLz : Hid (mergeU a b = (done ++ [x]) ++ mergeU a' b') := hidden (by rw [HL.out, hm]; simp)
            go_wp2_with fail
            refine wp_region_ext (by kernel_rfl) (by kernel_rfl) ?_
            repeat (go_big_quiet_step (fail))
            refine wpQuiet_nil ?_
            intro wg1 hwg1
            have ze7 := Ext.cell (cell_onI x7 hwg1); have ze8 := Ext.cell (cell_onI x8 hwg1)
            clear xe7 xe8
            go_wp2_with fail
            refine wp_region_ext (by kernel_rfl) (by kernel_rfl) ?_
            repeat (go_big_quiet_step (fail))
            refine wpQuiet_nil ?_
            intro wg hwg
            have hbg := hwg1.trans (hwg.mono hwg1.size)
            clear hwg hwg1 ze7 ze8 q3 q9 hxy hyx x8
            have HKg := hidden (HK.out.below hbg hkl)
            have HOg := HO.out.later hbg
            have hbw9 := hbr.trans (hbg.mono hbr.size)
            have xg := cell_onI x7 hbg
            have t0 := Ext.cell (show wg.cell? ⟨W.heap.size, 1, none⟩ = some (.func (.func 128) #[] #[.pointer (some ⟨w.heap.size, 0, none⟩)]) from HKg.out.cell 1)
            have t1 := Ext.cell xg
            have HTq := hidden (fun (W9 : World) (h9 : Below wg.heap.size wg W9) => HTo.out W9 vo' done x (HOg.later h9) (by omega))
            clear HO HK HOg k0 k1 k2 xg x7
            go_wp2_with fail
            refine (wpIn_wide (n := 5)).1 ?_
            refine wpIn_region_ext_tail 6 (by kernel_rfl) (by kernel_rfl) rfl ?_
            simp only [List.take_succ_cons, List.take_zero, List.drop_succ_cons, List.drop_zero]
            repeat (gi_big_quiet_step (fail))
            refine wpQuietIn_nil ?_
            intro wh hbh
            have HC9 := hidden (HTq.out wh hbh)
            have HKh := hidden (HKg.out.below hbh HKg.out.lt)
            have hbwh := hbw9.trans (hbh.mono hbw9.size)
            have hkh := HKh.out.lt
            clear t0 t1 HTq HKg hbh hbw9
            gi_wp2_with fail
            refine CallsIn.mono (F := Fence.wide) (callsIn_wide.2 HC9.out) ?_
            rintro r wz ⟨rfl, hp⟩
            obtain ⟨v2, p1, p2, p3, p4⟩ := hp.out
            have HOz := hidden p1
            have HKz := hidden (PutTo.holds p2 (by omega) HW.out HKh.out)
            have HWz : Hid (v2.ownBlock ≠ some W.heap.size) := hidden (by
              rcases p3 with e | ⟨q, e, h⟩
              · rw [e]; exact HW.out
              · rw [e]; intro e9; cases e9; omega)
            have hbz9 := hbwh.trans (p4.mono (Nat.le_refl _))
            have hdl : (done ++ [x]).length = done.length + 1 := by simp
            clear hp p1 p2 p3 p4 HC9 HKh
            go_wp2_with fail
            refine wpListIn_nil ?_
            by_cases hc7 : c7 = 1
            · have HT7 := hidden ((HTl7.out n7 HN7.out HR7.out).1 hc7)
              by_cases hc8 : c8 = 1
              · have HT8 := hidden ((HTl8.out n8 HN8.out HR8.out).1 hc8)
                go_wp2_with fail
                refine wp_region_ext (by kernel_rfl) (by kernel_rfl) ?_
                repeat (go_big_quiet_step (fail))
                refine wpQuiet_nil ?_
                intro wk hwk
                have hbzk := hbz9.trans (hwk.mono hbz9.size)
                replace HOz := hidden (HOz.out.later hwk)
                replace HKz := hidden (HKz.out.below hwk HKz.out.lt)
                clear hwk hbz9
                have hbz9 := hbzk
                go_wp2
                go_roundg (a'.length + b'.length)
                case measure => have h7 := HN7.out; have h8 := HN8.out; (try simp only [List.length_nil]); (try simp only [List.length_cons]); omega
                case rel => exact ⟨a', b', done ++ [x], v2, rfl, HT7, HT8, HOz, HLz, HKz, hbz9, HWz, by have h7 := HN7.out; have h8 := HN8.out; (try simp only [List.length_nil] at *); (try simp only [List.length_cons] at *); omega⟩
              · have HT8 := hidden ((HTl8.out n8 HN8.out HR8.out).2 hc8)
                go_wp2_with fail
                refine wp_region_ext (by kernel_rfl) (by kernel_rfl) ?_
                repeat (go_big_quiet_step (fail))
                refine wpQuiet_nil ?_
                intro wk hwk
                have hbzk := hbz9.trans (hwk.mono hbz9.size)
                replace HOz := hidden (HOz.out.later hwk)
                replace HKz := hidden (HKz.out.below hwk HKz.out.lt)
                clear hwk hbz9
                have hbz9 := hbzk
                go_wp2
                go_roundg (a'.length + b'.length)
                case measure => have h7 := HN7.out; have h8 := HN8.out; (try simp only [List.length_nil]); (try simp only [List.length_cons]); omega
                case rel => exact ⟨a', b', done ++ [x], v2, rfl, HT7, HT8, HOz, HLz, HKz, hbz9, HWz, by have h7 := HN7.out; have h8 := HN8.out; (try simp only [List.length_nil] at *); (try simp only [List.length_cons] at *); omega⟩
            · have HT7 := hidden ((HTl7.out n7 HN7.out HR7.out).2 hc7)
              by_cases hc8 : c8 = 1
              · have HT8 := hidden ((HTl8.out n8 HN8.out HR8.out).1 hc8)
                go_wp2_with fail
                refine wp_region_ext (by kernel_rfl) (by kernel_rfl) ?_
                repeat (go_big_quiet_step (fail))
                refine wpQuiet_nil ?_
                intro wk hwk
                have hbzk := hbz9.trans (hwk.mono hbz9.size)
                replace HOz := hidden (HOz.out.later hwk)
                replace HKz := hidden (HKz.out.below hwk HKz.out.lt)
                clear hwk hbz9
                have hbz9 := hbzk
                go_wp2
                go_roundg (a'.length + b'.length)
                case measure => have h7 := HN7.out; have h8 := HN8.out; (try simp only [List.length_nil]); (try simp only [List.length_cons]); omega
                case rel => exact ⟨a', b', done ++ [x], v2, rfl, HT7, HT8, HOz, HLz, HKz, hbz9, HWz, by have h7 := HN7.out; have h8 := HN8.out; (try simp only [List.length_nil] at *); (try simp only [List.length_cons] at *); omega⟩
              · have HT8 := hidden ((HTl8.out n8 HN8.out HR8.out).2 hc8)
                go_wp2_with fail
                refine wp_region_ext (by kernel_rfl) (by kernel_rfl) ?_
                repeat (go_big_quiet_step (fail))
                refine wpQuiet_nil ?_
                intro wk hwk
                have hbzk := hbz9.trans (hwk.mono hbz9.size)
                replace HOz := hidden (HOz.out.later hwk)
                replace HKz := hidden (HKz.out.below hwk HKz.out.lt)
                clear hwk hbz9
                have hbz9 := hbzk
                go_wp2
                go_roundg (a'.length + b'.length)
                case measure => have h7 := HN7.out; have h8 := HN8.out; (try simp only [List.length_nil]); (try simp only [List.length_cons]); omega
                case rel => exact ⟨a', b', done ++ [x], v2, rfl, HT7, HT8, HOz, HLz, HKz, hbz9, HWz, by have h7 := HN7.out; have h8 := HN8.out; (try simp only [List.length_nil] at *); (try simp only [List.length_cons] at *); omega⟩

set_option maxRecDepth 20000 in
set_option maxHeartbeats 4000000 in
theorem many_Union (w : World) (va vb : Value) (a b : List Int) (hA : Ints w (Old w) va a) (hB : Ints w (Old w) vb b) (hn : a.length + b.length ≤ 1000000) :
    Calls Try.prog 102 #[va, vb] w fun r w' => (∃ u, r = .returned u ∧ Hid (IntsM w' w.heap.size u (mergeU a b))) ∧ Below w.heap.size w w' := by
  have hb := (Below.refl w.heap.size w).alloc (Nat.le_refl _) (.cells #[.slice none 0 0] 34)
  have H : OutI (w.alloc (.cells #[.slice none 0 0] 34)) w.heap.size (.slice none 0 0) [] := ⟨Holds.new _ _ _, Mine.nil _ _ _ _, fun q hq => by cases hq⟩
  have HM := hidden (merge_ints w va vb a b hA hB hn _ _ hb H)
  obtain ⟨A1, c1, rfl, d1, d2⟩ := hA.val
  obtain ⟨A2, c2, rfl, d3, d4⟩ := hB.val
  clear hA hB H
  unfold putF at HM
  go_enter Try.func102, Try.ntmps102
  go_wp2_with fail
  refine HM.out.mono ?_
  rintro r w2 ⟨rfl, vo, HO, hb2⟩
  have y0 : w2.cell? ⟨w.heap.size, 0, none⟩ = some vo := HO.out.ho.cell 0
  obtain ⟨A9, c9, rfl⟩ := HO.out.mine.value
  go_wp2
  go_ret
  exact ⟨⟨_, rfl, hidden (Mine.base HO.out.mine (by omega))⟩, hb2⟩
end Go.Proofs.Ytmlggfapnkhcaaa
