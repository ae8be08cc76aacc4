/-
  The iterator over the words of a tree (yield.words): what it hands to yield.
-/
import Derived.Test.YtihblifkbljgaaaYieldPlain
import Derived.Test.YtihblifkbljgaaaRangeK
import Derived.Test.YtihblifkbljgaaaTreeLeaves2
import Derived.Sort.BigQuietIn
namespace Go.Proofs.Ytihblifkbljgaaa
open Go.RowKit Go.Shelf
attribute [local go_sem] Oper.semAt_some

/-- A word: the number of its leaf among the leaves, and where its lead lies. -/
abbrev Wd (w : World) (T : Nat → Prop) (t : List Node) := { x : Nat × Option Addr × Nat // ∃ i, (leavesOf t)[x.1]? = some i ∧ i < t.length ∧ Pcs w T (.slice x.2.1 (leafAt t i).lead.length x.2.2) (leafAt t i).lead }
noncomputable def nodeY (t : List Node) (k : Nat) : Nat := ((leavesOf t)[k]?).getD 0
noncomputable def ownY (t : List Node) (k : Nat) : Nat := fromY t (leavesOf t) k + leadSum (leafAt t (nodeY t k)).lead
noncomputable abbrev valY {w : World} {T : Nat → Prop} {t : List Node} (x : Wd w T t) : Value := .agg #[.int .i64 (nodeY t x.1.1 : Int), .int .i64 (fromY t (leavesOf t) x.1.1 : Int), .int .i64 (ownY t x.1.1 : Int), .slice x.1.2.1 (leafAt t (nodeY t x.1.1)).lead.length x.1.2.2, .int .i64 (leafAt t (nodeY t x.1.1)).n, .string (leafAt t (nodeY t x.1.1)).text]
noncomputable abbrev encY {w : World} {T : Nat → Prop} {t : List Node} (x : Wd w T t) : Array Value := #[valY x]

theorem word_end (a b c : Int) (A : Option Addr) (m cp : Nat) (tok : Int) (x : ByteArray) (w : World) (h : 0 ≤ c ∧ c ≤ 1000000000000) (hx : x.size ≤ 1000000000000) :
    Calls Try.prog 63 #[.agg #[.int .i64 a, .int .i64 b, .int .i64 c, .slice A m cp, .int .i64 tok, .string x]] w fun r w' => r = .returned (.int .i64 (c + x.size)) ∧ Below w.heap.size w w' := by
  go_enter Try.func63, Try.ntmps63
  go_wp2
  go_ret
  exact ⟨rfl, (by repeat (first | (with_reducible exact Below.refl _ _) | (with_reducible assumption) | (with_reducible refine Below.drew ?_) | ((with_reducible refine below_alloc ?_ ?_); (focus (first | omega | (simp; done) | (simp; omega)))) | ((with_reducible refine below_set ?_ ?_); (focus (first | omega | (simp; done) | (simp; omega))))))⟩

theorem Mine.typed {w w' : World} {base : Nat} {e : TypeId} {size n : Nat} {v : Value} {xs : List Value} {T : Nat → Prop} (h : Mine w base e size v n xs) (hk : KeepsT T e w w') : Mine w' base e size v n xs := by
  rcases h with ⟨h1, h2⟩ | h
  · refine .inl ⟨h1, ?_⟩
    rcases h2 with h2 | ⟨g, cap, cur, rfl, hb, hg, r⟩
    · exact .inl h2
    · exact .inr ⟨g, cap, cur, rfl, hb, hk.typed g _ hg, r⟩
  · exact .inr h
theorem range_prefix {m n : Nat} (h : m ≤ n) : List.range m <+: List.range n := ⟨(List.range (n - m)).map (m + ·), by rw [← List.range_add]; congr 1; omega⟩
theorem encY_of {w : World} {T : Nat → Prop} {t : List Node} {k i : Nat} {x : Node} {A : Option Addr} {c : Nat} (h : ∃ i, (leavesOf t)[k]? = some i ∧ i < t.length ∧ Pcs w T (.slice A (leafAt t i).lead.length c) (leafAt t i).lead) (hi : (leavesOf t)[k]? = some i) (hx : leafAt t i = x) :
    encY (⟨(k, A, c), h⟩ : Wd w T t) = #[.agg #[.int .i64 (i : Int), .int .i64 (fromY t (leavesOf t) k : Int), .int .i64 ((fromY t (leavesOf t) k : Int) + (leadSum x.lead : Int)), .slice A x.lead.length c, .int .i64 x.n, .string x.text]] := by
  have h1 : nodeY t k = i := by unfold nodeY; rw [hi]; rfl
  unfold encY valY ownY
  dsimp only
  rw [h1, hx, Int.natCast_add]

set_option maxRecDepth 20000 in
set_option maxHeartbeats 4000000 in
theorem ywords1_in (n : Nat) (hn : 1 ≤ n) (l Bt : Nat) (w0 : World) (T : Nat → Prop) (hT : ∀ k, T k → k < w0.heap.size) (t : List Node) (v : Value) (h4 : bulkT t ≤ 1000000000) (hN : Nds w0 T v t) (hTB : T Bt) (hct : w0.cell? ⟨Bt, 0, none⟩ = some v) (J Jx : List (Wd w0 T t) → World → Prop)
    (hY : ∀ pre x W, J pre W → pre.length < (leavesOf t).length → YieldAt Fence.wide (n - 1) Try.prog l (encY x) W fun e W' =>
      (e = .returned (.bool true) ∧ J (pre ++ [x]) W' ∧ KeepsT T 3 W W') ∨ (e = .returned (.bool false) ∧ Jx (pre ++ [x]) W'))
    (hd : ∀ pre W W', J pre W → Below W.heap.size W W' → J pre W') (W : World) (hW : Below w0.heap.size w0 W) (h0 : J [] W) :
    CallsIn Fence.wide n Try.prog 77 #[.func (.yield l) #[] #[], .pointer (some ⟨Bt, 0, none⟩)] W fun e W' => (∃ v, e = .returned v) ∧
      ((∃ ys : List (Wd w0 T t), ys.map (·.1.1) = List.range (leavesOf t).length ∧ J ys W') ∨ (∃ pre : List (Wd w0 T t), pre.map (·.1.1) <+: List.range (leavesOf t).length ∧ Jx pre W')) := by
  have h5 := bulk_len t
  have hBt := hT _ hTB
  have hNW := hN.below hW hT
  have HA := hidden (arena_leaves v t W (by omega) (hNW.mono (fun k hk => Nat.lt_of_lt_of_le (hT k hk) hW.size)))
  have hctW : W.cell? ⟨Bt, 0, none⟩ = some v := (hW.cell (p := ⟨Bt, 0, none⟩) hBt).trans hct
  clear hNW
  obtain ⟨A, c, rfl, hc1, hc2⟩ := hN.value
  unfold maxLen at hc2
  have HN := hidden hN
  have HJ0 := hidden h0
  clear hN h0
  refine callsIn_of_wp Try.func77 rfl trivial ?_ rfl
  simp only [Try.ntmps77, List.size_toArray, List.length_cons, List.length_nil, Nat.reduceAdd, Nat.reduceSub, Array.replicate_succ, Array.replicate_zero, List.push_toArray, List.append_toArray, List.nil_append, List.cons_append]
  gi_wp2_with (refine ⟨trivial, ?_⟩; gi_at_call 46; refine (callsIn_wide.2 HA.out).mono ?_; rintro r w2 ⟨⟨u, rfl, HM⟩, hb2⟩; obtain ⟨A2, c2, rfl⟩ := HM.out.value)
  have hll : (leavesOf t).length ≤ t.length := leavesTo_len t t.length
  have hbz2 := hb2.size
  have HK2 : Hid (Keeps T w0 w2) := hidden ((Keeps.of_below hW).trans (Keeps.of_below hb2))
  have HJ2 := hidden (hd _ _ _ HJ0.out hb2)
  have HLt := hidden (leavesOf_lt t)
  have hFr := fun k (h : k ≤ (leavesOf t).length) => fromY_le t h
  have hFs := fun k i (h : (leavesOf t)[k]? = some i) => fromY_succ (t := t) h
  have HFr := hidden hFr
  have HFs := hidden hFs
  clear hFr hFs HJ0 HA hctW
  gi_loopw [3, 13] (fun at_ kk wr => ∃ (k : Nat) (pre : List (Wd w0 T t)), kk = .int .i64 k ∧ k ≤ (leavesOf t).length ∧ at_ = .int .i64 (fromY t (leavesOf t) k : Nat) ∧ Hid (pre.map (·.1.1) = List.range k) ∧ Hid (J pre wr) ∧ Hid (Mine wr W.heap.size 3 1 (.slice A2 (leavesOf t).length c2) (leavesOf t).length (ints (leavesOf t))) ∧ Hid (Keeps T w0 wr))
    (fun _ kk _ => (leavesOf t).length - (intOf kk).toNat)
  case atStart => exact ⟨0, [], rfl, by omega, rfl, hidden rfl, HJ2, HM, HK2⟩
  case round =>
    clear HM HK2 HJ2
    obtain ⟨k, pre, rfl, hk, rfl, HP, HJ, HM, HK⟩ := hrel
    by_cases hlt : k < (leavesOf t).length
    · have hi := List.getElem?_eq_getElem hlt
      have HI : Hid ((leavesOf t)[k]? = some (leavesOf t)[k]) := hidden hi
      have hit := HLt.out _ (List.mem_of_getElem? hi)
      obtain ⟨b2, o2, rfl, _, z0⟩ := (HM.out.rd (T := fun _ => True) (fun _ _ _ _ => trivial)).ints_at hi
      generalize (leavesOf t)[k] = i at *
      obtain ⟨b, off, c', hv, _, _, hTb, hat⟩ := HN.out.open_ (by intro e; subst e; simp at hit)
      simp only [Value.slice.injEq] at hv
      obtain ⟨rfl, _, rfl⟩ := hv
      have hx := List.getElem?_eq_getElem hit
      obtain ⟨lv, x0, x1, x2, x3, x4, hpc⟩ := hat i _ hx
      have HX : Hid (leafAt t i = t[i]) := hidden (leafAt_of hx)
      have hF1 := HFs.out k i hi
      have hF2 := HFr.out (k + 1) (by omega)
      rw [hF1, HX.out] at hF2
      generalize t[i] = x at *
      obtain ⟨A3, c3, rfl, d1, d2⟩ := hpc.value
      unfold maxLen at d2
      have hw : ∃ i, (leavesOf t)[k]? = some i ∧ i < t.length ∧ Pcs w0 T (.slice A3 (leafAt t i).lead.length c3) (leafAt t i).lead := ⟨i, hi, hit, by rw [HX.out]; exact hpc⟩
      have HEnc := hidden (encY_of hw hi HX.out)
      have HPc := hidden (hpc.keeps HK.out)
      have y0 := HK.out.cell (a := ⟨b, _, none⟩) hTb x0
      have y1 := HK.out.cell (a := ⟨b, _, none⟩) hTb x1
      have y2 := HK.out.cell (a := ⟨b, _, none⟩) hTb x2
      have y3 := HK.out.cell (a := ⟨b, _, none⟩) hTb x3
      have y4 := HK.out.cell (a := ⟨b, _, none⟩) hTb x4
      have hct2 := HK.out.cell (a := ⟨Bt, 0, none⟩) hTB hct
      have HF1 : Hid (((fromY t (leavesOf t) (k + 1) : Nat) : Int) = fromY t (leavesOf t) k + leadSum x.lead + x.text.size) := hidden (by rw [hF1, HX.out]; unfold wordLen; omega)
      unfold wordLen at hF2
      clear hi hat hx x0 x1 x2 x3 x4 hpc hF1
      generalize fromY t (leavesOf t) k = F at *
      obtain ⟨wo, rfl⟩ : ∃ wo, wo = wr := ⟨_, rfl⟩
      gi_wp2
      gi_loopw [35] (fun jj wi => ∃ j : Nat, jj = .int .i64 j ∧ j ≤ x.lead.length ∧ Holds wi (wo.heap.size + 1) 78 #[.int .i64 (i : Int), .int .i64 (F : Int), .int .i64 ((F : Int) + leadSum (x.lead.take j)), .slice A3 x.lead.length c3, .int .i64 x.n, .string x.text] ∧ Below wo.heap.size wo wi)
        (fun jj _ => x.lead.length - (intOf jj).toNat)
      case atStart => exact ⟨0, rfl, by omega, Holds.of_eq (Holds.new_at (by simp)) (by simp [leadSum]), (by repeat (first | (with_reducible exact Below.refl _ _) | (with_reducible assumption) | (with_reducible refine Below.drew ?_) | ((with_reducible refine below_alloc ?_ ?_); (focus (first | omega | (simp; done) | (simp; omega)))) | ((with_reducible refine below_set ?_ ?_); (focus (first | omega | (simp; done) | (simp; omega))))))⟩
      case round =>
        obtain ⟨j, rfl, hj, h7, hbi⟩ := hrel
        have k0 : wr.cell? ⟨wo.heap.size + 1, 0, none⟩ = some (.int .i64 (i : Int)) := h7.cell 0
        have k1 : wr.cell? ⟨wo.heap.size + 1, 1, none⟩ = some (.int .i64 (F : Int)) := h7.cell 1
        have k2 : wr.cell? ⟨wo.heap.size + 1, 2, none⟩ = some (.int .i64 ((F : Int) + leadSum (x.lead.take j))) := h7.cell 2
        have k3 : wr.cell? ⟨wo.heap.size + 1, 3, none⟩ = some (.slice A3 x.lead.length c3) := h7.cell 3
        have k4 : wr.cell? ⟨wo.heap.size + 1, 4, none⟩ = some (.int .i64 x.n) := h7.cell 4
        have k5 : wr.cell? ⟨wo.heap.size + 1, 5, none⟩ = some (.string x.text) := h7.cell 5
        have kf := h7.frozen 2
        have l7 := h7.lt
        have hbz := hbi.size
        have hsl := leadSum_le x.lead j
        by_cases hjl : j < x.lead.length
        · have hp := List.getElem?_eq_getElem hjl
          have HPi := HPc.out.keeps (Keeps.of_below hbi)
          obtain ⟨b3, o3, c3', hv, _, _, hT3, hat3⟩ := HPi.open_ (by intro e; rw [e] at hjl; simp at hjl)
          simp only [Value.slice.injEq] at hv
          obtain ⟨rfl, _, rfl⟩ := hv
          obtain ⟨p0, p1⟩ := hat3 j _ hp
          have hst := leadSum_take hp
          have hsl2 := leadSum_le x.lead (j + 1)
          generalize x.lead[j] = p at *
          have HSt : Hid (((leadSum (x.lead.take (j + 1)) : Nat) : Int) = leadSum (x.lead.take j) + p.text.size) := hidden (by rw [hst]; omega)
          rw [hst] at hsl2
          have h7' := HPi
          clear hp hat3 HPi h7' hst
          generalize leadSum (x.lead.take j) = s1 at *
          have q1 : wr.heap.size ≠ wo.heap.size + 1 := by omega
          gi_wp2
          go_roundw
          case rel =>
            refine ⟨j + 1, by go_num, by omega, ?_, ?_⟩
            · rw [HSt.out]
              exact Holds.alloc ((h7.set 2 _).of_eq (by simp [Int.add_assoc])) _
            · exact (by repeat (first | (with_reducible exact Below.refl _ _) | (with_reducible assumption) | (with_reducible refine Below.drew ?_) | ((with_reducible refine below_alloc ?_ ?_); (focus (first | omega | (simp; done) | (simp; omega)))) | ((with_reducible refine below_set ?_ ?_); (focus (first | omega | (simp; done) | (simp; omega))))))
          case measure => simp [intOf]; omega
        · obtain rfl : j = x.lead.length := by omega
          rw [List.take_length] at *
          clear hsl
          have hFb : 0 ≤ (F : Int) + leadSum x.lead ∧ (F : Int) + leadSum x.lead ≤ 1000000000000 := by omega
          have hxb : x.text.size ≤ 1000000000000 := by omega
          gi_wp2_with fail
          refine ⟨trivial, (callsIn_wide.2 (word_end _ _ _ _ _ _ _ _ _ hFb hxb)).mono ?_⟩
          rintro e w' ⟨rfl, hbe⟩
          clear hFb hxb
          have hbe2 := hbi.trans (hbe.mono hbz)
          have hbz3 := hbe2.size
          obtain ⟨g0, gf⟩ := old_cells hbe
          have m0 := (g0 _ 0 l7).trans k0
          have m1 := (g0 _ 1 l7).trans k1
          have m2 := (g0 _ 2 l7).trans k2
          have m3 := (g0 _ 3 l7).trans k3
          have m4 := (g0 _ 4 l7).trans k4
          have m5 := (g0 _ 5 l7).trans k5
          clear g0 gf k0 k1 k2 k3 k4 k5 kf h7 y0 y1 y2 y3 y4 z0 hct2
          have HJ3 := hidden (hd _ _ _ HJ.out hbe2)
          obtain ⟨fn, tmps, assign, body, hy, hR⟩ := hY pre ⟨(k, A3, c3), hw⟩ w' HJ3.out (by have := congrArg List.length HP.out; simp at this; omega)
          have HR := hidden hR
          rw [HEnc.out] at hy
          clear hR
          have HP1 : Hid ((pre ++ [(⟨(k, A3, c3), hw⟩ : Wd w0 T t)]).map (fun y : Wd w0 T t => y.1.1) = List.range (k + 1)) := hidden (by rw [List.map_append, HP.out, List.range_succ]; rfl)
          gi_wp2
          refine HR.out.mono ?_
          rintro e W3 (⟨rfl, hJ4, hk4⟩ | ⟨rfl, hJx4⟩)
          · have hM4 := hidden ((HM.out.keep (fun _ _ _ hg => hbe2.block _ hg)).typed hk4)
            have hK4 := hidden ((HK.out.below hbe2).trans hk4.keeps)
            gi_wp2
            go_roundw
            case rel => exact ⟨k + 1, _, by go_num, by omega, by rw [HF1.out], HP1, hidden hJ4, hM4, hK4⟩
            case measure => simp [intOf]; omega
          · gi_wp2
            refine bodyPost_ret (results_none rfl _ _ _) rfl ?_
            exact ⟨⟨_, rfl⟩, .inr ⟨_, by rw [HP1.out]; exact range_prefix (by omega), hJx4⟩⟩
    · obtain rfl : k = (leavesOf t).length := by omega
      gi_wp2
      exact ⟨rfl, _, results_none rfl _ _ _, ⟨_, rfl⟩, .inl ⟨pre, HP.out, HJ.out⟩⟩

theorem ywords1_stops (n : Nat) (hn : 1 ≤ n) (Bt : Nat) (w0 : World) (T : Nat → Prop) (hT : ∀ k, T k → k < w0.heap.size) (t : List Node) (v : Value) (h4 : bulkT t ≤ 1000000000) (hN : Nds w0 T v t) (hTB : T Bt) (hct : w0.cell? ⟨Bt, 0, none⟩ = some v) :
    SeqStopsK Fence.wide n Try.prog 77 #[.pointer (some ⟨Bt, 0, none⟩)] encY (KeepsT T 3) (fun ys : List (Wd w0 T t) => ys.map (·.1.1) = List.range (leavesOf t).length) (fun pre => pre.map (·.1.1) <+: List.range (leavesOf t).length) (leavesOf t).length w0 :=
  fun l J Jx W hW hJ _ hY h0 =>
    ywords1_in n hn l Bt w0 T hT t v h4 hN hTB hct J Jx hY (fun pre W W' h hb => hJ pre W W' none h ⟨hb.os, hb.tape, hb.output, hb.size, fun k hk _ => hb.block k hk⟩ (fun r e => by cases e)) W hW h0

theorem yield_words (v : Value) (A : Option Addr) (n c : Nat) (hv : v = .slice A n c) (w : World) :
    Calls Try.prog 62 #[v] w fun e w' => e = .returned (.func (.func 77) #[] #[.pointer (some ⟨w.heap.size, 0, none⟩)]) ∧ w.alloc (.cells #[v] 22) = w' := by
  subst hv
  go_enter Try.func62, Try.ntmps62
  go_wp2
  go_ret
  exact ⟨rfl, rfl⟩
end Go.Proofs.Ytihblifkbljgaaa
