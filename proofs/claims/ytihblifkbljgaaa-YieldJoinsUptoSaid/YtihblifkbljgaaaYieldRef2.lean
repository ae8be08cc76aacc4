/-
  The document's text of a tree, and the node of a byte.
-/
import Derived.Test.YtihblifkbljgaaaYieldRef
namespace Go.Proofs.Ytihblifkbljgaaa
open Go.RowKit Go.Shelf

theorem wordsOf_len (t : List Node) : (wordsOf t).length = (leavesOf t).length := by unfold wordsOf; rw [List.length_map]
theorem nodeY_at {t : List Node} {k : Nat} (h : k < (leavesOf t).length) : (wordsOf t)[k]? = some (leafAt t (nodeY t k)) ∧ nodeY t k < t.length ∧ fromY t (leavesOf t) (k + 1) = fromY t (leavesOf t) k + wordLen (leafAt t (nodeY t k)) ∧ fromY t (leavesOf t) (k + 1) ≤ bulkT t ∧ (leavesOf t)[k]? = some (nodeY t k) := by
  have hi := List.getElem?_eq_getElem h
  have e := nodeY_of hi
  rw [← e] at hi
  exact ⟨wordsOf_at hi, leavesOf_lt t _ (List.mem_of_getElem? hi), fromY_succ hi, fromY_le t h, hi⟩
theorem textL_range_len (t : List Node) : ∀ k, k ≤ (leavesOf t).length → (textL t (List.range k)).length = fromY t (leavesOf t) k := by
  intro k
  induction k with
  | zero => intro _; rfl
  | succ k ih =>
    intro h
    rw [List.range_succ, textL_snoc, List.length_append, wordBytes_len, ih (by omega), (nodeY_at (by omega)).2.2.1]

/-- A word of words that are read. -/
theorem word_cells {w : World} {T : Nat → Prop} {A : Option Addr} {n c : Nat} {t : List Node} (h : Recs wordR w T (.slice A n c) (wordsOf t)) {k : Nat} (hk : k < (leavesOf t).length) :
    ∃ b off l, A = some ⟨b, off, none⟩ ∧ w.cell? ⟨b, off + k * 3, none⟩ = some l ∧ w.cell? ⟨b, off + k * 3 + 1, none⟩ = some (.int .i64 (leafAt t (nodeY t k)).n) ∧ w.cell? ⟨b, off + k * 3 + 2, none⟩ = some (.string (leafAt t (nodeY t k)).text) ∧ Pcs w T l (leafAt t (nodeY t k)).lead ∧ T b := by
  obtain ⟨b, off, l, rfl, hT, hc, hP⟩ := h.at_ (nodeY_at hk).1
  exact ⟨b, off, l, rfl, hc 0 _ rfl, hc 1 _ rfl, hc 2 _ rfl, hP, hT⟩

set_option maxRecDepth 20000 in
set_option maxHeartbeats 4000000 in
theorem ref_text (v : Value) (t : List Node) (w : World) (h4 : bulkT t ≤ 1000000000) (hN : Nds w (Old w) v t) :
    Calls Try.prog 42 #[v] w fun r w' => r = .returned (.string (catB (textOf t))) ∧ Below w.heap.size w w' := by
  have h5 := bulk_len t
  have HW := hidden (ref_words v t w (by omega) hN)
  have hll : (leavesOf t).length ≤ t.length := leavesTo_len t t.length
  have HLen := hidden (fun k (h : k ≤ (leavesOf t).length) => textL_range_len t k h)
  have HNY := hidden (fun k (h : k < (leavesOf t).length) => nodeY_at (t := t) h)
  have HB := hidden (fun k (h : k < t.length) => bulk_at (List.getElem?_eq_getElem h))
  obtain ⟨A, c, rfl, hc1, hc2⟩ := hN.value
  unfold maxLen at hc2
  clear hN
  go_enter Try.func42, Try.ntmps42
  go_wp2_with fail
  refine HW.out.mono ?_
  rintro r w2 ⟨⟨u, rfl, HO⟩, hb⟩
  have HR := hidden (HO.out.recs (fun k (hk : k < w.heap.size) => Nat.lt_of_lt_of_le hk hb.size))
  obtain ⟨A2, c2, rfl, hd1, hd2⟩ := HR.out.value
  rw [wordsOf_len] at *
  unfold maxLen at hd2
  have hz := hb.size
  clear HO HW
  go_wp2
  go_loopw [3, 5] (fun s i wr => ∃ k : Nat, k ≤ (leavesOf t).length ∧ i = .int .i64 k ∧ s = .string (catB (textL t (List.range k))) ∧ Hid (Recs wordR wr (Old w2) (.slice A2 (leavesOf t).length c2) (wordsOf t)) ∧ Below w.heap.size w wr ∧ w2.heap.size ≤ wr.heap.size) (fun _ i _ => (leavesOf t).length - (intOf i).toNat)
  case atStart => exact ⟨0, by omega, rfl, rfl, HR, hb, Nat.le_refl _⟩
  case round =>
    clear HR hb
    obtain ⟨k, hk, rfl, rfl, HR, hb, hzr⟩ := hrel
    have hbz := hb.size
    by_cases hlt : k < (leavesOf t).length
    · obtain ⟨b, off, l, rfl, z0, z1, z2, hP, hTb⟩ := word_cells HR.out hlt
      obtain ⟨n1, n2, n3, n4, n5⟩ := HNY.out k hlt
      have hx : (catB (textL t (List.range k))).size = fromY t (leavesOf t) k := by rw [catB_size]; exact HLen.out k hk
      have HTx : Hid (catB (textL t (List.range (k + 1))) = catB (textL t (List.range k)) ++ catB (wordBytes (leafAt t (nodeY t k)))) := hidden (by rw [List.range_succ, textL_snoc, catB_cat])
      have hwl : (catB (wordBytes (leafAt t (nodeY t k)))).size = wordLen (leafAt t (nodeY t k)) := by rw [catB_size, wordBytes_len]
      have HBy := hidden (ref_bytes (leafAt t (nodeY t k)) l wr (Rd.mono hP (fun j hj => Nat.lt_of_lt_of_le (show j < w2.heap.size from hj) hzr)) (by omega))
      obtain ⟨A3, c3, rfl, _, _⟩ := hP.value
      have HRb := hidden (fun w' (h : Below wr.heap.size wr w') => HR.out.keeps (Keeps.of_below h))
      have hq : (catB (textL t (List.range k))).size + (catB (wordBytes (leafAt t (nodeY t k)))).size ≤ 1000000000000 := by omega
      clear n1 n5 hP HR hwl hx
      generalize catB (textL t (List.range k)) = s at *
      generalize catB (wordBytes (leafAt t (nodeY t k))) = s2 at *
      generalize leafAt t (nodeY t k) = x at *
      go_wp2_with fail
      refine HBy.out.mono ?_
      rintro r w3 ⟨rfl, hb3⟩
      have HR3 := hidden (HRb.out _ hb3)
      replace hb := hb.trans (hb3.mono hbz)
      have hz3 := hb3.size
      clear hb3 HRb HBy z0 z1 z2
      go_wp2
      go_roundw
      case rel => exact ⟨k + 1, by omega, by go_num, by rw [HTx.out], HR3, hb, by omega⟩
      case measure => simp [intOf]; omega
    · obtain rfl : k = (leavesOf t).length := by omega
      go_wp2
      go_ret
      exact ⟨rfl, hb⟩

set_option maxRecDepth 20000 in
set_option maxHeartbeats 4000000 in
theorem ref_find (v : Value) (t : List Node) (at_ : Int) (w : World) (h4 : bulkT t ≤ 1000000000) (hN : Nds w (Old w) v t) :
    Calls Try.prog 25 #[v, .int .i64 at_] w fun r w' => r = .returned (.int .i64 (findOf t at_)) ∧ Below w.heap.size w w' := by
  have h5 := bulk_len t
  have HL := hidden (ref_leaves v t w (by omega) hN)
  have HW := hidden (fun (w' : World) (hb : Below w.heap.size w w') => ref_words v t w' (by omega) (hN.old hb))
  have hll : (leavesOf t).length ≤ t.length := leavesTo_len t t.length
  have HNY := hidden (fun k (h : k < (leavesOf t).length) => nodeY_at (t := t) h)
  obtain ⟨A, c, rfl, hc1, hc2⟩ := hN.value
  unfold maxLen at hc2
  clear hN
  go_enter Try.func25, Try.ntmps25
  go_wp2_with fail
  refine HL.out.mono ?_
  rintro r w1 ⟨⟨u1, rfl, HM⟩, hb1⟩
  obtain ⟨A1, c1, rfl⟩ := HM.out.value
  have HRL := HM.out.rd (T := Old w1) (fun _ _ _ h => h)
  obtain ⟨A1', c1', hvv, hl1, hl2⟩ := HRL.valR
  simp only [Value.slice.injEq] at hvv
  obtain ⟨rfl, _, rfl⟩ := hvv
  unfold maxLen at hl2
  have hz1 := hb1.size
  go_wp2_with fail
  refine (HW.out _ hb1).mono ?_
  rintro r w2 ⟨⟨u, rfl, HO⟩, hb2⟩
  have hb := hb1.trans (hb2.mono hz1)
  have hz2 := hb2.size
  have HR := hidden (HO.out.recs (fun k (hk : k < w1.heap.size) => Nat.lt_of_lt_of_le hk hb2.size))
  have HI := hidden ((Rd.keeps HRL (Keeps.of_below hb2)).mono (T' := Old w2) (fun k (hk : k < w1.heap.size) => Nat.lt_of_lt_of_le hk hb2.size))
  obtain ⟨A2, c2, rfl, hd1, hd2⟩ := HR.out.value
  rw [wordsOf_len] at *
  unfold maxLen at hd2
  have hz := hb.size
  clear HO HW HL HM HRL hb1 hb2
  go_wp2
  go_loopw [7, 8] (fun e i wr => ∃ k : Nat, k ≤ (leavesOf t).length ∧ i = .int .i64 k ∧ e = .int .i64 (fromY t (leavesOf t) k : Nat) ∧ Hid (∀ j, j < k → ¬ hitY t at_ j) ∧ Hid (Recs wordR wr (Old w2) (.slice A2 (leavesOf t).length c2) (wordsOf t)) ∧ Hid (Rd wr (Old w2) 1 (.slice A1 (leavesOf t).length c1) (leavesOf t).length (ints (leavesOf t))) ∧ Below w.heap.size w wr ∧ w2.heap.size ≤ wr.heap.size) (fun _ i _ => (leavesOf t).length - (intOf i).toNat)
  case atStart => exact ⟨0, by omega, rfl, rfl, hidden (fun j h => by omega), HR, HI, hb, Nat.le_refl _⟩
  case round =>
    clear HR HI hb
    obtain ⟨k, hk, rfl, rfl, HMs, HR, HI, hb, hzr⟩ := hrel
    have hbz := hb.size
    by_cases hlt : k < (leavesOf t).length
    · obtain ⟨b, off, l, rfl, z0, z1, z2, hP, hTb⟩ := word_cells HR.out hlt
      obtain ⟨n1, n2, n3, n4, n5⟩ := HNY.out k hlt
      obtain ⟨b1, o1, rfl, hTb1, y0⟩ := HI.out.ints_at n5
      have hwl : (catB (wordBytes (leafAt t (nodeY t k)))).size = wordLen (leafAt t (nodeY t k)) := by rw [catB_size, wordBytes_len]
      have HBy := hidden (ref_bytes (leafAt t (nodeY t k)) l wr (Rd.mono hP (fun j hj => Nat.lt_of_lt_of_le (show j < w2.heap.size from hj) hzr)) (by omega))
      obtain ⟨A3, c3, rfl, _, _⟩ := hP.value
      have HRb := hidden (fun w' (h : Below wr.heap.size wr w') => HR.out.keeps (Keeps.of_below h))
      have HIb := hidden (fun w' (h : Below wr.heap.size wr w') => HI.out.keeps (Keeps.of_below h))
      have HH := hidden (show hitY t at_ k ↔ ((fromY t (leavesOf t) k : Nat) : Int) ≤ at_ ∧ at_ < ((fromY t (leavesOf t) (k + 1) : Nat) : Int) from Iff.rfl)
      have HF := hidden (fun h => findY_hit (t := t) (at_ := at_) (x := k) h (List.range k) ((List.range ((leavesOf t).length - (k + 1))).map (k + 1 + ·)) (fun j hj => HMs.out j (List.mem_range.1 hj)))
      have HRg : Hid (List.range (leavesOf t).length = List.range k ++ k :: (List.range ((leavesOf t).length - (k + 1))).map (k + 1 + ·)) := hidden (by
        have : (leavesOf t).length = (k + 1) + ((leavesOf t).length - (k + 1)) := by omega
        conv => lhs; rw [this, List.range_add, List.range_succ]
        rw [List.append_assoc, List.singleton_append])
      have HK : Hid (¬ hitY t at_ k → ∀ j, j < k + 1 → ¬ hitY t at_ j) := hidden (fun h j hj => by
        by_cases e : j = k
        · rw [e]; exact h
        · exact HMs.out j (by omega))
      have HB := hidden hb
      clear n1 n5 hP HR HI hb HMs
      have HN1 := hidden n3
      have hf1 : ((fromY t (leavesOf t) (k + 1) : Nat) : Int) = (fromY t (leavesOf t) k : Nat) + ((catB (wordBytes (leafAt t (nodeY t k)))).size : Nat) := by omega
      have HF1 := hidden hf1
      have hq : (catB (wordBytes (leafAt t (nodeY t k)))).size ≤ 1000000000000 := by omega
      have hq2 : fromY t (leavesOf t) k + (catB (wordBytes (leafAt t (nodeY t k)))).size ≤ 1000000000000 := by omega
      generalize catB (wordBytes (leafAt t (nodeY t k))) = s2 at *
      generalize fromY t (leavesOf t) k = f0 at *
      generalize leafAt t (nodeY t k) = x at *
      have HNd : Hid (∃ y, y = nodeY t k) := hidden ⟨_, rfl⟩
      generalize hnd : nodeY t k = nd at *
      clear hnd hwl n3 n2 hf1
      by_cases a1 : (f0 : Int) ≤ at_
      · by_cases a2 : at_ < (f0 : Int) + s2.size
        · have HE : Hid (findOf t at_ = (nd : Int)) := hidden (by
            unfold findOf
            rw [HRg.out]
            exact HF.out (HH.out.2 ⟨a1, by have := HF1.out; omega⟩))
          go_wp2_with fail
          refine HBy.out.mono ?_
          rintro r w3 ⟨rfl, hb3⟩
          have y1 := (hb3.cell (p := ⟨b1, o1 + k, none⟩) (by have : b1 < w2.heap.size := hTb1; show b1 < _; omega)).trans y0
          have hbb := HB.out.trans (hb3.mono HB.out.size)
          clear hb3 HRb HIb HBy z0 z1 z2 y0
          go_wp2
          go_ret
          exact ⟨by rw [HE.out]; rfl, hbb⟩
        · have HM2 := hidden (HK.out (fun h => a2 (by have := (HH.out.1 h).2; have := HF1.out; omega)))
          have a3 : decide (at_ < (f0 : Int) + s2.size) = false := decide_eq_false a2
          go_wp2_with fail
          refine HBy.out.mono ?_
          rintro r w3 ⟨rfl, hb3⟩
          have HR3 := hidden (HRb.out _ hb3); have HI3 := hidden (HIb.out _ hb3)
          have hbb := HB.out.trans (hb3.mono HB.out.size)
          have hz3 := hb3.size
          clear hb3 HRb HIb HBy z0 z1 z2 y0
          go_wp2
          go_roundw
          case rel => exact ⟨k + 1, by omega, by go_num, by rw [HF1.out], HM2, HR3, HI3, hbb, by omega⟩
          case measure => simp [intOf]; omega
      · have HM2 := hidden (HK.out (fun h => a1 (HH.out.1 h).1))
        have a3 : decide ((f0 : Int) ≤ at_) = false := decide_eq_false a1
        go_wp2_with fail
        refine HBy.out.mono ?_
        rintro r w3 ⟨rfl, hb3⟩
        have HR3 := hidden (HRb.out _ hb3); have HI3 := hidden (HIb.out _ hb3)
        have hbb := HB.out.trans (hb3.mono HB.out.size)
        have hz3 := hb3.size
        clear hb3 HRb HIb HBy z0 z1 z2 y0
        go_wp2
        go_roundw
        case rel => exact ⟨k + 1, by omega, by go_num, by rw [HF1.out], HM2, HR3, HI3, hbb, by omega⟩
        case measure => simp [intOf]; omega
    · obtain rfl : k = (leavesOf t).length := by omega
      have HE : Hid (findOf t at_ = -1) := hidden (findY_miss _ (fun j hj => HMs.out j (List.mem_range.1 hj)))
      go_wp2
      go_ret
      exact ⟨by rw [HE.out]; rfl, hb⟩
end Go.Proofs.Ytihblifkbljgaaa

namespace Go.Proofs.Ytihblifkbljgaaa
open Go.RowKit Go.Shelf
attribute [local go_sem] Oper.semAt_some
attribute [local simp] wide_fn

theorem spanP_none (t : List Node) (i z : Nat) : ∀ k, (spanP t i z (List.range k)).2.2 = true → ∃ j, j < k ∧ i ≤ nodeY t j := by
  intro k
  induction k with
  | zero => intro h; cases h
  | succ k ih =>
    intro h
    rw [List.range_succ, spanP_snoc] at h
    unfold stepP at h
    split at h
    · obtain ⟨j, h1, h2⟩ := ih h; exact ⟨j, by omega, h2⟩
    · split at h
      · obtain ⟨j, h1, h2⟩ := ih h; exact ⟨j, by omega, h2⟩
      · exact ⟨k, by omega, by omega⟩

theorem ownY_of (t : List Node) (k : Nat) : ((ownY t k : Nat) : Int) = (fromY t (leavesOf t) k : Nat) + (wordLen (leafAt t (nodeY t k)) : Nat) - ((leafAt t (nodeY t k)).text.size : Nat) := by
  unfold ownY wordLen; omega

set_option maxRecDepth 20000 in
set_option maxHeartbeats 8000000 in
theorem ref_span_yes (v : Value) (t : List Node) (I : Nat) (w : World) (h4 : bulkT t ≤ 1000000000) (hN : Nds w (Old w) v t) (hp : placeB t I = true) :
    Calls Try.prog 23 #[v, .int .i64 I] w fun r w' => r = .returned (.tuple #[.agg #[.int .i64 (spanOf t I).1, .int .i64 (spanOf t I).2.1], .bool true]) ∧ Below w.heap.size w w' := by
  have h5 := bulk_len t
  have HR0 := hidden (fun (w' : World) (hb : Below w.heap.size w w') => ref_right v t w' (by omega) (hN.old hb))
  rw [treeB_of_place hp] at HR0
  have HS : Hid (spanOf t I = ((spanP t I (sz t I) (List.range (leavesOf t).length)).1, (spanP t I (sz t I) (List.range (leavesOf t).length)).2.1, true)) := hidden (by unfold spanOf; rw [hp]; rfl)
  generalize spanOf t I = so at *
  have HL := hidden (fun (w' : World) (hb : Below w.heap.size w w') => ref_leaves v t w' (by omega) (hN.old hb))
  have HW := hidden (fun (w' : World) (hb : Below w.heap.size w w') => ref_words v t w' (by omega) (hN.old hb))
  have hll : (leavesOf t).length ≤ t.length := leavesTo_len t t.length
  have HNY := hidden (fun k (h : k < (leavesOf t).length) => nodeY_at (t := t) h)
  have HN := hidden hN
  obtain ⟨p1, p2, p3⟩ := placeB_iff.1 hp
  have HT := hidden p3
  have hI : I < t.length := by omega
  obtain ⟨b, off, c, rfl, hc1, hc2, hTb, _⟩ := hN.open_ (by intro e; subst e; simp at hI)
  unfold maxLen at hc2
  obtain ⟨q1, q2, _⟩ := tree_node HT.out hI
  have q3 : decide ((I : Int) < 0) = false := decide_eq_false (by omega)
  have q4 : decide (t.length ≤ I) = false := decide_eq_false (by omega)
  clear hN p1 p2 p3 hp
  refine (callsIn_wide (n := 5)).1 ?_
  refine callsIn_of_wp Try.func23 rfl trivial ?_ rfl
  simp only [Try.ntmps23, List.size_toArray, List.length_cons, List.length_nil, Nat.reduceAdd, Nat.reduceSub, Array.replicate_succ, Array.replicate_zero, List.push_toArray, List.append_toArray, List.nil_append, List.cons_append]
  gi_wp2_with fail
  refine CallsIn.mono (F := Fence.wide) (callsIn_wide.2 (HR0.out _ (by repeat (first | (with_reducible exact Below.refl _ _) | (with_reducible assumption) | (with_reducible refine Below.drew ?_) | ((with_reducible refine below_alloc ?_ ?_); (focus (first | omega | (simp; done) | (simp; omega)))) | ((with_reducible refine below_set ?_ ?_); (focus (first | omega | (simp; done) | (simp; omega)))))))) ?_
  rintro e w1 ⟨rfl, hb1⟩
  have g0 := Holds.below (g := w.heap.size) (t := 37) (cs := #[.int .i64 0, .int .i64 0]) (by repeat (first | (with_reducible assumption) | ((with_reducible refine holds_new ?_); (focus (first | rfl | (simp; done)))) | (with_reducible refine Holds.alloc ?_ _) | (with_reducible refine Holds.drew ?_))) hb1 (by simp)
  have hb := Below.trans (B := w.heap.size) (a := w) (by repeat (first | (with_reducible exact Below.refl _ _) | (with_reducible assumption) | (with_reducible refine Below.drew ?_) | ((with_reducible refine below_alloc ?_ ?_); (focus (first | omega | (simp; done) | (simp; omega)))) | ((with_reducible refine below_set ?_ ?_); (focus (first | omega | (simp; done) | (simp; omega)))))) (hb1.mono (by simp))
  clear hb1 HR0
  gi_wp2_with fail
  refine CallsIn.mono (F := Fence.wide) (callsIn_wide.2 (HL.out _ hb)) ?_
  rintro e w2 ⟨⟨u1, rfl, HM⟩, hb2⟩
  obtain ⟨A1, c1, rfl⟩ := HM.out.value
  have HRL := HM.out.rd (T := Old w2) (fun _ _ _ h => h)
  obtain ⟨A1', c1', hvv, hl1, hl2⟩ := HRL.valR
  simp only [Value.slice.injEq] at hvv
  obtain ⟨rfl, _, rfl⟩ := hvv
  unfold maxLen at hl2
  replace g0 := g0.below hb2 g0.lt
  replace hb := hb.trans (hb2.mono hb.size)
  gi_wp2_with fail
  refine CallsIn.mono (F := Fence.wide) (callsIn_wide.2 (HW.out _ hb)) ?_
  rintro e w3 ⟨⟨u, rfl, HO⟩, hb3⟩
  have HR := hidden (HO.out.recs (fun k (hk : k < w2.heap.size) => Nat.lt_of_lt_of_le hk hb3.size))
  have HI := hidden ((Rd.keeps HRL (Keeps.of_below hb3)).mono (T' := Old w3) (fun k (hk : k < w2.heap.size) => Nat.lt_of_lt_of_le hk hb3.size))
  obtain ⟨A2, c2, rfl, hd1, hd2⟩ := HR.out.value
  rw [wordsOf_len] at *
  unfold maxLen at hd2
  replace g0 := g0.below hb3 g0.lt
  replace hb := hb.trans (hb3.mono hb.size)
  have HG0 := hidden g0
  have HB3 := hidden hb
  have hz := g0.lt
  have HSz := hidden ((HN.out.below hb old_lt).size_cell HT.out hI)
  clear HO HW HL HM HRL hb2 hb3 g0
  gi_wp2
  gi_loopw [8, 10, 11] (fun at_ is kk wr => ∃ (k : Nat), k ≤ (leavesOf t).length ∧ kk = .int .i64 k ∧ at_ = .int .i64 (fromY t (leavesOf t) k : Nat) ∧ is = .bool (spanP t I (sz t I) (List.range k)).2.2 ∧
      Holds wr w3.heap.size 37 #[.int .i64 ((spanP t I (sz t I) (List.range k)).1 : Nat), .int .i64 ((spanP t I (sz t I) (List.range k)).2.1 : Nat)] ∧ Hid (Keeps (fun j => j < w3.heap.size) w3 wr) ∧ Below w.heap.size w wr) (fun _ _ kk _ => (leavesOf t).length - (intOf kk).toNat)
  case atStart => exact ⟨0, by omega, rfl, rfl, rfl, Holds.of_eq (cs := #[.int .i64 0, .int .i64 0]) (by repeat (first | (with_reducible assumption) | ((with_reducible refine holds_new ?_); (focus (first | rfl | (simp; done)))) | (with_reducible refine Holds.alloc ?_ _) | (with_reducible refine Holds.drew ?_))) rfl, hidden ((Keeps.refl _ _).alloc _), (by repeat (first | (with_reducible exact Below.refl _ _) | (with_reducible assumption) | (with_reducible refine Below.drew ?_) | ((with_reducible refine below_alloc ?_ ?_); (focus (first | omega | (simp; done) | (simp; omega)))) | ((with_reducible refine below_set ?_ ?_); (focus (first | omega | (simp; done) | (simp; omega))))))⟩
  case round =>
    clear hb
    obtain ⟨k, hk, rfl, rfl, rfl, m9, HK, hb⟩ := hrel
    have hbz := hb.size
    by_cases hlt : k < (leavesOf t).length
    · have HAt : Hid (∃ (b2 o2 b1 o1 : Nat) (l : Value), A2 = some ⟨b2, o2, none⟩ ∧ A1 = some ⟨b1, o1, none⟩ ∧ (∃ a' c', l = .slice a' (leafAt t (nodeY t k)).lead.length c') ∧ b2 < w3.heap.size ∧ b1 < w3.heap.size ∧ ∀ W, Keeps (fun j => j < w3.heap.size) w3 W →
          W.cell? ⟨b1, o1 + k, none⟩ = some (.int .i64 (nodeY t k : Nat)) ∧ W.cell? ⟨b2, o2 + k * 3, none⟩ = some l ∧ W.cell? ⟨b2, o2 + k * 3 + 1, none⟩ = some (.int .i64 (leafAt t (nodeY t k)).n) ∧ W.cell? ⟨b2, o2 + k * 3 + 2, none⟩ = some (.string (leafAt t (nodeY t k)).text) ∧
          W.cell? ⟨b, off + I * 5 + 2, none⟩ = some (.int .i64 (sz t I)) ∧ Calls Try.prog 64 #[.agg #[l, .int .i64 (leafAt t (nodeY t k)).n, .string (leafAt t (nodeY t k)).text]] W fun r w' => r = .returned (.string (catB (wordBytes (leafAt t (nodeY t k))))) ∧ Below W.heap.size W w') := hidden (by
        obtain ⟨b2, o2, l, e2, z0, z1, z2, hP, hTb2⟩ := word_cells HR.out hlt
        obtain ⟨n1, n2, n3, n4, n5⟩ := HNY.out k hlt
        obtain ⟨b1, o1, e1, hTb1, y0⟩ := HI.out.ints_at n5
        obtain ⟨a', c', hl', _⟩ := hP.value
        refine ⟨b2, o2, b1, o1, l, e2, e1, ⟨a', c', hl'⟩, hTb2, hTb1, fun W hW => ⟨hW.cell (a := ⟨b1, _, none⟩) hTb1 y0, hW.cell (a := ⟨b2, _, none⟩) hTb2 z0, hW.cell (a := ⟨b2, _, none⟩) hTb2 z1, hW.cell (a := ⟨b2, _, none⟩) hTb2 z2, hW.cell (a := ⟨b, _, none⟩) (by have := HB3.out.size; have : b < w.heap.size := hTb; show b < _; omega) HSz.out, ?_⟩⟩
        exact ref_bytes _ l W (Rd.mono (Rd.keeps hP hW) (fun j hj => Nat.lt_of_lt_of_le (show j < w3.heap.size from hj) hW.size)) (by omega))
      obtain ⟨b2, o2, b1, o1, l, rfl, rfl, ⟨a', c', rfl⟩, hlt2, hlt1, hAt⟩ := HAt.out
      have HA := hidden hAt
      obtain ⟨n1, n2, n3, n4, n5⟩ := HNY.out k hlt
      have HSn : Hid (spanP t I (sz t I) (List.range (k + 1)) = stepP t I (sz t I) (spanP t I (sz t I) (List.range k)) k) := hidden (by rw [List.range_succ, spanP_snoc])
      have HNo : Hid ((spanP t I (sz t I) (List.range k)).2.2 = true → I ≤ nodeY t k) := hidden (fun h => by
        obtain ⟨j, j1, j2⟩ := spanP_none t I (sz t I) k h
        have := nodeY_mono (t := t) j1 hlt
        omega)
      have hwl : (catB (wordBytes (leafAt t (nodeY t k)))).size = wordLen (leafAt t (nodeY t k)) := by rw [catB_size, wordBytes_len]
      have how := ownY_of t k
      have hwt : (leafAt t (nodeY t k)).text.size ≤ wordLen (leafAt t (nodeY t k)) := by unfold wordLen; omega
      rw [← hwl] at n3 how hwt
      have HF1 : Hid (((fromY t (leavesOf t) (k + 1) : Nat) : Int) = (fromY t (leavesOf t) k : Nat) + ((catB (wordBytes (leafAt t (nodeY t k)))).size : Nat)) := hidden (by omega)
      have HOw := hidden how
      have HSt : Hid (stepP t I (sz t I) (spanP t I (sz t I) (List.range k)) k = if I + sz t I ≤ nodeY t k then spanP t I (sz t I) (List.range k) else if nodeY t k < I then (fromY t (leavesOf t) (k + 1), fromY t (leavesOf t) (k + 1), (spanP t I (sz t I) (List.range k)).2.2) else (if (spanP t I (sz t I) (List.range k)).2.2 then (spanP t I (sz t I) (List.range k)).1 else ownY t k, fromY t (leavesOf t) (k + 1), true)) := hidden rfl
      have hq2 : fromY t (leavesOf t) k + (catB (wordBytes (leafAt t (nodeY t k)))).size ≤ 1000000000000 := by omega
      clear hAt HAt n1 n4 n5 hwl how n3
      --BODY
      generalize hs2 : stepP t I (sz t I) (spanP t I (sz t I) (List.range k)) k = sn at HSn HSt
      clear hs2
      generalize spanP t I (sz t I) (List.range k) = s1 at *
      obtain ⟨sa, sb, sm⟩ := s1
      generalize catB (wordBytes (leafAt t (nodeY t k))) = sB at *
      generalize leafAt t (nodeY t k) = x at *
      generalize ownY t k = ow at *
      generalize nodeY t k = nd at *
      generalize fromY t (leavesOf t) k = f0 at *
      generalize sz t I = z at *
      dsimp only at m9 HNo HSt
      by_cases e1 : I + z ≤ nd
      · have d1 : decide (I ≤ nd) = true := decide_eq_true (by omega)
        have d2 : decide (nd < I + z) = false := decide_eq_false (by omega)
        have d3 : decide (nd < I) = false := decide_eq_false (by omega)
        have d4 : decide ((I : Int) ≤ nd) = true := decide_eq_true (by omega)
        have d5 : decide ((nd : Int) < I + z) = false := decide_eq_false (by omega)
        have hs : Hid (sn = (sa, sb, sm)) := hidden (by rw [HSt.out, if_pos e1])
        obtain ⟨y0, z0, z1, z2, y9, hby⟩ := HA.out wr HK.out
        have HBy := hidden hby
        clear hby
        have ya := Ext.cell y0; have yb := Ext.cell y9
        gi_wp2
        refine wpIn_region_ext (by kernel_rfl) (by kernel_rfl) rfl ?_
        repeat (gi_big_quiet_step (fail))
        refine wpQuietIn_nil ?_
        intro w4 hb4
        clear ya yb
        replace m9 := m9.below hb4 m9.lt
        replace HK := hidden (HK.out.below hb4)
        replace hb := hb.trans (hb4.mono hb.size)
        clear y0 z0 z1 z2 y9 HBy
        clear hb4
        obtain ⟨y0, z0, z1, z2, y9, hby⟩ := HA.out w4 HK.out
        have HBy := hidden hby
        clear hby
        gi_wp2_with fail
        refine CallsIn.mono (F := Fence.wide) (callsIn_wide.2 HBy.out) ?_
        rintro e w5 ⟨rfl, hb5⟩
        replace m9 := m9.below hb5 m9.lt
        replace HK := hidden (HK.out.below hb5)
        replace hb := hb.trans (hb5.mono hb.size)
        clear y0 z0 z1 z2 y9 HBy
        clear hb5
        gi_wp2
        go_roundw
        case rel => exact ⟨k + 1, by omega, by go_num, by rw [HF1.out], by rw [HSn.out, hs.out], by rw [HSn.out, hs.out]; exact m9, HK, hb⟩
        case measure => simp [intOf]; omega
      · by_cases e2 : nd < I
        · have hsm : sm = false := by
            cases sm with
            | false => rfl
            | true => have := HNo.out rfl; omega
          subst hsm
          have d1 : decide (I ≤ nd) = false := decide_eq_false (by omega)
          have d3 : decide (nd < I) = true := decide_eq_true (by omega)
          have d4 : decide ((I : Int) ≤ nd) = false := decide_eq_false (by omega)
          have hs : Hid (sn = (fromY t (leavesOf t) (k + 1), fromY t (leavesOf t) (k + 1), false)) := hidden (by rw [HSt.out, if_neg e1, if_pos e2])
          obtain ⟨y0, z0, z1, z2, y9, hby⟩ := HA.out wr HK.out
          have HBy := hidden hby
          clear hby
          have ya := Ext.cell y0; have yb := Ext.cell y9
          gi_wp2
          refine wpIn_region_ext (by kernel_rfl) (by kernel_rfl) rfl ?_
          repeat (gi_big_quiet_step (fail))
          refine wpQuietIn_nil ?_
          intro w4 hb4
          clear ya yb
          replace m9 := m9.below hb4 m9.lt
          replace HK := hidden (HK.out.below hb4)
          replace hb := hb.trans (hb4.mono hb.size)
          clear y0 z0 z1 z2 y9 HBy
          clear hb4
          obtain ⟨y0, z0, z1, z2, y9, hby⟩ := HA.out w4 HK.out
          have HBy := hidden hby
          clear hby
          have HA4 := hidden (fun W (h : Below w4.heap.size w4 W) => HA.out W (HK.out.below h))
          have ya := Ext.cell z0; have yb := Ext.cell z1; have yc := Ext.cell z2
          gi_wp2
          refine wpIn_region_ext_tail 17 (by kernel_rfl) (by kernel_rfl) rfl ?_
          simp only [List.take_succ_cons, List.take_zero, List.drop_succ_cons, List.drop_zero]
          repeat (gi_big_quiet_step ((gi_at_call 64; exact Ext.callIn (callsIn_wide.2 (HA4.out _ (Ext.below _)).2.2.2.2.2))))
          refine wpQuietIn_nil ?_
          intro w5 hb5
          clear ya yb yc HA4
          replace m9 := m9.below hb5 m9.lt
          replace HK := hidden (HK.out.below hb5)
          replace hb := hb.trans (hb5.mono hb.size)
          clear y0 z0 z1 z2 y9 HBy
          clear hb5
          have k0 : w5.cell? ⟨w3.heap.size, 0, none⟩ = some (.int .i64 sa) := m9.cell 0
          have k1 : w5.cell? ⟨w3.heap.size, 1, none⟩ = some (.int .i64 sb) := m9.cell 1
          have fz0 := m9.frozen 0; have fz1 := m9.frozen 1; have lz := m9.lt
          obtain ⟨y0, z0, z1, z2, y9, hby⟩ := HA.out w5 HK.out
          have HBy := hidden hby
          clear hby
          gi_wp2_with fail
          have m6 := (m9.set 0 (.int .i64 ((f0 : Int) + sB.size))).set 1 (.int .i64 ((f0 : Int) + sB.size))
          have HK6 := hidden (keeps_set (b := w3.heap.size) (i := 1) (s := none) (u := .int .i64 ((f0 : Int) + sB.size)) (by omega) (keeps_set (b := w3.heap.size) (i := 0) (s := none) (u := .int .i64 ((f0 : Int) + sB.size)) (by omega) HK.out))
          have hb6 := below_set (b := w3.heap.size) (i := 1) (s := none) (u := .int .i64 ((f0 : Int) + sB.size)) (by omega) (below_set (b := w3.heap.size) (i := 0) (s := none) (u := .int .i64 ((f0 : Int) + sB.size)) (by omega) hb)
          clear y0 z0 z1 z2 y9 HBy k0 k1 fz0 fz1 lz m9 HK hb
          refine CallsIn.mono (F := Fence.wide) (callsIn_wide.2 (HA.out _ HK6.out).2.2.2.2.2) ?_
          rintro e w6 ⟨rfl, hb7⟩
          have m7 := m6.below hb7 m6.lt
          have HK7 := hidden (HK6.out.below hb7)
          have hb8 := hb6.trans (hb7.mono hb6.size)
          clear m6 HK6 hb6 hb7
          gi_wp2
          go_roundw
          case rel => exact ⟨k + 1, by omega, by go_num, by rw [HF1.out], by rw [HSn.out, hs.out], by rw [HSn.out, hs.out]; exact m7.of_eq (by dsimp only; rw [HF1.out]; rfl), HK7, hb8⟩
          case measure => simp [intOf]; omega
        · cases sm with
          | false =>
            have d1 : decide (I ≤ nd) = true := decide_eq_true (by omega)
            have d2 : decide (nd < I + z) = true := decide_eq_true (by omega)
            have d3 : decide (nd < I) = false := decide_eq_false (by omega)
            have d4 : decide ((I : Int) ≤ nd) = true := decide_eq_true (by omega)
            have d5 : decide ((nd : Int) < I + z) = true := decide_eq_true (by omega)
            have hs : Hid (sn = (ow, fromY t (leavesOf t) (k + 1), true)) := hidden (by rw [HSt.out, if_neg e1, if_neg e2]; rfl)
            obtain ⟨y0, z0, z1, z2, y9, hby⟩ := HA.out wr HK.out
            have HBy := hidden hby
            clear hby
            have ya := Ext.cell y0; have yb := Ext.cell y9
            gi_wp2
            refine wpIn_region_ext (by kernel_rfl) (by kernel_rfl) rfl ?_
            repeat (gi_big_quiet_step (fail))
            refine wpQuietIn_nil ?_
            intro w4 hb4
            clear ya yb
            replace m9 := m9.below hb4 m9.lt
            replace HK := hidden (HK.out.below hb4)
            replace hb := hb.trans (hb4.mono hb.size)
            clear y0 z0 z1 z2 y9 HBy
            clear hb4
            obtain ⟨y0, z0, z1, z2, y9, hby⟩ := HA.out w4 HK.out
            have HBy := hidden hby
            clear hby
            have HA4 := hidden (fun W (h : Below w4.heap.size w4 W) => HA.out W (HK.out.below h))
            have ya := Ext.cell z0; have yb := Ext.cell z1; have yc := Ext.cell z2
            gi_wp2
            refine wpIn_region_ext_tail 16 (by kernel_rfl) (by kernel_rfl) rfl ?_
            simp only [List.take_succ_cons, List.take_zero, List.drop_succ_cons, List.drop_zero]
            repeat (gi_big_quiet_step ((gi_at_call 64; exact Ext.callIn (callsIn_wide.2 (HA4.out _ (Ext.below _)).2.2.2.2.2))))
            refine wpQuietIn_nil ?_
            intro w5 hb5
            clear ya yb yc HA4
            replace m9 := m9.below hb5 m9.lt
            replace HK := hidden (HK.out.below hb5)
            replace hb := hb.trans (hb5.mono hb.size)
            clear y0 z0 z1 z2 y9 HBy
            clear hb5
            have k0 : w5.cell? ⟨w3.heap.size, 0, none⟩ = some (.int .i64 sa) := m9.cell 0
            have k1 : w5.cell? ⟨w3.heap.size, 1, none⟩ = some (.int .i64 sb) := m9.cell 1
            have fz0 := m9.frozen 0; have fz1 := m9.frozen 1; have lz := m9.lt
            obtain ⟨y0, z0, z1, z2, y9, hby⟩ := HA.out w5 HK.out
            have HBy := hidden hby
            clear hby
            gi_wp2_with fail
            have m6 := m9.set 0 (.int .i64 ((f0 : Int) + sB.size - x.text.size))
            have HK6 := hidden (keeps_set (b := w3.heap.size) (i := 0) (s := none) (u := .int .i64 ((f0 : Int) + sB.size - x.text.size)) (by omega) HK.out)
            have hb6 := below_set (b := w3.heap.size) (i := 0) (s := none) (u := .int .i64 ((f0 : Int) + sB.size - x.text.size)) (by omega) hb
            clear y0 z0 z1 z2 y9 HBy k0 k1 fz0 fz1 lz m9 HK hb
            refine CallsIn.mono (F := Fence.wide) (callsIn_wide.2 (HA.out _ HK6.out).2.2.2.2.2) ?_
            rintro e w6 ⟨rfl, hb7⟩
            have m9 := m6.below hb7 m6.lt
            have HK := hidden (HK6.out.below hb7)
            have hb := hb6.trans (hb7.mono hb6.size)
            clear m6 HK6 hb6 hb7
            have k0 : w6.cell? ⟨w3.heap.size, 0, none⟩ = some (.int .i64 ((f0 : Int) + sB.size - x.text.size)) := m9.cell 0
            have k1 : w6.cell? ⟨w3.heap.size, 1, none⟩ = some (.int .i64 sb) := m9.cell 1
            have fz0 := m9.frozen 0; have fz1 := m9.frozen 1; have lz := m9.lt
            obtain ⟨y0, z0, z1, z2, y9, hby⟩ := HA.out w6 HK.out
            have HBy := hidden hby
            clear hby
            gi_wp2_with fail
            have m6 := m9.set 1 (.int .i64 ((f0 : Int) + sB.size))
            have HK6 := hidden (keeps_set (b := w3.heap.size) (i := 1) (s := none) (u := .int .i64 ((f0 : Int) + sB.size)) (by omega) HK.out)
            have hb6 := below_set (b := w3.heap.size) (i := 1) (s := none) (u := .int .i64 ((f0 : Int) + sB.size)) (by omega) hb
            clear y0 z0 z1 z2 y9 HBy k0 k1 fz0 fz1 lz m9 HK hb
            refine CallsIn.mono (F := Fence.wide) (callsIn_wide.2 (HA.out _ HK6.out).2.2.2.2.2) ?_
            rintro e w7 ⟨rfl, hb7⟩
            have m7 := m6.below hb7 m6.lt
            have HK7 := hidden (HK6.out.below hb7)
            have hb8 := hb6.trans (hb7.mono hb6.size)
            clear m6 HK6 hb6 hb7
            gi_wp2
            go_roundw
            case rel => exact ⟨k + 1, by omega, by go_num, by rw [HF1.out], by rw [HSn.out, hs.out], by rw [HSn.out, hs.out]; exact m7.of_eq (by dsimp only; rw [HF1.out, HOw.out]; rfl), HK7, hb8⟩
            case measure => simp [intOf]; omega
          | true =>
            have d1 : decide (I ≤ nd) = true := decide_eq_true (by omega)
            have d2 : decide (nd < I + z) = true := decide_eq_true (by omega)
            have d3 : decide (nd < I) = false := decide_eq_false (by omega)
            have d4 : decide ((I : Int) ≤ nd) = true := decide_eq_true (by omega)
            have d5 : decide ((nd : Int) < I + z) = true := decide_eq_true (by omega)
            have hs : Hid (sn = (sa, fromY t (leavesOf t) (k + 1), true)) := hidden (by rw [HSt.out, if_neg e1, if_neg e2]; rfl)
            obtain ⟨y0, z0, z1, z2, y9, hby⟩ := HA.out wr HK.out
            have HBy := hidden hby
            clear hby
            have ya := Ext.cell y0; have yb := Ext.cell y9
            gi_wp2
            refine wpIn_region_ext (by kernel_rfl) (by kernel_rfl) rfl ?_
            repeat (gi_big_quiet_step (fail))
            refine wpQuietIn_nil ?_
            intro w4 hb4
            clear ya yb
            replace m9 := m9.below hb4 m9.lt
            replace HK := hidden (HK.out.below hb4)
            replace hb := hb.trans (hb4.mono hb.size)
            clear y0 z0 z1 z2 y9 HBy
            clear hb4
            obtain ⟨y0, z0, z1, z2, y9, hby⟩ := HA.out w4 HK.out
            have HBy := hidden hby
            clear hby
            gi_wp2_with fail
            refine CallsIn.mono (F := Fence.wide) (callsIn_wide.2 HBy.out) ?_
            rintro e w5 ⟨rfl, hb5⟩
            replace m9 := m9.below hb5 m9.lt
            replace HK := hidden (HK.out.below hb5)
            replace hb := hb.trans (hb5.mono hb.size)
            clear y0 z0 z1 z2 y9 HBy
            clear hb5
            have k0 : w5.cell? ⟨w3.heap.size, 0, none⟩ = some (.int .i64 sa) := m9.cell 0
            have k1 : w5.cell? ⟨w3.heap.size, 1, none⟩ = some (.int .i64 sb) := m9.cell 1
            have fz0 := m9.frozen 0; have fz1 := m9.frozen 1; have lz := m9.lt
            obtain ⟨y0, z0, z1, z2, y9, hby⟩ := HA.out w5 HK.out
            have HBy := hidden hby
            clear hby
            gi_wp2_with fail
            have m6 := m9.set 1 (.int .i64 ((f0 : Int) + sB.size))
            have HK6 := hidden (keeps_set (b := w3.heap.size) (i := 1) (s := none) (u := .int .i64 ((f0 : Int) + sB.size)) (by omega) HK.out)
            have hb6 := below_set (b := w3.heap.size) (i := 1) (s := none) (u := .int .i64 ((f0 : Int) + sB.size)) (by omega) hb
            clear y0 z0 z1 z2 y9 HBy k0 k1 fz0 fz1 lz m9 HK hb
            refine CallsIn.mono (F := Fence.wide) (callsIn_wide.2 (HA.out _ HK6.out).2.2.2.2.2) ?_
            rintro e w7 ⟨rfl, hb7⟩
            have m7 := m6.below hb7 m6.lt
            have HK7 := hidden (HK6.out.below hb7)
            have hb8 := hb6.trans (hb7.mono hb6.size)
            clear m6 HK6 hb6 hb7
            gi_wp2
            go_roundw
            case rel => exact ⟨k + 1, by omega, by go_num, by rw [HF1.out], by rw [HSn.out, hs.out], by rw [HSn.out, hs.out]; exact m7.of_eq (by dsimp only; rw [HF1.out]; rfl), HK7, hb8⟩
            case measure => simp [intOf]; omega
    · obtain rfl : k = (leavesOf t).length := by omega
      generalize spanP t I (sz t I) (List.range (leavesOf t).length) = s1 at *
      obtain ⟨sa, sb, sm⟩ := s1
      dsimp only at m9 HS
      have k0 : wr.cell? ⟨w3.heap.size, 0, none⟩ = some (.int .i64 sa) := m9.cell 0
      have k1 : wr.cell? ⟨w3.heap.size, 1, none⟩ = some (.int .i64 sb) := m9.cell 1
      have r0 := HK.out.holds (g := w.heap.size) hz HG0.out
      have j0 : wr.cell? ⟨w.heap.size, 0, none⟩ = some (.int .i64 0) := r0.cell 0
      have j1 : wr.cell? ⟨w.heap.size, 1, none⟩ = some (.int .i64 0) := r0.cell 1
      have fz0 := r0.frozen 0; have fz1 := r0.frozen 1; have lz := r0.lt
      gi_wp2
      have r1 := (r0.set 0 (.int .i64 sa)).set 1 (.int .i64 sb)
      have e0 : ((wr.setCell ⟨w.heap.size, 0, none⟩ (.int .i64 sa)).setCell ⟨w.heap.size, 1, none⟩ (.int .i64 sb)).cell? ⟨w.heap.size, 0, none⟩ = some (.int .i64 sa) := r1.cell 0
      have e1 : ((wr.setCell ⟨w.heap.size, 0, none⟩ (.int .i64 sa)).setCell ⟨w.heap.size, 1, none⟩ (.int .i64 sb)).cell? ⟨w.heap.size, 1, none⟩ = some (.int .i64 sb) := r1.cell 1
      exact bodyPost_ret (v := .tuple #[.agg #[.int .i64 sa, .int .i64 sb], .bool true]) (by simp [results, Try.f23, go_sem, e0, e1]) rfl ⟨by rw [HS.out], (hb.setCell (p := ⟨_, _, none⟩) (Nat.le_refl _) _).setCell (p := ⟨_, _, none⟩) (Nat.le_refl _) _⟩

set_option maxRecDepth 20000 in
set_option maxHeartbeats 4000000 in
theorem ref_span_no (v : Value) (t : List Node) (i : Int) (w : World) (h4 : bulkT t ≤ 1000000000) (hN : Nds w (Old w) v t) (hp : placeB t i = false) :
    Calls Try.prog 23 #[v, .int .i64 i] w fun r w' => r = .returned (.tuple #[.agg #[.int .i64 0, .int .i64 0], .bool false]) ∧ Below w.heap.size w w' := by
  have h5 := bulk_len t
  have HR := hidden (fun (w' : World) (hb : Below w.heap.size w w') => ref_right v t w' (by omega) (hN.old hb))
  obtain ⟨A, c, rfl, hc1, hc2⟩ := hN.value
  unfold maxLen at hc2
  have HC : treeB t = false ∨ (treeB t = true ∧ i < 0) ∨ (treeB t = true ∧ 0 ≤ i ∧ (t.length : Int) ≤ i) := by
    cases ht : treeB t with
    | false => exact .inl rfl
    | true =>
      by_cases a : i < 0
      · exact .inr (.inl ⟨rfl, a⟩)
      · by_cases b : (t.length : Int) ≤ i
        · exact .inr (.inr ⟨rfl, by omega, b⟩)
        · rw [placeB_iff.2 ⟨by omega, by omega, treeB_iff.1 ht⟩] at hp; cases hp
  clear hp hN
  rcases HC with a | ⟨ht, a⟩ | ⟨ht, a, b⟩
  all_goals
    first | rw [a] at HR | rw [ht] at HR
    first | clear ht | skip
  · clear a
    refine (callsIn_wide (n := 5)).1 ?_
    refine callsIn_of_wp Try.func23 rfl trivial ?_ rfl
    simp only [Try.ntmps23, List.size_toArray, List.length_cons, List.length_nil, Nat.reduceAdd, Nat.reduceSub, Array.replicate_succ, Array.replicate_zero, List.push_toArray, List.append_toArray, List.nil_append, List.cons_append]
    gi_wp2_with fail
    refine CallsIn.mono (F := Fence.wide) (callsIn_wide.2 (HR.out _ (by repeat (first | (with_reducible exact Below.refl _ _) | (with_reducible assumption) | (with_reducible refine Below.drew ?_) | ((with_reducible refine below_alloc ?_ ?_); (focus (first | omega | (simp; done) | (simp; omega)))) | ((with_reducible refine below_set ?_ ?_); (focus (first | omega | (simp; done) | (simp; omega)))))))) ?_
    rintro e w1 ⟨rfl, hb1⟩
    have r0 := Holds.below (g := w.heap.size) (t := 37) (cs := #[.int .i64 0, .int .i64 0]) (by repeat (first | (with_reducible assumption) | ((with_reducible refine holds_new ?_); (focus (first | rfl | (simp; done)))) | (with_reducible refine Holds.alloc ?_ _) | (with_reducible refine Holds.drew ?_))) hb1 (by simp)
    have hb := Below.trans (B := w.heap.size) (a := w) (by repeat (first | (with_reducible exact Below.refl _ _) | (with_reducible assumption) | (with_reducible refine Below.drew ?_) | ((with_reducible refine below_alloc ?_ ?_); (focus (first | omega | (simp; done) | (simp; omega)))) | ((with_reducible refine below_set ?_ ?_); (focus (first | omega | (simp; done) | (simp; omega)))))) (hb1.mono (by simp))
    have j0 : w1.cell? ⟨w.heap.size, 0, none⟩ = some (.int .i64 0) := r0.cell 0
    have j1 : w1.cell? ⟨w.heap.size, 1, none⟩ = some (.int .i64 0) := r0.cell 1
    have fz0 := r0.frozen 0; have fz1 := r0.frozen 1; have lz := r0.lt
    clear hb1 HR
    gi_wp2
    have r1 := (r0.set 0 (.int .i64 0)).set 1 (.int .i64 0)
    have e0 : ((w1.setCell ⟨w.heap.size, 0, none⟩ (.int .i64 0)).setCell ⟨w.heap.size, 1, none⟩ (.int .i64 0)).cell? ⟨w.heap.size, 0, none⟩ = some (.int .i64 0) := r1.cell 0
    have e1 : ((w1.setCell ⟨w.heap.size, 0, none⟩ (.int .i64 0)).setCell ⟨w.heap.size, 1, none⟩ (.int .i64 0)).cell? ⟨w.heap.size, 1, none⟩ = some (.int .i64 0) := r1.cell 1
    exact bodyPost_ret (v := .tuple #[.agg #[.int .i64 0, .int .i64 0], .bool false]) (by simp [results, Try.f23, go_sem, e0, e1]) rfl ⟨rfl, (hb.setCell (p := ⟨_, _, none⟩) (Nat.le_refl _) _).setCell (p := ⟨_, _, none⟩) (Nat.le_refl _) _⟩
  · refine (callsIn_wide (n := 5)).1 ?_
    refine callsIn_of_wp Try.func23 rfl trivial ?_ rfl
    simp only [Try.ntmps23, List.size_toArray, List.length_cons, List.length_nil, Nat.reduceAdd, Nat.reduceSub, Array.replicate_succ, Array.replicate_zero, List.push_toArray, List.append_toArray, List.nil_append, List.cons_append]
    gi_wp2_with fail
    refine CallsIn.mono (F := Fence.wide) (callsIn_wide.2 (HR.out _ (by repeat (first | (with_reducible exact Below.refl _ _) | (with_reducible assumption) | (with_reducible refine Below.drew ?_) | ((with_reducible refine below_alloc ?_ ?_); (focus (first | omega | (simp; done) | (simp; omega)))) | ((with_reducible refine below_set ?_ ?_); (focus (first | omega | (simp; done) | (simp; omega)))))))) ?_
    rintro e w1 ⟨rfl, hb1⟩
    have r0 := Holds.below (g := w.heap.size) (t := 37) (cs := #[.int .i64 0, .int .i64 0]) (by repeat (first | (with_reducible assumption) | ((with_reducible refine holds_new ?_); (focus (first | rfl | (simp; done)))) | (with_reducible refine Holds.alloc ?_ _) | (with_reducible refine Holds.drew ?_))) hb1 (by simp)
    have hb := Below.trans (B := w.heap.size) (a := w) (by repeat (first | (with_reducible exact Below.refl _ _) | (with_reducible assumption) | (with_reducible refine Below.drew ?_) | ((with_reducible refine below_alloc ?_ ?_); (focus (first | omega | (simp; done) | (simp; omega)))) | ((with_reducible refine below_set ?_ ?_); (focus (first | omega | (simp; done) | (simp; omega)))))) (hb1.mono (by simp))
    have j0 : w1.cell? ⟨w.heap.size, 0, none⟩ = some (.int .i64 0) := r0.cell 0
    have j1 : w1.cell? ⟨w.heap.size, 1, none⟩ = some (.int .i64 0) := r0.cell 1
    have fz0 := r0.frozen 0; have fz1 := r0.frozen 1; have lz := r0.lt
    clear hb1 HR
    gi_wp2
    have r1 := (r0.set 0 (.int .i64 0)).set 1 (.int .i64 0)
    have e0 : ((w1.setCell ⟨w.heap.size, 0, none⟩ (.int .i64 0)).setCell ⟨w.heap.size, 1, none⟩ (.int .i64 0)).cell? ⟨w.heap.size, 0, none⟩ = some (.int .i64 0) := r1.cell 0
    have e1 : ((w1.setCell ⟨w.heap.size, 0, none⟩ (.int .i64 0)).setCell ⟨w.heap.size, 1, none⟩ (.int .i64 0)).cell? ⟨w.heap.size, 1, none⟩ = some (.int .i64 0) := r1.cell 1
    exact bodyPost_ret (v := .tuple #[.agg #[.int .i64 0, .int .i64 0], .bool false]) (by simp [results, Try.f23, go_sem, e0, e1]) rfl ⟨rfl, (hb.setCell (p := ⟨_, _, none⟩) (Nat.le_refl _) _).setCell (p := ⟨_, _, none⟩) (Nat.le_refl _) _⟩
  · have b2 : decide (i < (t.length : Int)) = false := decide_eq_false (by omega)
    refine (callsIn_wide (n := 5)).1 ?_
    refine callsIn_of_wp Try.func23 rfl trivial ?_ rfl
    simp only [Try.ntmps23, List.size_toArray, List.length_cons, List.length_nil, Nat.reduceAdd, Nat.reduceSub, Array.replicate_succ, Array.replicate_zero, List.push_toArray, List.append_toArray, List.nil_append, List.cons_append]
    gi_wp2_with fail
    refine CallsIn.mono (F := Fence.wide) (callsIn_wide.2 (HR.out _ (by repeat (first | (with_reducible exact Below.refl _ _) | (with_reducible assumption) | (with_reducible refine Below.drew ?_) | ((with_reducible refine below_alloc ?_ ?_); (focus (first | omega | (simp; done) | (simp; omega)))) | ((with_reducible refine below_set ?_ ?_); (focus (first | omega | (simp; done) | (simp; omega)))))))) ?_
    rintro e w1 ⟨rfl, hb1⟩
    have r0 := Holds.below (g := w.heap.size) (t := 37) (cs := #[.int .i64 0, .int .i64 0]) (by repeat (first | (with_reducible assumption) | ((with_reducible refine holds_new ?_); (focus (first | rfl | (simp; done)))) | (with_reducible refine Holds.alloc ?_ _) | (with_reducible refine Holds.drew ?_))) hb1 (by simp)
    have hb := Below.trans (B := w.heap.size) (a := w) (by repeat (first | (with_reducible exact Below.refl _ _) | (with_reducible assumption) | (with_reducible refine Below.drew ?_) | ((with_reducible refine below_alloc ?_ ?_); (focus (first | omega | (simp; done) | (simp; omega)))) | ((with_reducible refine below_set ?_ ?_); (focus (first | omega | (simp; done) | (simp; omega)))))) (hb1.mono (by simp))
    have j0 : w1.cell? ⟨w.heap.size, 0, none⟩ = some (.int .i64 0) := r0.cell 0
    have j1 : w1.cell? ⟨w.heap.size, 1, none⟩ = some (.int .i64 0) := r0.cell 1
    have fz0 := r0.frozen 0; have fz1 := r0.frozen 1; have lz := r0.lt
    clear hb1 HR
    gi_wp2
    have r1 := (r0.set 0 (.int .i64 0)).set 1 (.int .i64 0)
    have e0 : ((w1.setCell ⟨w.heap.size, 0, none⟩ (.int .i64 0)).setCell ⟨w.heap.size, 1, none⟩ (.int .i64 0)).cell? ⟨w.heap.size, 0, none⟩ = some (.int .i64 0) := r1.cell 0
    have e1 : ((w1.setCell ⟨w.heap.size, 0, none⟩ (.int .i64 0)).setCell ⟨w.heap.size, 1, none⟩ (.int .i64 0)).cell? ⟨w.heap.size, 1, none⟩ = some (.int .i64 0) := r1.cell 1
    exact bodyPost_ret (v := .tuple #[.agg #[.int .i64 0, .int .i64 0], .bool false]) (by simp [results, Try.f23, go_sem, e0, e1]) rfl ⟨rfl, (hb.setCell (p := ⟨_, _, none⟩) (Nat.le_refl _) _).setCell (p := ⟨_, _, none⟩) (Nat.le_refl _) _⟩
end Go.Proofs.Ytihblifkbljgaaa
