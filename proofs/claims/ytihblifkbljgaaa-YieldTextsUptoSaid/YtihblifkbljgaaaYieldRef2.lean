/-
  The document's text of a tree, and the node of a byte.
-/
import Derived.Test.YtihblifkbljgaaaYieldRef
namespace Go.Proofs.Ytihblifkbljgaaa
open Go.RowKit Go.Shelf

theorem wordsOf_len (t : List Node) : (wordsOf t).length = (leavesOf t).length := by unfold wordsOf; rw [List.length_map]
theorem nodeY_at {t : List Node} {k : Nat} (h : k < (leavesOf t).length) : (wordsOf t)[k]? = some (leafAt t (nodeY t k)) ∧ nodeY t k < t.length ∧ fromY t (leavesOf t) (k + 1) = fromY t (leavesOf t) k + wordLen (leafAt t (nodeY t k)) ∧ fromY t (leavesOf t) (k + 1) ≤ bulkT t ∧ (leavesOf t)[k]? = some (nodeY t k) := by
  have hi := List.getElem?_eq_getElem h
  have e := nodeY_of hi
  rw [← e] at hi
  exact ⟨wordsOf_at hi, leavesOf_lt t _ (List.mem_of_getElem? hi), fromY_succ hi, fromY_le t h, hi⟩
theorem textL_range_len (t : List Node) : ∀ k, k ≤ (leavesOf t).length → (textL t (List.range k)).length = fromY t (leavesOf t) k := by
  intro k
  induction k with
  | zero => intro _; rfl
  | succ k ih =>
    intro h
    rw [List.range_succ, textL_snoc, List.length_append, wordBytes_len, ih (by omega), (nodeY_at (by omega)).2.2.1]

/-- A word of words that are read. -/
theorem word_cells {w : World} {T : Nat → Prop} {A : Option Addr} {n c : Nat} {t : List Node} (h : Recs wordR w T (.slice A n c) (wordsOf t)) {k : Nat} (hk : k < (leavesOf t).length) :
    ∃ b off l, A = some ⟨b, off, none⟩ ∧ w.cell? ⟨b, off + k * 3, none⟩ = some l ∧ w.cell? ⟨b, off + k * 3 + 1, none⟩ = some (.int .i64 (leafAt t (nodeY t k)).n) ∧ w.cell? ⟨b, off + k * 3 + 2, none⟩ = some (.string (leafAt t (nodeY t k)).text) ∧ Pcs w T l (leafAt t (nodeY t k)).lead ∧ T b := by
  obtain ⟨b, off, l, rfl, hT, hc, hP⟩ := h.at_ (nodeY_at hk).1
  exact ⟨b, off, l, rfl, hc 0 _ rfl, hc 1 _ rfl, hc 2 _ rfl, hP, hT⟩

set_option maxRecDepth 20000 in
set_option maxHeartbeats 4000000 in
theorem ref_text (v : Value) (t : List Node) (w : World) (h4 : bulkT t ≤ 1000000000) (hN : Nds w (Old w) v t) :
    Calls Try.prog 42 #[v] w fun r w' => r = .returned (.string (catB (textOf t))) ∧ Below w.heap.size w w' := by
  have h5 := bulk_len t
  have HW := hidden (ref_words v t w (by omega) hN)
  have hll : (leavesOf t).length ≤ t.length := leavesTo_len t t.length
  have HLen := hidden (fun k (h : k ≤ (leavesOf t).length) => textL_range_len t k h)
  have HNY := hidden (fun k (h : k < (leavesOf t).length) => nodeY_at (t := t) h)
  have HB := hidden (fun k (h : k < t.length) => bulk_at (List.getElem?_eq_getElem h))
  obtain ⟨A, c, rfl, hc1, hc2⟩ := hN.value
  unfold maxLen at hc2
  clear hN
  go_enter Try.func42, Try.ntmps42
  go_wp2_with fail
  refine HW.out.mono ?_
  rintro r w2 ⟨⟨u, rfl, HO⟩, hb⟩
  have HR := hidden (HO.out.recs (fun k (hk : k < w.heap.size) => Nat.lt_of_lt_of_le hk hb.size))
  obtain ⟨A2, c2, rfl, hd1, hd2⟩ := HR.out.value
  rw [wordsOf_len] at *
  unfold maxLen at hd2
  have hz := hb.size
  clear HO HW
  go_wp2
  go_loopw [3, 5] (fun s i wr => ∃ k : Nat, k ≤ (leavesOf t).length ∧ i = .int .i64 k ∧ s = .string (catB (textL t (List.range k))) ∧ Hid (Recs wordR wr (Old w2) (.slice A2 (leavesOf t).length c2) (wordsOf t)) ∧ Below w.heap.size w wr ∧ w2.heap.size ≤ wr.heap.size) (fun _ i _ => (leavesOf t).length - (intOf i).toNat)
  case atStart => exact ⟨0, by omega, rfl, rfl, HR, hb, Nat.le_refl _⟩
  case round =>
    clear HR hb
    obtain ⟨k, hk, rfl, rfl, HR, hb, hzr⟩ := hrel
    have hbz := hb.size
    by_cases hlt : k < (leavesOf t).length
    · obtain ⟨b, off, l, rfl, z0, z1, z2, hP, hTb⟩ := word_cells HR.out hlt
      obtain ⟨n1, n2, n3, n4, n5⟩ := HNY.out k hlt
      have hx : (catB (textL t (List.range k))).size = fromY t (leavesOf t) k := by rw [catB_size]; exact HLen.out k hk
      have HTx : Hid (catB (textL t (List.range (k + 1))) = catB (textL t (List.range k)) ++ catB (wordBytes (leafAt t (nodeY t k)))) := hidden (by rw [List.range_succ, textL_snoc, catB_cat])
      have hwl : (catB (wordBytes (leafAt t (nodeY t k)))).size = wordLen (leafAt t (nodeY t k)) := by rw [catB_size, wordBytes_len]
      have HBy := hidden (ref_bytes (leafAt t (nodeY t k)) l wr (Rd.mono hP (fun j hj => Nat.lt_of_lt_of_le (show j < w2.heap.size from hj) hzr)) (by omega))
      obtain ⟨A3, c3, rfl, _, _⟩ := hP.value
      have HRb := hidden (fun w' (h : Below wr.heap.size wr w') => HR.out.keeps (Keeps.of_below h))
      have hq : (catB (textL t (List.range k))).size + (catB (wordBytes (leafAt t (nodeY t k)))).size ≤ 1000000000000 := by omega
      clear n1 n5 hP HR hwl hx
      generalize catB (textL t (List.range k)) = s at *
      generalize catB (wordBytes (leafAt t (nodeY t k))) = s2 at *
      generalize leafAt t (nodeY t k) = x at *
      go_wp2_with fail
      refine HBy.out.mono ?_
      rintro r w3 ⟨rfl, hb3⟩
      have HR3 := hidden (HRb.out _ hb3)
      replace hb := hb.trans (hb3.mono hbz)
      have hz3 := hb3.size
      clear hb3 HRb HBy z0 z1 z2
      go_wp2
      go_roundw
      case rel => exact ⟨k + 1, by omega, by go_num, by rw [HTx.out], HR3, hb, by omega⟩
      case measure => simp [intOf]; omega
    · obtain rfl : k = (leavesOf t).length := by omega
      go_wp2
      go_ret
      exact ⟨rfl, hb⟩

set_option maxRecDepth 20000 in
set_option maxHeartbeats 4000000 in
theorem ref_find (v : Value) (t : List Node) (at_ : Int) (w : World) (h4 : bulkT t ≤ 1000000000) (hN : Nds w (Old w) v t) :
    Calls Try.prog 25 #[v, .int .i64 at_] w fun r w' => r = .returned (.int .i64 (findOf t at_)) ∧ Below w.heap.size w w' := by
  have h5 := bulk_len t
  have HL := hidden (ref_leaves v t w (by omega) hN)
  have HW := hidden (fun (w' : World) (hb : Below w.heap.size w w') => ref_words v t w' (by omega) (hN.old hb))
  have hll : (leavesOf t).length ≤ t.length := leavesTo_len t t.length
  have HNY := hidden (fun k (h : k < (leavesOf t).length) => nodeY_at (t := t) h)
  obtain ⟨A, c, rfl, hc1, hc2⟩ := hN.value
  unfold maxLen at hc2
  clear hN
  go_enter Try.func25, Try.ntmps25
  go_wp2_with fail
  refine HL.out.mono ?_
  rintro r w1 ⟨⟨u1, rfl, HM⟩, hb1⟩
  obtain ⟨A1, c1, rfl⟩ := HM.out.value
  have HRL := HM.out.rd (T := Old w1) (fun _ _ _ h => h)
  obtain ⟨A1', c1', hvv, hl1, hl2⟩ := HRL.valR
  simp only [Value.slice.injEq] at hvv
  obtain ⟨rfl, _, rfl⟩ := hvv
  unfold maxLen at hl2
  have hz1 := hb1.size
  go_wp2_with fail
  refine (HW.out _ hb1).mono ?_
  rintro r w2 ⟨⟨u, rfl, HO⟩, hb2⟩
  have hb := hb1.trans (hb2.mono hz1)
  have hz2 := hb2.size
  have HR := hidden (HO.out.recs (fun k (hk : k < w1.heap.size) => Nat.lt_of_lt_of_le hk hb2.size))
  have HI := hidden ((Rd.keeps HRL (Keeps.of_below hb2)).mono (T' := Old w2) (fun k (hk : k < w1.heap.size) => Nat.lt_of_lt_of_le hk hb2.size))
  obtain ⟨A2, c2, rfl, hd1, hd2⟩ := HR.out.value
  rw [wordsOf_len] at *
  unfold maxLen at hd2
  have hz := hb.size
  clear HO HW HL HM HRL hb1 hb2
  go_wp2
  go_loopw [7, 8] (fun e i wr => ∃ k : Nat, k ≤ (leavesOf t).length ∧ i = .int .i64 k ∧ e = .int .i64 (fromY t (leavesOf t) k : Nat) ∧ Hid (∀ j, j < k → ¬ hitY t at_ j) ∧ Hid (Recs wordR wr (Old w2) (.slice A2 (leavesOf t).length c2) (wordsOf t)) ∧ Hid (Rd wr (Old w2) 1 (.slice A1 (leavesOf t).length c1) (leavesOf t).length (ints (leavesOf t))) ∧ Below w.heap.size w wr ∧ w2.heap.size ≤ wr.heap.size) (fun _ i _ => (leavesOf t).length - (intOf i).toNat)
  case atStart => exact ⟨0, by omega, rfl, rfl, hidden (fun j h => by omega), HR, HI, hb, Nat.le_refl _⟩
  case round =>
    clear HR HI hb
    obtain ⟨k, hk, rfl, rfl, HMs, HR, HI, hb, hzr⟩ := hrel
    have hbz := hb.size
    by_cases hlt : k < (leavesOf t).length
    · obtain ⟨b, off, l, rfl, z0, z1, z2, hP, hTb⟩ := word_cells HR.out hlt
      obtain ⟨n1, n2, n3, n4, n5⟩ := HNY.out k hlt
      obtain ⟨b1, o1, rfl, hTb1, y0⟩ := HI.out.ints_at n5
      have hwl : (catB (wordBytes (leafAt t (nodeY t k)))).size = wordLen (leafAt t (nodeY t k)) := by rw [catB_size, wordBytes_len]
      have HBy := hidden (ref_bytes (leafAt t (nodeY t k)) l wr (Rd.mono hP (fun j hj => Nat.lt_of_lt_of_le (show j < w2.heap.size from hj) hzr)) (by omega))
      obtain ⟨A3, c3, rfl, _, _⟩ := hP.value
      have HRb := hidden (fun w' (h : Below wr.heap.size wr w') => HR.out.keeps (Keeps.of_below h))
      have HIb := hidden (fun w' (h : Below wr.heap.size wr w') => HI.out.keeps (Keeps.of_below h))
      have HH := hidden (show hitY t at_ k ↔ ((fromY t (leavesOf t) k : Nat) : Int) ≤ at_ ∧ at_ < ((fromY t (leavesOf t) (k + 1) : Nat) : Int) from Iff.rfl)
      have HF := hidden (fun h => findY_hit (t := t) (at_ := at_) (x := k) h (List.range k) ((List.range ((leavesOf t).length - (k + 1))).map (k + 1 + ·)) (fun j hj => HMs.out j (List.mem_range.1 hj)))
      have HRg : Hid (List.range (leavesOf t).length = List.range k ++ k :: (List.range ((leavesOf t).length - (k + 1))).map (k + 1 + ·)) := hidden (by
        have : (leavesOf t).length = (k + 1) + ((leavesOf t).length - (k + 1)) := by omega
        conv => lhs; rw [this, List.range_add, List.range_succ]
        rw [List.append_assoc, List.singleton_append])
      have HK : Hid (¬ hitY t at_ k → ∀ j, j < k + 1 → ¬ hitY t at_ j) := hidden (fun h j hj => by
        by_cases e : j = k
        · rw [e]; exact h
        · exact HMs.out j (by omega))
      have HB := hidden hb
      clear n1 n5 hP HR HI hb HMs
      have HN1 := hidden n3
      have hf1 : ((fromY t (leavesOf t) (k + 1) : Nat) : Int) = (fromY t (leavesOf t) k : Nat) + ((catB (wordBytes (leafAt t (nodeY t k)))).size : Nat) := by omega
      have HF1 := hidden hf1
      have hq : (catB (wordBytes (leafAt t (nodeY t k)))).size ≤ 1000000000000 := by omega
      have hq2 : fromY t (leavesOf t) k + (catB (wordBytes (leafAt t (nodeY t k)))).size ≤ 1000000000000 := by omega
      generalize catB (wordBytes (leafAt t (nodeY t k))) = s2 at *
      generalize fromY t (leavesOf t) k = f0 at *
      generalize leafAt t (nodeY t k) = x at *
      have HNd : Hid (∃ y, y = nodeY t k) := hidden ⟨_, rfl⟩
      generalize hnd : nodeY t k = nd at *
      clear hnd hwl n3 n2 hf1
      by_cases a1 : (f0 : Int) ≤ at_
      · by_cases a2 : at_ < (f0 : Int) + s2.size
        · have HE : Hid (findOf t at_ = (nd : Int)) := hidden (by
            unfold findOf
            rw [HRg.out]
            exact HF.out (HH.out.2 ⟨a1, by have := HF1.out; omega⟩))
          go_wp2_with fail
          refine HBy.out.mono ?_
          rintro r w3 ⟨rfl, hb3⟩
          have y1 := (hb3.cell (p := ⟨b1, o1 + k, none⟩) (by have : b1 < w2.heap.size := hTb1; show b1 < _; omega)).trans y0
          have hbb := HB.out.trans (hb3.mono HB.out.size)
          clear hb3 HRb HIb HBy z0 z1 z2 y0
          go_wp2
          go_ret
          exact ⟨by rw [HE.out]; rfl, hbb⟩
        · have HM2 := hidden (HK.out (fun h => a2 (by have := (HH.out.1 h).2; have := HF1.out; omega)))
          have a3 : decide (at_ < (f0 : Int) + s2.size) = false := decide_eq_false a2
          go_wp2_with fail
          refine HBy.out.mono ?_
          rintro r w3 ⟨rfl, hb3⟩
          have HR3 := hidden (HRb.out _ hb3); have HI3 := hidden (HIb.out _ hb3)
          have hbb := HB.out.trans (hb3.mono HB.out.size)
          have hz3 := hb3.size
          clear hb3 HRb HIb HBy z0 z1 z2 y0
          go_wp2
          go_roundw
          case rel => exact ⟨k + 1, by omega, by go_num, by rw [HF1.out], HM2, HR3, HI3, hbb, by omega⟩
          case measure => simp [intOf]; omega
      · have HM2 := hidden (HK.out (fun h => a1 (HH.out.1 h).1))
        have a3 : decide ((f0 : Int) ≤ at_) = false := decide_eq_false a1
        go_wp2_with fail
        refine HBy.out.mono ?_
        rintro r w3 ⟨rfl, hb3⟩
        have HR3 := hidden (HRb.out _ hb3); have HI3 := hidden (HIb.out _ hb3)
        have hbb := HB.out.trans (hb3.mono HB.out.size)
        have hz3 := hb3.size
        clear hb3 HRb HIb HBy z0 z1 z2 y0
        go_wp2
        go_roundw
        case rel => exact ⟨k + 1, by omega, by go_num, by rw [HF1.out], HM2, HR3, HI3, hbb, by omega⟩
        case measure => simp [intOf]; omega
    · obtain rfl : k = (leavesOf t).length := by omega
      have HE : Hid (findOf t at_ = -1) := hidden (findY_miss _ (fun j hj => HMs.out j (List.mem_range.1 hj)))
      go_wp2
      go_ret
      exact ⟨by rw [HE.out]; rfl, hb⟩
end Go.Proofs.Ytihblifkbljgaaa
