/-
  Leaves, of both.
-/
import Derived.Test.YtihblifkbljgaaaTreePlace
namespace Go.Proofs.Ytihblifkbljgaaa
open Go.RowKit Go.Shelf

def isText (t : List Node) (i : Nat) : Bool := match t[i]? with | some x => decide (textedK x.kind) | none => false
/-- The places ahead of k of what has a text. -/
def texts (t : List Node) (k : Nat) : List Nat := (List.range k).filter (isText t)
noncomputable def leavesTo (t : List Node) (k : Nat) : List Nat := if treeB t then texts t k else []
noncomputable def leavesOf (t : List Node) : List Nat := leavesTo t t.length
theorem texts_len (t : List Node) (k : Nat) : (texts t k).length ≤ k := by
  unfold texts
  exact Nat.le_trans (List.length_filter_le _ _) (by simp)
theorem leavesTo_len (t : List Node) (k : Nat) : (leavesTo t k).length ≤ k := by
  unfold leavesTo
  split
  · exact texts_len t k
  · simp
theorem texts_succ (t : List Node) (k : Nat) : texts t (k + 1) = texts t k ++ if isText t k then [k] else [] := by
  unfold texts
  rw [List.range_succ, List.filter_append]
  simp [List.filter_cons]
theorem leavesTo_succ (t : List Node) (k : Nat) : leavesTo t (k + 1) = leavesTo t k ++ if isText t k && treeB t then [k] else [] := by
  unfold leavesTo
  by_cases h : treeB t = true
  · rw [if_pos h, if_pos h, texts_succ, h, Bool.and_true]
  · rw [if_neg h, if_neg h]
    simp at h
    simp [h]
theorem ints_snoc (l : List Nat) (k : Nat) : ints (l ++ [k]) = ints l ++ [.int .i64 (k : Int)] := by simp [ints]

theorem ref_texted (kd : Int) (w : World) : Calls Try.prog 27 #[.int .i64 kd] w fun r w' => r = .returned (.bool (decide (textedK kd))) ∧ w = w' := by
  go_enter Try.func27, Try.ntmps27
  go_wp2
  all_goals
    go_ret
    exact ⟨ret_bool (by rw [Bool.eq_iff_iff]; simp [textedK, *]), rfl⟩

theorem int_info : Hid (IntInfo Try.prog 3) := hidden (info_parts (show (Try.prog.info? 3).map (fun i => (i.zero, i.size, i.bytes)) = some (some (.int .i64 0), 1, 8) by kernel_rfl))

set_option maxRecDepth 20000 in
set_option maxHeartbeats 4000000 in
theorem ref_leaves (v : Value) (t : List Node) (w : World) (h4 : t.length ≤ 140737488355) (hN : Nds w (Old w) v t) :
    Calls Try.prog 29 #[v] w fun r w' => (∃ u, r = .returned u ∧ Hid (Mine w' w.heap.size 3 1 u (leavesOf t).length (ints (leavesOf t)))) ∧ Below w.heap.size w w' := by
  have HN := hidden hN
  obtain ⟨A, c, rfl, hc1, hc2⟩ := hN.value
  unfold maxLen at hc2
  clear hN
  have HI := int_info
  go_enter Try.func29, Try.ntmps29
  go_wp2
  go_loopw [3, 4] (fun l i wr => ∃ k : Nat, k ≤ t.length ∧ i = .int .i64 k ∧ Hid (Mine wr w.heap.size 3 1 l (leavesTo t k).length (ints (leavesTo t k))) ∧ Below w.heap.size w wr) (fun _ i _ => t.length - (intOf i).toNat)
  case atStart =>
    have e0 : leavesTo t 0 = [] := List.eq_nil_of_length_eq_zero (by have := leavesTo_len t 0; omega)
    exact ⟨0, by omega, rfl, by rw [e0]; exact hidden (.inr ⟨rfl, rfl, _, rfl⟩), (by repeat (first | (with_reducible exact Below.refl _ _) | (with_reducible assumption) | (with_reducible refine Below.drew ?_) | ((with_reducible refine below_alloc ?_ ?_); (focus (first | omega | (simp; done) | (simp; omega)))) | ((with_reducible refine below_set ?_ ?_); (focus (first | omega | (simp; done) | (simp; omega))))))⟩
  case round =>
    obtain ⟨k, hk, rfl, HM, hb⟩ := hrel
    have hbz := hb.size
    by_cases hlt : k < t.length
    · have hN := HN.out.old hb
      obtain ⟨b, off, c', hv, _, _, _, hat⟩ := hN.open_ (by intro e; subst e; simp at hlt)
      simp only [Value.slice.injEq] at hv
      obtain ⟨rfl, _, rfl⟩ := hv
      have hx := List.getElem?_eq_getElem hlt
      obtain ⟨l, x0, _⟩ := hat k _ hx
      have HR := hidden (ref_right _ t wr (by omega) hN)
      have HS := leavesTo_succ t k
      have hit : isText t k = decide (textedK t[k].kind) := by unfold isText; rw [hx]
      rw [hit] at HS
      replace HS := hidden HS
      have hlen := leavesTo_len t k
      generalize t[k].kind = kd at *
      have HT := hidden (fun w => ref_texted kd w)
      obtain ⟨X, hX⟩ : ∃ X, decide (textedK kd) = X := ⟨_, rfl⟩
      obtain ⟨R, hR⟩ : ∃ R, treeB t = R := ⟨_, rfl⟩
      rw [hX] at HT HS
      rw [hR] at HR HS
      obtain ⟨L, hL⟩ : ∃ L, leavesTo t k = L := ⟨_, rfl⟩
      rw [hL] at HS HM hlen
      clear hN hat hx hit hX hR hL
      cases X with
      | false =>
        go_wp2_with (first | (go_at_call 27; refine (HT.out _).mono ?_; rintro e w' ⟨rfl, rfl⟩))
        go_roundw
        case rel => exact ⟨k + 1, by omega, by go_num, by rw [HS.out]; simpa using HM, hb⟩
        case measure => simp [intOf]; omega
      | true =>
        go_wp2_with (first | (go_at_call 27; refine (HT.out _).mono ?_; rintro e w' ⟨rfl, rfl⟩))
        refine (HR.out).mono ?_
        rintro r2 w2 ⟨rfl, hb2⟩
        replace HM := hidden (HM.out.below hb2)
        replace hb := hb.trans (hb2.mono hb.size)
        have hbz2 := hb.size
        cases R with
        | false =>
          go_wp2
          go_roundw
          case rel => exact ⟨k + 1, by omega, by go_num, by rw [HS.out]; simpa using HM, hb⟩
          case measure => simp [intOf]; omega
        | true =>
          go_wp2_with (at_builtin; refine wpList_append_int rfl _ _ 30 3 3 rfl (by kernel_rfl) HI w.heap.size _ _ _ HM _ rfl rfl rfl (by first | rfl | simp) (by omega) hbz2 ?_; intro v' w' hA)
          go_roundw
          case rel =>
            refine ⟨k + 1, by omega, by go_num, ?_, (hb.alloc hbz2 _).trans hA.out.below⟩
            rw [HS.out]
            simp only [Bool.and_self, if_true]
            rw [ints_snoc, List.length_append]
            exact hidden hA.out.mine
          case measure => simp [intOf]; omega
    · obtain rfl : k = t.length := by omega
      go_wp2
      go_ret
      exact ⟨⟨_, rfl, HM⟩, hb⟩
end Go.Proofs.Ytihblifkbljgaaa
