/-
  arena.Leaves.
-/
import Derived.Test.YtihblifkbljgaaaTreeLeaves
namespace Go.Proofs.Ytihblifkbljgaaa
open Go.RowKit Go.Shelf

set_option maxRecDepth 20000 in
set_option maxHeartbeats 4000000 in
theorem arena_leaves (v : Value) (t : List Node) (w : World) (h4 : t.length ≤ 140737488355) (hN : Nds w (Old w) v t) :
    Calls Try.prog 46 #[v] w fun r w' => (∃ u, r = .returned u ∧ Hid (Mine w' w.heap.size 3 1 u (leavesOf t).length (ints (leavesOf t)))) ∧ Below w.heap.size w w' := by
  have HN := hidden hN
  have HR := hidden (arena_right v t w h4 hN)
  obtain ⟨A, c, rfl, hc1, hc2⟩ := hN.value
  unfold maxLen at hc2
  clear hN
  have HI := int_info
  obtain ⟨R, hR⟩ : ∃ R, treeB t = R := ⟨_, rfl⟩
  cases R with
  | false =>
    have e0 : leavesOf t = [] := by unfold leavesOf leavesTo; rw [hR]; rfl
    rw [hR] at HR
    rw [e0]
    clear hR e0
    go_enter Try.func46, Try.ntmps46
    go_wp2_with fail
    refine (HR.out).mono ?_
    rintro r2 w2 ⟨rfl, hb2⟩
    go_wp2
    go_ret
    exact ⟨⟨_, rfl, hidden (Mine.nil _ _ _ _)⟩, hb2⟩
  | true =>
    have e0 : leavesOf t = texts t t.length := by unfold leavesOf leavesTo; rw [hR]; rfl
    rw [hR] at HR
    rw [e0]
    clear hR e0
    go_enter Try.func46, Try.ntmps46
    go_wp2_with fail
    refine (HR.out).mono ?_
    rintro r2 w2 ⟨rfl, hb2⟩
    clear HR
    go_wp2
    go_loopw [3, 11] (fun l i wr => ∃ k : Nat, k ≤ t.length ∧ i = .int .i64 k ∧ Hid (Mine wr w.heap.size 3 1 l (texts t k).length (ints (texts t k))) ∧ Below w.heap.size w wr) (fun _ i _ => t.length - (intOf i).toNat)
    case atStart => exact ⟨0, by omega, rfl, hidden (Mine.nil _ _ _ _), hb2⟩
    case round =>
      clear hb2
      obtain ⟨k, hk, rfl, HM, hb⟩ := hrel
      have hbz := hb.size
      by_cases hlt : k < t.length
      · have hN := HN.out.old hb
        obtain ⟨b, off, c', hv, _, _, _, hat⟩ := hN.open_ (by intro e; subst e; simp at hlt)
        simp only [Value.slice.injEq] at hv
        obtain ⟨rfl, _, rfl⟩ := hv
        have hx := List.getElem?_eq_getElem hlt
        obtain ⟨l, x0, x1, x2, x3, x4, hpc⟩ := hat k _ hx
        have HS := texts_succ t k
        have hit : isText t k = decide (textedK t[k].kind) := by unfold isText; rw [hx]
        rw [hit] at HS
        replace HS := hidden HS
        have hlen := texts_len t k
        obtain ⟨A', c'', rfl, g1, g2⟩ := hpc.value
        unfold maxLen at g2
        clear hat hpc hN hx hit
        generalize t[k] = x at *
        obtain ⟨kd, nn, sd, ld, tx⟩ := x
        dsimp only at *
        obtain ⟨LN, hLN⟩ : ∃ n, ld.length = n := ⟨_, rfl⟩
        rw [hLN] at x3 g1
        clear hLN
        have HT := hidden (fun w => arena_texted kd w)
        obtain ⟨X, hX⟩ : ∃ X, decide (textedK kd) = X := ⟨_, rfl⟩
        rw [hX] at HT HS
        obtain ⟨L, hL⟩ : ∃ L, texts t k = L := ⟨_, rfl⟩
        rw [hL] at HS HM hlen
        clear hX hL
        replace HM := hidden (HM.out.alloc (.cells #[.int .i64 kd, .int .i64 nn, .int .i64 sd, .slice A' LN c'', .string tx] 29))
        replace hb := hb.alloc hb.size (.cells #[.int .i64 kd, .int .i64 nn, .int .i64 sd, .slice A' LN c'', .string tx] 29)
        have hbz2 := hb.size
        cases X with
        | false =>
          go_wp2_with (first | (go_at_call 57; refine (HT.out _).mono ?_; rintro e w' ⟨rfl, rfl⟩))
          go_roundw
          case rel => exact ⟨k + 1, by omega, by go_num, by rw [HS.out]; simpa using HM, hb⟩
          case measure => simp [intOf]; omega
        | true =>
          go_wp2_with (first | (go_at_call 57; refine (HT.out _).mono ?_; rintro e w' ⟨rfl, rfl⟩) | (at_builtin; refine wpList_append_int rfl _ _ 30 3 3 rfl (by kernel_rfl) HI w.heap.size _ _ _ HM _ rfl rfl rfl (by first | rfl | simp) (by omega) hbz2 ?_; intro v' w' hA))
          go_roundw
          case rel =>
            refine ⟨k + 1, by omega, by go_num, ?_, (hb.alloc hbz2 _).trans hA.out.below⟩
            rw [HS.out]
            simp only [if_true]
            rw [ints_snoc, List.length_append]
            exact hidden hA.out.mine
          case measure => simp [intOf]; omega
      · obtain rfl : k = t.length := by omega
        go_wp2
        go_ret
        exact ⟨⟨_, rfl, HM⟩, hb⟩
end Go.Proofs.Ytihblifkbljgaaa
