/-
  arena.Right, walked.
-/
import Derived.Test.YtihblifkbljgaaaTreeArena
namespace Go.Proofs.Ytihblifkbljgaaa
open Go.RowKit Go.Shelf

set_option maxRecDepth 20000 in
set_option maxHeartbeats 8000000 in
theorem arena_right (v : Value) (t : List Node) (w : World) (h4 : t.length ≤ 140737488355) (hN : Nds w (Old w) v t) :
    Calls Try.prog 16 #[v] w fun r w' => r = .returned (.bool (treeB t)) ∧ Below w.heap.size w w' := by
  by_cases h0 : t = []
  · obtain ⟨A, c, rfl, hc1, hc2⟩ := hN.value
    unfold maxLen at hc2
    rw [tree_not_nil (by rw [h0]; rfl)]
    subst h0
    simp only [List.length_nil] at *
    clear hN
    go_enter Try.func16, Try.ntmps16
    go_wp2
    go_ret
    exact ⟨rfl, (by repeat (first | (with_reducible exact Below.refl _ _) | (with_reducible assumption) | (with_reducible refine Below.drew ?_) | ((with_reducible refine below_alloc ?_ ?_); (focus (first | omega | (simp; done) | (simp; omega)))) | ((with_reducible refine below_set ?_ ?_); (focus (first | omega | (simp; done) | (simp; omega))))))⟩
  · have hp : 0 < t.length := List.length_pos_iff.2 h0
    have HN := hidden hN
    obtain ⟨b, off, c, rfl, hc1, hc2, hb, hat⟩ := hN.open_ h0
    have hx := List.getElem?_eq_getElem hp
    obtain ⟨l, x0, x1, x2, x3, x4, hpc⟩ := hat 0 _ hx
    simp only [Nat.zero_mul, Nat.add_zero] at x0 x1 x2 x3 x4
    unfold maxLen at hc2
    generalize t[0] = x at *
    by_cases hs : x.size = t.length
    · obtain ⟨r, hr⟩ : ∃ r, treeB t = r := ⟨_, rfl⟩
      have HG : Hid (∀ st, Hid (Stack t t.length st) → r = true) := hidden fun st h => by rw [← hr]; exact treeB_iff.2 (h.out.tree hx hs)
      have HB : Hid (∀ i top st x, Hid (Stack t i (top :: st)) → top ≠ i → t[i]? = some x → ¬ (Local x ∧ (i : Int) + x.size ≤ top) → r = false) := hidden fun i top st x h h1 h2 h3 => by rw [← hr]; exact treeB_false (h.out.wrong h1 h2 h3)
      rw [hr]
      rw [hs] at x2
      clear hr hat hpc hx hN x0 x1 x3 x4 hs
      have q9 : ((t.length : Int) == 0) = false := by rw [beq_eq_false_iff_ne]; omega
      have HI : Hid (IntInfo Try.prog 3) := hidden (info_parts (show (Try.prog.info? 3).map (fun i => (i.zero, i.size, i.bytes)) = some (some (.int .i64 0), 1, 8) by kernel_rfl))
      go_enter Try.func16, Try.ntmps16
      go_wp2
      go_loopw [3, 24] (fun en ii wr => ∃ (k : Nat) (st : List Nat), k ≤ t.length ∧ ii = .int .i64 k ∧ st.length ≤ k + 1 ∧ Hid (Stack t k st) ∧ Mine wr w.heap.size 3 1 en st.length (ints st.reverse) ∧ Below w.heap.size w wr)
        (fun _ ii _ => t.length - (intOf ii).toNat)
      case atStart => 
        exact ⟨0, [t.length], by omega, rfl, by simp, hidden (Stack.start t), Mine.made w _ 1 1 _ rfl (by decide), (by repeat (first | (with_reducible exact Below.refl _ _) | (with_reducible assumption) | (with_reducible refine Below.drew ?_) | ((with_reducible refine below_alloc ?_ ?_); (focus (first | omega | (simp; done) | (simp; omega)))) | ((with_reducible refine below_set ?_ ?_); (focus (first | omega | (simp; done) | (simp; omega))))))⟩
      case round =>
        obtain ⟨k, st, hk, rfl, hst, HS, HM, hb⟩ := hrel
        have hbz := hb.size
        clear x2
        by_cases hlt : k < t.length
        · obtain ⟨b', off', c', hv, _, _, _, hat⟩ := (HN.out.below hb (fun _ h => h)).open_ h0
          simp only [Value.slice.injEq, Option.some.injEq, Addr.mk.injEq] at hv
          obtain ⟨⟨rfl, rfl, _⟩, _, rfl⟩ := hv
          have HX := hidden (List.getElem?_eq_getElem hlt)
          obtain ⟨l, x0, x1, x2, x3, x4, hpc⟩ := hat k _ HX.out
          obtain ⟨A', c'', rfl, g1, g2⟩ := hpc.value
          unfold maxLen at g2
          clear hat hpc
          generalize t[k] = x at *
          obtain ⟨kd, nn, sd, ld, tx⟩ := x
          dsimp only at *
          obtain ⟨LN, hLN⟩ : ∃ n, ld.length = n := ⟨_, rfl⟩
          rw [hLN] at x3 g1
          obtain ⟨TE, hTE⟩ : ∃ TE, tx.toList.isEmpty = TE := ⟨_, rfl⟩
          obtain ⟨O, hO⟩ : ∃ O, decide (openK kd) = O := ⟨_, rfl⟩
          obtain ⟨X, hX⟩ : ∃ X, decide (textedK kd) = X := ⟨_, rfl⟩
          have HO := hidden (fun w => arena_open kd w)
          have HT := hidden (fun w => arena_texted kd w)
          rw [hO] at HO
          rw [hX] at HT
          have HLO := hidden (local_bits kd nn sd ld tx hO hX hTE hLN)
          replace hLN := hidden hLN
          clear hO hX
          obtain ⟨top, s, rfl⟩ := stack_some HS.out
          obtain ⟨g, cap, rfl, e1, e2, e3, e4, _⟩ := HM.open_ (by simp)
          rw [ints_cons_rev] at HM
          simp only [List.length_cons] at hst HM e1
          replace HM := hidden (HM.alloc (.cells #[.int .i64 kd, .int .i64 nn, .int .i64 sd, .slice A' LN c'', .string tx] 29))
          have q0 := Holds.new wr 29 #[.int .i64 kd, .int .i64 nn, .int .i64 sd, .slice A' LN c'', .string tx]
          replace hb := hb.alloc hb.size (.cells #[.int .i64 kd, .int .i64 nn, .int .i64 sd, .slice A' LN c'', .string tx] 29)
          go_wp2
          generalize wr.alloc (.cells #[.int .i64 kd, .int .i64 nn, .int .i64 sd, .slice A' LN c'', .string tx] 29) = W at *
          go_loopw [3] (fun en w' => ∃ (top : Nat) (s : List Nat) (cap : Nat), W = w' ∧ en = .slice (some ⟨g, 0, none⟩) (s.length + 1) cap ∧ cap ≤ maxLen ∧ s.length + 1 ≤ cap ∧ s.length ≤ k ∧ Hid (Stack t k (top :: s)) ∧ Hid (Mine W w.heap.size 3 1 en (s.length + 1) (ints s.reverse ++ [.int .i64 top])))
            (fun en _ => lenV en)
          case atStart => exact ⟨top, s, cap, rfl, rfl, e2, e1, by omega, HS, HM⟩
          case round =>
            clear x0 x1 x2 x3 x4 HM HS e1 e2 hst
            obtain ⟨top, s, cap, rfl, rfl, e2, e1, hst, HS, HM⟩ := hrel
            unfold maxLen at e2
            have z : W.cell? ⟨g, s.length, none⟩ = some (.int .i64 top) := by
              obtain ⟨g', cap', hv, _, _, _, _, hcell⟩ := HM.out.open_ (by omega)
              simp only [Value.slice.injEq, Option.some.injEq, Addr.mk.injEq] at hv
              obtain ⟨⟨rfl, _⟩, _, rfl⟩ := hv
              refine hcell _ _ ?_
              rw [List.getElem?_append_right (by simp [ints_len])]
              simp [ints_len]
            by_cases htop : top = k
            · subst htop
              go_wp2
              have HS2 := HS.out.pop hlt
              obtain ⟨top', s', hs⟩ := stack_some HS2
              subst hs
              have HM2 := hidden (HM.out.pop (by simp [ints_len]))
              rw [ints_cons_rev] at HM2
              replace HS2 := hidden HS2
              go_roundw
              case rel => exact ⟨top', s', cap, by trivial, rfl, e2, by simp at e1; omega, by simp at hst; omega, HS2, HM2⟩
              case measure => simp [lenV]
            · have n0 : W.cell? ⟨wr.heap.size, 0, none⟩ = some (.int .i64 kd) := q0.cell 0
              have n2 : W.cell? ⟨wr.heap.size, 2, none⟩ = some (.int .i64 sd) := q0.cell 2
              have n3 : W.cell? ⟨wr.heap.size, 3, none⟩ = some (.slice A' LN c'') := q0.cell 3
              have n4 : W.cell? ⟨wr.heap.size, 4, none⟩ = some (.string tx) := q0.cell 4
              have hbz2 := hb.size
              obtain ⟨tb1, tb2⟩ := stack_bounds HS.out
              have HB2 := hidden (HB.out k top s _ HS htop HX.out)
              have HP : Hid (Local ⟨kd, nn, sd, ld, tx⟩ → (k : Int) + sd ≤ top → Hid (Stack t (k + 1) ((k + sd.toNat) :: top :: s))) := hidden fun h1 h2 => hidden (by
                have hz : sz t k = sd.toNat := by rw [sz_of HX.out]
                have := HS.out.push htop HX.out h1 (by rw [hz]; have := h1.2.2.1; dsimp only at this; omega)
                rwa [hz] at this)
              dsimp only at HB2
              clear HX HB HG
              go_wp2_with (first | (go_at_call 56; refine (HO.out _).mono ?_; rintro e w' ⟨rfl, rfl⟩) | (go_at_call 57; refine (HT.out _).mono ?_; rintro e w' ⟨rfl, rfl⟩) | (at_builtin; refine wpList_append_int rfl _ _ 30 3 3 rfl (by kernel_rfl) HI w.heap.size _ _ _ HM _ rfl rfl rfl (by first | rfl | simp) (by omega) hbz2 ?_; intro v' w' hA))
              all_goals first
                | (obtain rfl := HB2.out (fun hh => by
                    obtain ⟨hh1, hh2⟩ := hh
                    rw [HLO.out] at hh1
                    obtain ⟨c1, c2, c3, c4, c5⟩ := hh1
                    first | omega | (simp_all; done) | (simp_all; omega))
                   go_ret
                   exact ⟨rfl, hb⟩)
                | (have hloc := HLO.out.2 (by refine ⟨?_, ?_, ?_, ?_, ?_⟩ <;> first | omega | (simp_all; done) | (simp_all; omega))
                   have hle : (k : Int) + sd ≤ top := by omega
                   have HP2 := HP.out hloc hle
                   have hsd : 1 ≤ sd := hloc.2.2.1
                   go_roundw
                   case rel =>
                     refine ⟨k + 1, (k + sd.toNat) :: top :: s, by omega, by go_num, by simp; omega, HP2, ?_, (hb.alloc hbz2 _).trans hA.out.below⟩
                     have := hA.out.mine
                     rw [ints_cons_rev, ints_cons_rev, show ((k + sd.toNat : Nat) : Int) = k + sd by omega]
                     exact this
                   case measure => simp [intOf]; omega)
        · obtain rfl : k = t.length := by omega
          obtain rfl := HG.out _ HS
          clear HG HB HN HM HI HS
          go_wp2
          go_ret
          exact ⟨rfl, hb⟩
    · rw [tree_not_size hx hs]
      have q1 : (x.size != (t.length : Int)) = true := by simpa using hs
      clear hat hpc hx hN x0 x1 x3 x4 hs HN
      go_enter Try.func16, Try.ntmps16
      go_wp2
      go_ret
      exact ⟨rfl, (by repeat (first | (with_reducible exact Below.refl _ _) | (with_reducible assumption) | (with_reducible refine Below.drew ?_) | ((with_reducible refine below_alloc ?_ ?_); (focus (first | omega | (simp; done) | (simp; omega)))) | ((with_reducible refine below_set ?_ ?_); (focus (first | omega | (simp; done) | (simp; omega))))))⟩
end Go.Proofs.Ytihblifkbljgaaa
