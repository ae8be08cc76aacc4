/-
  trail.Of.
-/
import Derived.Test.YtdbbjlphlbndkaaDoorTrailP
import Derived.WalkMore
import Derived.Deep.LoopGhost
namespace Go.Proofs.YtdbbjlphlbndkaaDoor.T
open Go.RowKit Go.Shelf

/-- Whole numbers of the call's own. -/
abbrev NatsM (w : World) (base : Nat) (v : Value) (l : List Nat) : Prop := Mine w base 3 1 v l.length (ints l)

set_option maxRecDepth 20000 in
set_option maxHeartbeats 8000000 in
theorem trail_Of (v : Value) (t : List Node) (i : Int) (w : World) (h4 : t.length ≤ 140737488355) (hN : Nds w (Old w) v t) :
    Calls Tryd.prog 18 #[v, .int .i64 i] w fun r w' => (∃ u, r = .returned (.tuple #[u, .bool (placeB t i)]) ∧ Hid (NatsM w' w.heap.size u (pathOf t i))) ∧ Below w.heap.size w w' := by
  have HN := hidden hN
  have HR := hidden (arena_right v t w h4 hN)
  have HK := hidden (fun (w' : World) (k : Nat) (hb : Below w.heap.size w w') => arena_Kids v t k w' h4 (hN.old hb))
  obtain ⟨A, c, rfl, hc1, hc2⟩ := hN.value
  unfold maxLen at hc2
  unfold pathOf
  by_cases h0 : i < 0
  · have hp : placeB t i = false := by rw [Bool.eq_false_iff]; intro e; have := placeB_iff.1 e; omega
    rw [hp]
    clear HK HR hN
    go_enter Tryd.func18, Tryd.ntmps18
    go_wp2
    go_step3
    go_wp2
    (try rw [Exit.noGoto_ret]); go_ret2
    exact ⟨⟨_, rfl, hidden (Mine.nil _ _ _ _)⟩, Below.refl _ _⟩
  · obtain ⟨I, rfl⟩ : ∃ I : Nat, i = (I : Int) := ⟨i.toNat, by omega⟩
    by_cases h1 : I < t.length
    · cases ht : treeB t with
      | false =>
        have hp : placeB t I = false := by rw [Bool.eq_false_iff]; intro e; have := (placeB_iff.1 e).2.2; rw [← treeB_iff, ht] at this; cases this
        rw [hp]
        rw [ht] at HR
        clear HK hN
        go_enter Tryd.func18, Tryd.ntmps18
        go_wp2
        go_step3
        go_wp2_with fail
        refine HR.out.mono ?_
        rintro r w2 ⟨rfl, hb⟩
        go_wp2
        (try rw [Exit.noGoto_ret]); go_ret2
        exact ⟨⟨_, rfl, hidden (Mine.nil _ _ _ _)⟩, hb⟩
      | true =>
        rw [ht] at HR
        have hT := treeB_iff.1 ht
        have hp : placeB t I = true := placeB_iff.2 ⟨by omega, by omega, hT⟩
        rw [hp, if_pos rfl, Int.toNat_natCast]
        obtain ⟨b, off, c', hv, _, _, _, _⟩ := hN.open_ (by intro e; subst e; simp at h1)
        simp only [Value.slice.injEq] at hv
        obtain ⟨rfl, _, rfl⟩ := hv
        have HT := hidden hT
        have HSz := hidden (fun (w' : World) (hb : Below w.heap.size w w') (k : Nat) (hk : k < t.length) => (HN.out.old hb).size_cell hT hk)
        clear hN ht hT hp HN
        have q1 : decide (t.length ≤ I) = false := by simp; omega
        have q2 : decide ((I : Int) < 0) = false := by simp
        go_enter Tryd.func18, Tryd.ntmps18
        go_wp2
        go_step3
        go_wp2_with fail
        refine HR.out.mono ?_
        rintro r w2 ⟨rfl, hb⟩
        clear HR
        have HM0 : Hid (NatsM (w2.alloc (.cells #[] 3)) w.heap.size (.slice (some ⟨w2.heap.size, 0, none⟩) 0 0) (pathN t 0)) := hidden (by rw [path_zero]; exact .inr ⟨rfl, rfl, _, rfl⟩)
        replace hb := hb.alloc hb.size (.cells #[] 3)
        have hz0 := tree_sz0 HT.out
        go_wp2
        go_step3
        go_wp2
        go_loopg [6, 7] I (fun gh pp aa wr => ∃ a : Nat, gh = I - a ∧ aa = .int .i64 a ∧ a ≤ I ∧ I < a + sz t a ∧ Hid (NatsM wr w.heap.size pp (pathN t a)) ∧ Below w.heap.size w wr)
        case atStart => exact ⟨0, by omega, by go_num, by omega, by omega, HM0, hb⟩
        case round =>
          clear HM0 hb hz0
          obtain ⟨a, rfl, rfl, haI, hIa, HM, hb⟩ := hrel
          have hal : a < t.length := by omega
          have hbz := hb.size
          by_cases hlt : a < I
          · have HK2 := hidden (HK.out wr a hb)
            rw [kidsOf_in HT.out hal] at HK2
            have HPk := hidden (fun n k (h : (kidsL t a)[n]? = some k) => path_kid HT.out hal h)
            have HAt := hidden (fun n (hp : ∀ m y, m < n → (kidsL t a)[m]? = some y → y + sz t y ≤ I) (hn : n ≤ (kidsL t a).length) => kids_at HT.out hal hlt hIa hp hn)
            have hkl := kidsL_len (t := t) a
            have hpl := path_len (t := t) a
            have hsz := (tree_node HT.out hal).2.1
            generalize kidsL t a = L at *
            generalize hPa : pathN t a = Pa at *
            have hne : ((a : Int) != (I : Int)) = true := by rw [bne_iff_ne]; omega
            clear HK
            go_wp2_with fail
            refine HK2.out.mono ?_
            rintro r w3 ⟨⟨u, rfl, HL⟩, hb3⟩
            have HM3 := hidden (HM.out.below hb3)
            have hbw := hb.trans (hb3.mono hb.size)
            obtain ⟨A9, c9, rfl⟩ := HL.out.value
            have hRd := HL.out.rd (T := fun _ => True) (fun _ _ _ _ => trivial)
            have HRd := hidden hRd
            clear HL HK2 hb3 hb HM hRd
            obtain ⟨P0, hP0⟩ : ∃ P0, P0 = u6 := ⟨_, rfl⟩
            subst hP0
            go_wp2
            go_loopg [6, 7, 31] L.length (fun gj pp aa jj wx => ∃ j : Nat, gj = L.length - j ∧ pp = P0 ∧ aa = .int .i64 a ∧ jj = .int .i64 j ∧ wx = w3 ∧ j ≤ L.length ∧ Hid (∀ m y, m < j → L[m]? = some y → y + sz t y ≤ I))
            case atStart => exact ⟨0, by omega, rfl, by go_num, rfl, rfl, by omega, hidden (fun m y h => by omega)⟩
            case round =>
              obtain ⟨j, rfl, rfl, rfl, rfl, rfl, hjl, HJ⟩ := hrel
              obtain ⟨k, hk, hkI, hak, hkt, hke⟩ := HAt.out j HJ.out hjl
              have hjlt := (List.getElem?_eq_some_iff.1 hk).1
              obtain ⟨b9, o9, rfl, _, y0⟩ := HRd.out.ints_at hk
              have y1 := HSz.out _ hbw k hkt
              have HPk2 := hidden (HPk.out j k hk)
              have HKk := hidden hk
              clear hk
              by_cases hhit : I < k + sz t k
              · have hbz2 := hbw.size
                clear HAt HJ HRd HPk
                go_wp2_with (at_builtin; refine wpList_append_int rfl _ _ 22 3 3 rfl (by kernel_rfl) int_info w.heap.size _ _ _ HM3 _ rfl rfl rfl (by first | rfl | simp) (by omega) hbz2 ?_; intro v' w' hA)
                have HN2 : Hid (NatsM w' w.heap.size v' (pathN t k)) := hidden (by
                  have := hA.out.mine
                  rw [HPk2.out]
                  unfold NatsM
                  rw [List.length_append, ints_snoc]
                  exact this)
                have hbn : Below w.heap.size w w' := (hbw.alloc hbz2 _).trans hA.out.below
                obtain ⟨A8, c8, e8⟩ := hA.out.mine.value
                clear hA
                go_wp2
                go_roundg (I - k)
                case measure => omega
                case rel => exact ⟨k, rfl, by go_num, hkI, hhit, HN2, hbn⟩
              · have HJ2 : Hid (∀ m y, m < j + 1 → L[m]? = some y → y + sz t y ≤ I) := hidden (fun m y hm hy => by
                  by_cases e : m = j
                  · subst e
                    rw [HKk.out] at hy
                    cases hy
                    omega
                  · exact HJ.out m y (by omega) hy)
                clear HAt HJ HRd HPk
                go_wp2
                go_roundg (L.length - (j + 1))
                case measure => omega
                case rel => exact ⟨j + 1, rfl, rfl, by go_num, by go_num, rfl, by omega, HJ2⟩
          · obtain rfl : a = I := by omega
            go_wp2
            (try rw [Exit.noGoto_ret]); go_ret2
            exact ⟨⟨_, rfl, HM⟩, hb⟩
    · have hp : placeB t I = false := by rw [Bool.eq_false_iff]; intro e; have := placeB_iff.1 e; omega
      rw [hp]
      clear HK HR hN
      go_enter Tryd.func18, Tryd.ntmps18
      go_wp2
      go_step3
      go_wp2
      (try rw [Exit.noGoto_ret]); go_ret2
      exact ⟨⟨_, rfl, hidden (Mine.nil _ _ _ _)⟩, Below.refl _ _⟩
end Go.Proofs.YtdbbjlphlbndkaaDoor.T
