/-
  The document's Of: the path to a node.
-/
import Derived.Test.YtdbbjlphlbndkaaDoorTrailOf
namespace Go.Proofs.YtdbbjlphlbndkaaDoor.T
open Go.RowKit Go.Shelf

set_option maxRecDepth 20000 in
set_option maxHeartbeats 8000000 in
theorem ref_Of32_in (f : Nat) : ∀ (v : Value) (t : List Node) (I : Nat) (w : World), I ≤ f → I < t.length → Tree t → t.length ≤ 140737488355 → Nds w (Old w) v t →
    Calls Tryd.prog 19 #[v, .int .i64 (I : Int)] w fun r w' => (∃ u, r = .returned (.tuple #[u, .bool true]) ∧ Hid (NatsM w' w.heap.size u (pathN t I)) ∧ Hid (∀ q, u.ownBlock = some q → q < w'.heap.size)) ∧ Below w.heap.size w w' := by
  induction f with
  | zero =>
    intro v t I w hI h1 hT h4 hN
    obtain rfl : I = 0 := by omega
    have HR := hidden (ref_right v t w (by omega) hN)
    rw [treeB_iff.2 hT] at HR
    obtain ⟨A, c, rfl, hc1, hc2⟩ := hN.value
    unfold maxLen at hc2
    have q1 : decide ((t.length : Int) ≤ 0) = false := by simp; intro e; subst e; simp at h1
    have q3 : ¬ t = [] := by intro e; subst e; simp at h1
    rw [path_zero]
    clear hN hT
    go_enter Tryd.func19, Tryd.ntmps19
    go_wp2_with fail
    refine HR.out.mono ?_
    rintro r w2 ⟨rfl, hb⟩
    have HM0 : Hid (NatsM (w2.alloc (.cells #[] 3)) w.heap.size (.slice (some ⟨w2.heap.size, 0, none⟩) 0 0) []) := hidden (.inr ⟨rfl, rfl, _, rfl⟩)
    replace hb := hb.alloc hb.size (.cells #[] 3)
    go_wp2
    go_ret2
    exact ⟨⟨_, rfl, HM0, hidden (fun q hq => by simp [Value.ownBlock] at hq; subst hq; simp)⟩, hb⟩
  | succ f ih =>
    intro v t I w hI h1 hT h4 hN
    by_cases h0 : I = 0
    · exact ih v t I w (by omega) h1 hT h4 hN
    · obtain ⟨a, n, hup, haI, hn⟩ := up_kid hT (by omega) h1
      have hal : a < t.length := by omega
      have HPk := hidden (path_kid hT hal hn)
      have HR := hidden (ref_right v t w (by omega) hN)
      have HU := hidden (fun (w' : World) (hb : Below w.heap.size w w') => ref_up v t (I : Int) w' h4 (hN.old hb))
      rw [treeB_iff.2 hT] at HR
      rw [upOf_in hT h1, hup] at HU
      have HS := hidden (fun (w' : World) (hb : Below w.heap.size w w') => ih v t a w' (by omega) hal hT h4 (hN.old hb))
      have HK := hidden (fun (w' : World) (hb : Below w.heap.size w w') => ref_kids v t (a : Int) w' h4 (hN.old hb))
      rw [kidsOf_in hT hal] at HK
      have hnl := (List.getElem?_eq_some_iff.1 hn).1
      have HD := hidden (fun m (hm : (kidsL t a)[m]? = some I) => (idx_nodup (kidsL_nodup t a) hm).symm.trans (idx_nodup (kidsL_nodup t a) hn))
      have hkl := kidsL_len (t := t) a
      have hpl := path_len (t := t) a
      have hsz := (tree_node hT hal).2.1
      obtain ⟨A, c, rfl, hc1, hc2⟩ := hN.value
      unfold maxLen at hc2
      have HNn := hidden hn
      generalize kidsL t a = L at *
      generalize hPa : pathN t a = Pa at *
      generalize pathN t I = PI at *
      clear hN hT ih hn hup
      have q0 : ((I : Int) == 0) = false := by simp; omega
      have q1 : decide ((t.length : Int) ≤ (I : Int)) = false := by simp; omega
      have q2 : decide ((I : Int) < 0) = false := by simp
      go_enter Tryd.func19, Tryd.ntmps19
      go_wp2_with fail
      refine HR.out.mono ?_
      rintro r w2 ⟨rfl, hb⟩
      go_wp2_with fail
      refine (HU.out _ hb).mono ?_
      rintro r w3 ⟨rfl, hb3⟩
      replace hb := hb.trans (hb3.mono hb.size)
      clear hb3 HU HR
      go_wp2_with fail
      refine (HS.out _ hb).mono ?_
      rintro r w4 ⟨⟨u4, rfl, HM, HQ⟩, hb4⟩
      have HM := hidden (HM.out.base (show w.heap.size ≤ w3.heap.size from hb.size))
      replace hb := hb.trans (hb4.mono hb.size)
      clear hb4 HS
      go_wp2_with fail
      refine (HK.out _ hb).mono ?_
      rintro r w5 ⟨⟨u5, rfl, HL⟩, hb5⟩
      replace HM := hidden (HM.out.below hb5)
      replace hb := hb.trans (hb5.mono hb.size)
      have hz5 := hb5.size
      have hge := HL.out.own_ge (by omega)
      have HRT : Hid (Rd w5 (fun k => u4.ownBlock ≠ some k) 1 u5 L.length (ints L)) := hidden (HL.out.rd (fun q hq _ _ e => by have := HQ.out q e; have := hge q hq; omega))
      obtain ⟨A9, c9, rfl⟩ := HL.out.value
      clear hb5 HK hge HL
      go_wp2
      go_loopw [7, 10] (fun pp kk wr => ∃ k : Nat, k ≤ L.length ∧ kk = .int .i64 k ∧ ((k ≤ n ∧ pp = u4 ∧ wr = w5) ∨ (n < k ∧ Hid (NatsM wr w.heap.size pp PI) ∧ Hid (Rd wr (fun _ => True) 1 (.slice A9 L.length c9) L.length (ints L)) ∧ Hid (∀ q, pp.ownBlock = some q → q < wr.heap.size) ∧ Below w.heap.size w wr))) (fun _ kk _ => L.length - (intOf kk).toNat)
      case atStart => exact ⟨0, by omega, by go_num, .inl ⟨by omega, rfl, rfl⟩⟩
      case round =>
        obtain ⟨k, hk, rfl, hph⟩ := hrel
        rcases hph with ⟨hkn, rfl, rfl⟩ | ⟨hnk, HM2, HR2, HQ2, hb2⟩
        · have hkl2 : k < L.length := by omega
          have hbz := hb.size
          by_cases hkn2 : k = n
          · subst hkn2
            obtain ⟨b9, o9, rfl, _, y0⟩ := HRT.out.ints_at HNn.out
            clear HD HNn
            go_wp2_with (at_builtin; refine wpList_append_int rfl _ _ 22 3 3 rfl (by kernel_rfl) int_info w.heap.size _ _ _ HM _ rfl rfl rfl (by first | rfl | simp) (by omega) hbz ?_; intro v' w' hA)
            have HN2 : Hid (NatsM w' w.heap.size v' PI) := hidden (by
              have := hA.out.mine
              rw [HPk.out]
              unfold NatsM
              rw [List.length_append, ints_snoc]
              exact this)
            have hbn : Below w.heap.size w w' := (hb.alloc hbz _).trans hA.out.below
            have HRn : Hid (Rd w' (fun _ => True) 1 (.slice (some ⟨b9, o9, none⟩) L.length c9) L.length (ints L)) := hidden (((Rd.alloc HRT.out _).keeps hA.out.keeps).mono (fun _ _ => trivial))
            have HQn : Hid (∀ q, v'.ownBlock = some q → q < w'.heap.size) := hidden (fun q hq => by
              rcases hA.out.at_ with h | ⟨g, h, _, h2⟩
              · have h3 := HQ.out q (by rw [← h]; exact hq)
                have h5 := hA.out.keeps.size
                simp at h5
                omega
              · rw [h] at hq; cases hq; exact h2)
            obtain ⟨A8, c8, e8⟩ := hA.out.mine.value
            clear hA HM HQ HRT
            go_wp2
            go_roundw
            case rel => exact ⟨k + 1, by omega, by go_num, .inr ⟨by omega, HN2, HRn, HQn, hbn⟩⟩
            case measure => simp [intOf]; omega
          · have hx := List.getElem?_eq_getElem hkl2
            have hne : ¬ (L[k] = I) := fun e => hkn2 (HD.out k (by rw [hx, e]))
            generalize L[k] = x at *
            obtain ⟨b9, o9, rfl, _, y0⟩ := HRT.out.ints_at hx
            have q5 : ((x : Int) == (I : Int)) = false := by simp; omega
            clear hx
            go_wp2
            go_roundw
            case rel => exact ⟨k + 1, by omega, by go_num, .inl (by refine ⟨by omega, ?_, ?_⟩ <;> first | rfl | trivial)⟩
            case measure => simp [intOf]; omega
        · by_cases hkl2 : k < L.length
          · have hx := List.getElem?_eq_getElem hkl2
            have hne : ¬ (L[k] = I) := fun e => by have := HD.out k (by rw [hx, e]); omega
            generalize L[k] = x at *
            obtain ⟨b9, o9, rfl, _, y0⟩ := HR2.out.ints_at hx
            have q5 : ((x : Int) == (I : Int)) = false := by simp; omega
            clear hx
            go_wp2
            go_roundw
            case rel => exact ⟨k + 1, by omega, by go_num, .inr ⟨by omega, HM2, HR2, HQ2, hb2⟩⟩
            case measure => simp [intOf]; omega
          · go_wp2
            go_ret2
            exact ⟨⟨_, rfl, HM2, HQ2⟩, hb2⟩

set_option maxRecDepth 20000 in
set_option maxHeartbeats 8000000 in
theorem ref_Of32 (v : Value) (t : List Node) (i : Int) (w : World) (h4 : t.length ≤ 140737488355) (hN : Nds w (Old w) v t) :
    Calls Tryd.prog 19 #[v, .int .i64 i] w fun r w' => (∃ u, r = .returned (.tuple #[u, .bool (placeB t i)]) ∧ Hid (NatsM w' w.heap.size u (pathOf t i))) ∧ Below w.heap.size w w' := by
  by_cases hp : placeB t i = true
  · obtain ⟨h0, h1, hT⟩ := placeB_iff.1 hp
    obtain ⟨I, rfl⟩ : ∃ I : Nat, i = (I : Int) := ⟨i.toNat, by omega⟩
    unfold pathOf
    rw [hp, if_pos rfl, Int.toNat_natCast]
    refine (ref_Of32_in I v t I w (Nat.le_refl _) (by omega) hT h4 hN).mono ?_
    rintro r w' ⟨⟨u, rfl, h, _⟩, hb⟩
    exact ⟨⟨u, rfl, h⟩, hb⟩
  · have hp2 : placeB t i = false := by simpa using hp
    unfold pathOf
    rw [hp2, if_neg (by decide)]
    have HR := hidden (ref_right v t w (by omega) hN)
    obtain ⟨A, c, rfl, hc1, hc2⟩ := hN.value
    unfold maxLen at hc2
    have hor : treeB t = false ∨ i < 0 ∨ (t.length : Int) ≤ i := by
      by_cases ht : treeB t = true
      · right
        by_cases h0 : i < 0
        · exact .inl h0
        · right
          apply Classical.byContradiction
          intro h1
          exact hp (placeB_iff.2 ⟨by omega, by omega, treeB_iff.1 ht⟩)
      · left; simpa using ht
    clear hN hp hp2
    cases ht : treeB t with
    | false =>
      rw [ht] at HR
      clear hor
      go_enter Tryd.func19, Tryd.ntmps19
      go_wp2_with fail
      refine HR.out.mono ?_
      rintro r w2 ⟨rfl, hb⟩
      go_wp2
      go_ret2
      exact ⟨⟨_, rfl, hidden (Mine.nil _ _ _ _)⟩, hb⟩
    | true =>
      rw [ht] at HR hor
      by_cases h0 : i < 0
      · clear hor
        go_enter Tryd.func19, Tryd.ntmps19
        go_wp2_with fail
        refine HR.out.mono ?_
        rintro r w2 ⟨rfl, hb⟩
        go_wp2
        go_ret2
        exact ⟨⟨_, rfl, hidden (Mine.nil _ _ _ _)⟩, hb⟩
      · have h1 : (t.length : Int) ≤ i := by
          rcases hor with h | h | h
          · cases h
          · exact absurd h h0
          · exact h
        clear hor
        go_enter Tryd.func19, Tryd.ntmps19
        go_wp2_with fail
        refine HR.out.mono ?_
        rintro r w2 ⟨rfl, hb⟩
        go_wp2
        go_ret2
        exact ⟨⟨_, rfl, hidden (Mine.nil _ _ _ _)⟩, hb⟩
end Go.Proofs.YtdbbjlphlbndkaaDoor.T
