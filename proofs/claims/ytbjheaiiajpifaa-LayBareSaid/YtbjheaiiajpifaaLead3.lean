/-
  The document's Notes.
-/
import Derived.Test.YtbjheaiiajpifaaLead2
namespace Go.Proofs.Ytbjheaiiajpifaa.T
open Go.RowKit Go.Shelf

set_option maxRecDepth 20000 in
set_option maxHeartbeats 4000000 in
theorem ref_Notes17 (v p : Value) (ts : List Token) (ps : List Piece) (w : World) (hR : Recs tokR w (Old w) v ts) (hP : Pcs w (Old w) p ps) (h4 : ps.length * 24 ≤ 140737488355328) :
    Calls Try.prog 79 #[v, p] w fun r w' => (∃ u, r = .returned u ∧ Hid (PcsM w' w.heap.size u (notesOf ts ps))) ∧ Below w.heap.size w w' := by
  obtain ⟨A, c, rfl, hc1, hc2⟩ := hP.value
  unfold maxLen at hc2
  have HP := hidden hP
  have HC := hidden (fun (w' : World) (t c0 : Int) (hb : Below w.heap.size w w') (hc : c0 ≠ 0) => ref_Is17 v ts t c0 (Old w') w' (hR.old hb) hc)
  have hb0 := (Below.refl w.heap.size w).alloc (Nat.le_refl _) (.cells #[] 133)
  have HM0 : Hid (PcsM (w.alloc (.cells #[] 133)) w.heap.size (.slice (some ⟨w.heap.size, 0, none⟩) 0 0) (notesOf ts (ps.take 0))) := hidden (.inr ⟨rfl, rfl, _, rfl⟩)
  clear hP hR
  go_enter Try.func79, Try.ntmps79
  go_wp2
  go_loopw [5, 6] (fun l kk wr => ∃ k : Nat, k ≤ ps.length ∧ kk = .int .i64 k ∧ Hid (PcsM wr w.heap.size l (notesOf ts (ps.take k))) ∧ Below w.heap.size w wr) (fun _ kk _ => ps.length - (intOf kk).toNat)
  case atStart => exact ⟨0, by omega, rfl, HM0, hb0⟩
  case round =>
    clear HM0 hb0
    obtain ⟨k, hk, rfl, HM, hb⟩ := hrel
    have hbz := hb.size
    by_cases hlt : k < ps.length
    · obtain ⟨b, off, c', hv, _, _, hT, hat⟩ := Pcs.open_ (Rd.old HP.out hb) (by intro e; subst e; simp at hlt)
      simp only [Value.slice.injEq] at hv
      obtain ⟨rfl, _, rfl⟩ := hv
      have hx := List.getElem?_eq_getElem hlt
      obtain ⟨x0, x1⟩ := hat k _ hx
      have HS := hidden (notesOf_succ ts ps k _ hx)
      have hlen := notesOf_len ts (ps.take k)
      rw [List.length_take] at hlen
      generalize ps[k] = x at *
      clear hat hx
      generalize notesOf ts (ps.take k) = L at *
      have HK2 := hidden (HC.out wr x.tok 2 hb (by decide))
      have HK3 := hidden (HC.out wr x.tok 3 hb (by decide))
      unfold noteB at HS
      generalize clsAt ts x.tok = cl at *
      clear HC HP
      by_cases h2 : cl = 2
      · rw [decide_eq_true h2] at HK2 HS
        rw [Bool.true_or, if_pos rfl] at HS
        clear HK3 h2
        go_wp2_with fail
        refine HK2.out.mono ?_
        rintro r w2 ⟨rfl, rfl⟩
        clear HK2
        go_wp2_with (at_builtin; refine wpList_append_pc rfl _ _ rfl w.heap.size _ _ HM x rfl rfl rfl (by first | rfl | simp) (by omega) hbz ?_; intro v' w' hA hb3 hK)
        obtain ⟨A3, c3, e3⟩ := hA.out.value
        go_wp2
        go_roundw
        case rel => exact ⟨k + 1, by omega, by go_num, by rw [HS.out]; exact hA, hb.trans hb3⟩
        case measure => simp [intOf]; omega
      · by_cases h3 : cl = 3
        · rw [decide_eq_false h2] at HK2 HS
          rw [decide_eq_true h3] at HK3 HS
          rw [Bool.false_or, if_pos rfl] at HS
          clear h2 h3
          go_wp2_with fail
          refine HK2.out.mono ?_
          rintro r w2 ⟨rfl, rfl⟩
          clear HK2
          go_wp2_with fail
          refine HK3.out.mono ?_
          rintro r w2 ⟨rfl, rfl⟩
          clear HK3
          go_wp2_with (at_builtin; refine wpList_append_pc rfl _ _ rfl w.heap.size _ _ HM x rfl rfl rfl (by first | rfl | simp) (by omega) hbz ?_; intro v' w' hA hb3 hK)
          obtain ⟨A3, c3, e3⟩ := hA.out.value
          go_wp2
          go_roundw
          case rel => exact ⟨k + 1, by omega, by go_num, by rw [HS.out]; exact hA, hb.trans hb3⟩
          case measure => simp [intOf]; omega
        · rw [decide_eq_false h2] at HK2 HS
          rw [decide_eq_false h3] at HK3 HS
          rw [Bool.false_or, if_neg (by decide), List.append_nil] at HS
          clear h2 h3
          go_wp2_with fail
          refine HK2.out.mono ?_
          rintro r w2 ⟨rfl, rfl⟩
          clear HK2
          go_wp2_with fail
          refine HK3.out.mono ?_
          rintro r w2 ⟨rfl, rfl⟩
          clear HK3
          go_wp2
          go_roundw
          case rel => exact ⟨k + 1, by omega, by go_num, by rw [HS.out]; exact HM, hb⟩
          case measure => simp [intOf]; omega
    · obtain rfl : k = ps.length := by omega
      rw [List.take_length] at HM
      go_wp2
      go_ret
      exact ⟨⟨_, rfl, HM⟩, hb⟩
end Go.Proofs.Ytbjheaiiajpifaa.T
