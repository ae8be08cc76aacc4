/-
  facsimilelaw27.owned.
-/
import Derived.Test.YtihblifkbljgaaaTreeOne
namespace Go.Proofs.Ytihblifkbljgaaa
open Go.RowKit Go.Shelf

set_option maxRecDepth 20000 in
set_option maxHeartbeats 4000000 in
theorem owned27 (v : Value) (t : List Node) (w : World) (h4 : t.length ≤ 1000000) (hF : Fit t) (hN : Nds w (Old w) v t) :
    Calls Try.prog 34 #[v] w fun r w' => (∃ u, r = .returned u ∧ Hid (Own w' w.heap.size u t)) ∧ Below w.heap.size w w' := by
  obtain ⟨ls, hl, hR, hp⟩ := hN
  have hone : ∀ l ∈ ls, l.oneCell' = true := by
    intro l hl'
    obtain ⟨i, hi, e⟩ := List.mem_iff_getElem.1 hl'
    have hx := List.getElem?_eq_getElem (show i < t.length by omega)
    obtain ⟨A, c, rfl, _⟩ := (hp i _ l hx (by rw [List.getElem?_eq_getElem hi, e])).value
    rfl
  have HI := node_info
  have HI2 := piece_info
  have hal : Below w.heap.size w (w.alloc (.cells #[] 29)) := (Below.refl _ _).alloc (Nat.le_refl _) _
  have HM0 : Hid (Mine (w.alloc (.cells #[] 29)) w.heap.size 29 5 (.slice (some ⟨w.heap.size, 0, none⟩) 0 0) 0 []) := hidden (.inr ⟨rfl, rfl, _, rfl⟩)
  have HX0 : Hid (Rd (w.alloc (.cells #[] 29)) (Old w) 5 v t.length (allCells t ls)) := hidden (hR.alloc _)
  have H10 := hidden (nd_oneCell t ls hone)
  have hs0 : w.heap.size ≤ (w.alloc (.cells #[] 29)).heap.size := hal.size
  have h9 : (0 + t.length) * 64 ≤ 140737488355328 := by omega
  have HS : Hid (∀ v' w', Appended (w.alloc (.cells #[] 29)) w.heap.size 29 5 (.slice (some ⟨w.heap.size, 0, none⟩) 0 0) (0 + t.length) ([] ++ allCells t ls) v' w' → OwnTo w w' v' t 0 ∧ Below w.heap.size w w' ∧ ∃ A c, v' = .slice A t.length c ∧ t.length ≤ c ∧ c ≤ maxLen) := hidden (fun v' w' hA => by
    have hM := hA.mine
    rw [Nat.zero_add, List.nil_append] at hM
    have hb := hal.trans hA.below
    exact ⟨OwnTo.start hl hM hp hb, hb, (hM.rd (T := fun _ => True) (fun _ _ _ _ => trivial)).val⟩)
  have HF := hidden hF
  obtain ⟨A, c, rfl, hc1, hc2⟩ := hR.val
  unfold maxLen at hc2
  clear hR hp hone hF hl hal
  go_enter Try.func34, Try.ntmps34
  go_wp2_with (at_builtin; refine wpList_append_all rfl _ _ 22 29 rfl (by kernel_rfl) HI rfl (by decide) w.heap.size _ _ _ HM0 _ _ _ HX0 H10 rfl rfl h9 (by decide) hs0 ?_; intro v1 w1 hA)
  obtain ⟨ho, hb, A1, c1, rfl, hd1, hd2⟩ := HS.out v1 w1 hA.out
  have HO := hidden ho
  unfold maxLen at hd2
  clear HS HM0 HX0 H10 hs0 h9 hA ho
  go_loopw [4] (fun ii wr => ∃ k : Nat, k ≤ t.length ∧ ii = .int .i64 k ∧ Hid (OwnTo w wr (.slice A1 t.length c1) t k) ∧ Below w.heap.size w wr) (fun ii _ => t.length - (intOf ii).toNat)
  case atStart => exact ⟨0, by omega, rfl, HO, hb⟩
  case round =>
    clear HO hb
    obtain ⟨k, hk, rfl, HO, hb⟩ := hrel
    have hbz := hb.size
    by_cases hlt : k < t.length
    · obtain ⟨g, cap, l, hv, e1, e2, e3, e4, x3, xf, hpl, hnext⟩ := HO.out.step hlt hb
      simp only [Value.slice.injEq] at hv
      obtain ⟨rfl, _, rfl⟩ := hv
      have hfit := HF.out _ (List.getElem_mem hlt)
      obtain ⟨A2, c2, rfl, f1, f2⟩ := hpl.value
      unfold maxLen at f2
      generalize t[k].lead = ld at *
      have hal : Below wr.heap.size wr (wr.alloc (.cells #[] 59)) := (Below.refl _ _).alloc (Nat.le_refl _) _
      have HM0 : Hid (Mine (wr.alloc (.cells #[] 59)) wr.heap.size 59 2 (.slice (some ⟨wr.heap.size, 0, none⟩) 0 0) 0 []) := hidden (.inr ⟨rfl, rfl, _, rfl⟩)
      have HX0 : Hid (Rd (wr.alloc (.cells #[] 59)) (Old w) 2 (.slice A2 ld.length c2) ld.length (ld.flatMap pcCells)) := hidden (Rd.alloc hpl _)
      have H10 := hidden (pc_oneCell ld)
      have hs0 : wr.heap.size ≤ (wr.alloc (.cells #[] 59)).heap.size := hal.size
      have h9 : (0 + ld.length) * 24 ≤ 140737488355328 := by omega
      have HX : Hid (∀ v' w', Appended (wr.alloc (.cells #[] 59)) wr.heap.size 59 2 (.slice (some ⟨wr.heap.size, 0, none⟩) 0 0) (0 + ld.length) ([] ++ ld.flatMap pcCells) v' w' → (OwnTo w (w'.setCell ⟨g, k * 5 + 3, none⟩ v') (.slice (some ⟨g, 0, none⟩) t.length c1) t (k + 1)) ∧ Below wr.heap.size wr w' ∧ (∃ A c, v' = .slice A ld.length c)) := hidden (fun v' w' hA => by
        have hM := hA.mine
        rw [Nat.zero_add, List.nil_append] at hM
        have hb1 := hal.trans hA.below
        refine ⟨hnext w' v' hb1 hM (fun q hq => ?_), hb1, hM.value⟩
        have hz : (wr.alloc (.cells #[] 59)).heap.size = wr.heap.size + 1 := World.size_alloc _ _
        rcases hA.at_ with h | ⟨g', h, h1, h2⟩
        · rw [h] at hq
          have e : q = wr.heap.size := by simpa [Value.ownBlock, eq_comm] using hq
          have := hA.below.size
          have hk9 : wr.heap.size < w'.heap.size := by have := hA.keeps.size; omega
          omega
        · rw [h] at hq; cases hq
          omega)
      have y3 := (hal.cell (p := ⟨g, k * 5 + 3, none⟩) e4).trans x3
      clear hpl hnext hfit HF x3
      go_wp2_with (at_builtin; refine wpList_append_all rfl _ _ 27 59 rfl (by kernel_rfl) HI2 rfl (by decide) wr.heap.size _ _ _ HM0 _ _ _ HX0 H10 rfl rfl h9 (by decide) hs0 ?_; intro v2 w2 hA; obtain ⟨ho2, hb2, A3, c3, rfl⟩ := HX.out v2 w2 hA.out; have z3 := (hb2.cell (p := ⟨g, k * 5 + 3, none⟩) e4).trans ((hal.cell (p := ⟨g, k * 5 + 3, none⟩) e4).symm.trans y3); have zf := (hb2.frozen (p := ⟨g, k * 5 + 3, none⟩) e4).trans xf; replace ho2 := hidden ho2)
      go_roundw
      case rel => exact ⟨k + 1, by omega, by go_num, ho2, (hb.trans (hb2.mono hbz)).setCell (p := ⟨g, _, none⟩) e3 _⟩
      case measure => simp [intOf]; omega
    · obtain rfl : k = t.length := by omega
      go_wp2
      go_ret
      exact ⟨⟨_, rfl, hidden HO.out.done⟩, hb⟩
end Go.Proofs.Ytihblifkbljgaaa
