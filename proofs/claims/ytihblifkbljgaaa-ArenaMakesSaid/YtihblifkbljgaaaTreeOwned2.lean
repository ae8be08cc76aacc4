/-
  arena.owned, walked.
-/
import Derived.Test.YtihblifkbljgaaaTreeOwned
namespace Go.Proofs.Ytihblifkbljgaaa
open Go.RowKit Go.Shelf

/-- No lead is too long to be copied. -/
def Fit (t : List Node) : Prop := ∀ x ∈ t, x.lead.length * 24 ≤ 140737488355328

set_option maxRecDepth 20000 in
set_option maxHeartbeats 4000000 in
theorem arena_owned (v : Value) (t : List Node) (w : World) (h4 : t.length ≤ 140737488355) (hF : Fit t) (hN : Nds w (Old w) v t) :
    Calls Try.prog 55 #[v] w fun r w' => (∃ u, r = .returned u ∧ Hid (Own w' w.heap.size u t)) ∧ Below w.heap.size w w' := by
  obtain ⟨ls, hl, hR, hp⟩ := hN
  have hone : ∀ l ∈ ls, l.oneCell' = true := by
    intro l hl'
    obtain ⟨i, hi, e⟩ := List.mem_iff_getElem.1 hl'
    have hx := List.getElem?_eq_getElem (show i < t.length by omega)
    obtain ⟨A, c, rfl, _⟩ := (hp i _ l hx (by rw [List.getElem?_eq_getElem hi, e])).value
    rfl
  have HC := hidden (clone_nodes v t.length (allCells t ls) (Old w) w hR (nd_oneCell t ls hone) (by omega))
  have HS : Hid (∀ v' w', Mine w' w.heap.size 29 5 v' t.length (allCells t ls) → Below w.heap.size w w' → OwnTo w w' v' t 0) := hidden (fun v' w' hM hb => OwnTo.start hl hM hp hb)
  have HF := hidden hF
  obtain ⟨A, c, rfl, hc1, hc2⟩ := hR.val
  unfold maxLen at hc2
  clear hR hp hone hF hl
  go_enter Try.func55, Try.ntmps55
  go_wp2_with fail
  refine HC.out.mono ?_
  rintro r w1 ⟨⟨u, rfl, HM, _⟩, hb⟩
  have HO := hidden (HS.out u w1 HM.out hb)
  obtain ⟨A1, c1, rfl⟩ := HM.out.value
  have hrd := HM.out.rd (T := fun _ => True) (fun _ _ _ _ => trivial)
  obtain ⟨A9, c9, hv1, hd1, hd2⟩ := hrd.val
  simp only [Value.slice.injEq] at hv1
  obtain ⟨e91, _, e92⟩ := hv1
  subst e91 e92
  unfold maxLen at hd2
  clear HC HS HM hrd
  go_wp2
  go_loopw [8] (fun ii wr => ∃ k : Nat, k ≤ t.length ∧ ii = .int .i64 k ∧ Hid (OwnTo w wr (.slice A1 t.length c1) t k) ∧ Below w.heap.size w wr) (fun ii _ => t.length - (intOf ii).toNat)
  case atStart => exact ⟨0, by omega, rfl, HO, hb⟩
  case round =>
    clear HO hb
    obtain ⟨k, hk, rfl, HO, hb⟩ := hrel
    have hbz := hb.size
    by_cases hlt : k < t.length
    · obtain ⟨g, cap, l, hv, e1, e2, e3, e4, x3, xf, hpl, hnext⟩ := HO.out.step hlt hb
      simp only [Value.slice.injEq] at hv
      obtain ⟨rfl, _, rfl⟩ := hv
      have hfit := HF.out _ (List.getElem_mem hlt)
      have HC2 := hidden (clone_pieces l t[k].lead.length (t[k].lead.flatMap pcCells) (Old w) wr hpl (pc_oneCell _) hfit)
      obtain ⟨A2, c2, rfl, f1, f2⟩ := hpl.value
      unfold maxLen at f2
      have HX := hidden hnext
      clear hpl hnext hfit HF
      generalize t[k].lead = ld at *
      go_wp2_with fail
      refine HC2.out.mono ?_
      rintro r w2 ⟨⟨u, rfl, HM, HQ⟩, hb2⟩
      have y3 := (hb2.cell (p := ⟨g, k * 5 + 3, none⟩) e4).trans x3
      have yf := (hb2.frozen (p := ⟨g, k * 5 + 3, none⟩) e4).trans xf
      have HO2 := hidden (HX.out w2 u hb2 HM.out HQ.out)
      obtain ⟨A3, c3, rfl⟩ := HM.out.value
      replace hb := hb.trans (hb2.mono hb.size)
      go_wp2
      go_roundw
      case rel => exact ⟨k + 1, by omega, by go_num, HO2, hb.setCell (p := ⟨g, _, none⟩) e3 _⟩
      case measure => simp [intOf]; omega
    · obtain rfl : k = t.length := by omega
      go_wp2
      go_ret
      exact ⟨⟨_, rfl, hidden HO.out.done⟩, hb⟩
end Go.Proofs.Ytihblifkbljgaaa
