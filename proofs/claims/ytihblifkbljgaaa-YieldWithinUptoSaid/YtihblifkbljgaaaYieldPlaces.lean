/-
  The law YieldPlaces.
-/
import Derived.Test.YtihblifkbljgaaaYieldKnows
namespace Go.Proofs.Ytihblifkbljgaaa
open Go.RowKit Go.Shelf

theorem yield_span (v : Value) (t : List Node) (i : Int) (w : World) (h4 : bulkT t ≤ 1000000000) (hN : Nds w (Old w) v t) :
    Calls Try.prog 22 #[v, .int .i64 i] w fun r w' => r = .returned (.tuple #[.agg #[.int .i64 (spanOf t i).1, .int .i64 (spanOf t i).2.1], .bool (spanOf t i).2.2]) ∧ Below w.heap.size w w' := by
  cases hp : placeB t i with
  | false =>
    rw [span_no hp]
    exact yield_span_no v t i w h4 hN hp
  | true =>
    obtain ⟨I, rfl⟩ := Int.eq_ofNat_of_zero_le (placeB_iff.1 hp).1
    have e : (spanOf t (I : Int)).2.2 = true := by unfold spanOf; rw [hp]; rfl
    rw [e]
    exact yield_span_yes v t I w h4 hN hp
theorem ref_span (v : Value) (t : List Node) (i : Int) (w : World) (h4 : bulkT t ≤ 1000000000) (hN : Nds w (Old w) v t) :
    Calls Try.prog 23 #[v, .int .i64 i] w fun r w' => r = .returned (.tuple #[.agg #[.int .i64 (spanOf t i).1, .int .i64 (spanOf t i).2.1], .bool (spanOf t i).2.2]) ∧ Below w.heap.size w w' := by
  cases hp : placeB t i with
  | false =>
    rw [span_no hp]
    exact ref_span_no v t i w h4 hN hp
  | true =>
    obtain ⟨I, rfl⟩ := Int.eq_ofNat_of_zero_le (placeB_iff.1 hp).1
    have e : (spanOf t (I : Int)).2.2 = true := by unfold spanOf; rw [hp]; rfl
    rw [e]
    exact ref_span_yes v t I w h4 hN hp

set_option maxRecDepth 20000 in
set_option maxHeartbeats 4000000 in
theorem law_places (v : Value) (t : List Node) (i at_ : Int) (w : World) (h4 : bulkT t ≤ 1048576) (hN : Nds w (Old w) v t) :
    Calls Try.prog 4 #[v, .int .i64 i, .int .i64 at_] w fun r w' => r = .returned (.bool true) ∧ Below w.heap.size w w' := by
  have h5 := bulk_len t
  have HF := hidden (few v t w hN (by omega))
  have HS := hidden (fun (w' : World) (hb : Below w.heap.size w w') => yield_span v t i w' (by omega) (hN.old hb))
  have HR := hidden (fun (w' : World) (hb : Below w.heap.size w w') => ref_span v t i w' (by omega) (hN.old hb))
  have HA := hidden (fun (w' : World) (hb : Below w.heap.size w w') => yield_find v t at_ w' (by omega) (hN.old hb))
  have HB := hidden (fun (w' : World) (hb : Below w.heap.size w w') => ref_find v t at_ w' (by omega) (hN.old hb))
  obtain ⟨A, c, rfl, hc1, hc2⟩ := hN.value
  generalize spanOf t i = so at *
  generalize findOf t at_ = fo at *
  obtain ⟨sa, sb, sc⟩ := so
  dsimp only at HS HR
  clear hN h4 h5
  cases hf : fewB t with
  | false =>
    rw [hf] at HF
    clear hf
    go_enter Try.func4, Try.ntmps4
    go_wp2_with fail
    refine HF.out.mono ?_
    rintro r w1 ⟨rfl, hb⟩
    go_wp2_with fail
    refine (knows28 w1).mono ?_
    rintro r w2 ⟨rfl, hb2⟩
    replace hb := hb.trans (hb2.mono hb.size)
    go_wp2
    go_ret
    exact ⟨rfl, hb⟩
  | true =>
    rw [hf] at HF
    clear hf
    go_enter Try.func4, Try.ntmps4
    go_wp2_with fail
    refine HF.out.mono ?_
    rintro r w1 ⟨rfl, hb⟩
    go_wp2_with fail
    refine (HS.out w1 hb).mono ?_
    rintro r w2 ⟨rfl, hb2⟩
    replace hb := hb.trans (hb2.mono hb.size)
    have hbz := hb.size
    have hba := below_alloc (o := .cells #[.int .i64 sa, .int .i64 sb] 37) hbz hb
    go_wp2_with fail
    refine (HR.out _ hba).mono ?_
    rintro r w3 ⟨rfl, hb3⟩
    have hl := hb3.size
    simp at hl
    have e0 : w3.cell? ⟨w2.heap.size, 0, none⟩ = some (.int .i64 sa) := ((old_cells hb3).1 w2.heap.size 0 (by simp)).trans (by go_simp)
    have e1 : w3.cell? ⟨w2.heap.size, 1, none⟩ = some (.int .i64 sb) := ((old_cells hb3).1 w2.heap.size 1 (by simp)).trans (by go_simp)
    have hlt : w2.heap.size < w3.heap.size := by omega
    replace hb := hba.trans (hb3.mono hba.size)
    have hbz3 := hb.size
    have hba3 := below_alloc (o := .cells #[.int .i64 sa, .int .i64 sb] 37) hbz3 hb
    clear hb2 hb3 hba HS HR HF
    go_wp2_with fail
    refine (HA.out _ hba3).mono ?_
    rintro r w4 ⟨rfl, hb4⟩
    replace hb := hba3.trans (hb4.mono hba3.size)
    clear hb4 hba3
    go_wp2_with fail
    refine (HB.out _ hb).mono ?_
    rintro r w5 ⟨rfl, hb5⟩
    replace hb := hb.trans (hb5.mono hb.size)
    clear hb5
    go_wp2_with fail
    refine (knows28 w5).mono ?_
    rintro r w6 ⟨rfl, hb6⟩
    replace hb := hb.trans (hb6.mono hb.size)
    go_wp2
    go_ret
    exact ⟨rfl, hb⟩
end Go.Proofs.Ytihblifkbljgaaa
