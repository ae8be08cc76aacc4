/-
  PlaceSpans: for every two stretches and every number the law returns true.
-/
import Derived.Test.YtmgpfldlngjekaaPlaceKnows
import Derived.Test.YtmgpfldlngjekaaPlaceMove
namespace Go.Proofs.Ytmgpfldlngjekaa
open Go.RowKit Go.Shelf

theorem lenR_le (f t : Int) (_hf : -9223372036854775808 ≤ f) (ht : t ≤ 9223372036854775807) : 0 ≤ lenR f t ∧ lenR f t ≤ 9223372036854775807 := by
  unfold lenR; split <;> omega

theorem place_RightB (f t n : Int) (w : World) :
    Calls Try.prog 11 #[.agg #[.int .i64 f, .int .i64 t], .int .i64 n] w fun e w' => e = .returned (.bool (rightB f t n)) ∧ Below w.heap.size w w' :=
  (place_Right f t n w).mono fun _ _ ⟨h, e⟩ => ⟨h, e ▸ (Below.refl _ _).alloc (Nat.le_refl _) _⟩
theorem ref_RightB (f t n : Int) (w : World) :
    Calls Try.prog 14 #[.agg #[.int .i64 f, .int .i64 t], .int .i64 n] w fun e w' => e = .returned (.bool (rightB f t n)) ∧ Below w.heap.size w w' :=
  (ref_Right f t n w).mono fun _ _ ⟨h, e⟩ => ⟨h, e ▸ (Below.refl _ _).alloc (Nat.le_refl _) _⟩

set_option maxHeartbeats 2000000 in
theorem law_spans (f t g u n : Int) (w : World) (hf : -9223372036854775808 ≤ f) (ht : t ≤ 9223372036854775807) :
    Calls Try.prog 5 #[.agg #[.int .i64 f, .int .i64 t], .agg #[.int .i64 g, .int .i64 u], .int .i64 n] w fun e w' => e = .returned (.bool true) ∧ Below w.heap.size w w' := by
  have HL := hidden (fun w => place_Len f t w hf ht)
  have HL2 := hidden (fun w => ref_Len f t w hf ht)
  generalize lenR f t = len at *
  obtain ⟨r, hr⟩ : ∃ r, rightB f t n = r := ⟨_, rfl⟩
  have HR := hidden (hr ▸ place_RightB f t n)
  have HR2 := hidden (hr ▸ ref_RightB f t n)
  obtain ⟨m, hm⟩ : ∃ r, decide (max f g < min t u) = r := ⟨_, rfl⟩
  have HM := hidden (hm ▸ place_Meets f t g u)
  have HM2 := hidden (hm ▸ ref_Meets f t g u)
  obtain ⟨j1, j2, hj⟩ : ∃ a b, joinV f t g u = .agg #[.int .i64 a, .int .i64 b] := ⟨_, _, rfl⟩
  have HJ := hidden (hj ▸ place_Join f t g u)
  have HJ2 := hidden (hj ▸ ref_Join f t g u)
  clear hr hm hj hf ht
  go_enter Try.func5, Try.ntmps5
  go_wp2_with fail
  have q0 : Holds ((w.alloc (.cells #[.int .i64 f, .int .i64 t] 23)).alloc (.cells #[.int .i64 g, .int .i64 u] 23)) w.heap.size 23 #[.int .i64 f, .int .i64 t] := (by repeat (first | (with_reducible assumption) | ((with_reducible refine holds_new ?_); (focus (first | rfl | (simp; done)))) | (with_reducible refine Holds.alloc ?_ _) | (with_reducible refine Holds.drew ?_)))
  have q1 : Holds ((w.alloc (.cells #[.int .i64 f, .int .i64 t] 23)).alloc (.cells #[.int .i64 g, .int .i64 u] 23)) (w.heap.size + 1) 23 #[.int .i64 g, .int .i64 u] := (by repeat (first | (with_reducible assumption) | ((with_reducible refine holds_new ?_); (focus (first | rfl | (simp; done)))) | (with_reducible refine Holds.alloc ?_ _) | (with_reducible refine Holds.drew ?_)))
  have hb : Below w.heap.size w ((w.alloc (.cells #[.int .i64 f, .int .i64 t] 23)).alloc (.cells #[.int .i64 g, .int .i64 u] 23)) := (by repeat (first | (with_reducible exact Below.refl _ _) | (with_reducible assumption) | (with_reducible refine Below.drew ?_) | ((with_reducible refine below_alloc ?_ ?_); (focus (first | omega | (simp; done) | (simp; omega)))) | ((with_reducible refine below_set ?_ ?_); (focus (first | omega | (simp; done) | (simp; omega))))))
  generalize (w.alloc (.cells #[.int .i64 f, .int .i64 t] 23)).alloc (.cells #[.int .i64 g, .int .i64 u] 23) = W0 at *
  have x0 := Ext.cell q0.c20; have x1 := Ext.cell q0.c21; have x2 := Ext.cell q1.c20; have x3 := Ext.cell q1.c21
  have hbz := hb.size
  clear q0 q1
  refine wp_region_ext (by kernel_rfl) (by kernel_rfl) ?_
  repeat (go_big_quiet_step ((first
    | (go_at_call 12; exact Ext.call (HL.out _))
    | (go_at_call 13; exact Ext.call (HL2.out _))
    | (go_at_call 11; exact Ext.call (HR.out _))
    | (go_at_call 14; exact Ext.call (HR2.out _))
    | (go_at_call 15; exact Ext.call (HM.out _))
    | (go_at_call 16; exact Ext.call (HM2.out _))
    | (go_at_call 17; exact Ext.call (HJ.out _))
    | (go_at_call 18; exact Ext.call (HJ2.out _))
    | (go_at_call 10; exact Ext.call (knows _)))))
  refine wpQuiet_nil ?_
  intro w2 hb2
  go_wp2
  go_ret
  exact ⟨rfl, hb.trans (hb2.mono hbz)⟩
end Go.Proofs.Ytmgpfldlngjekaa
