/-
  PlaceLines: for every text, place, line and column the law returns true.
-/
import Derived.Test.YtmgpfldlngjekaaPlaceRefLine
import Derived.Test.YtmgpfldlngjekaaPlaceKnows
namespace Go.Proofs.Ytmgpfldlngjekaa
open Go.RowKit Go.Shelf

theorem spot_form (m : Option (Int × Int)) : ∃ (u v : Int) (b : Bool), spotV m = .tuple #[.agg #[.int .i64 u, .int .i64 v], .bool b] := by
  cases m with
  | none => exact ⟨0, 0, false, rfl⟩
  | some x => exact ⟨x.1, x.2, true, rfl⟩
theorem intOk_form (m : Option Int) : ∃ (u : Int) (b : Bool), intOkV m = .tuple #[.int .i64 u, .bool b] := by
  cases m with
  | none => exact ⟨0, false, rfl⟩
  | some x => exact ⟨x, true, rfl⟩
theorem line_form (s : ByteArray) (m : Option (Nat × Nat)) : ∃ (u : ByteArray) (b : Bool), lineV s m = .tuple #[.string u, .bool b] := by
  cases m with
  | none => exact ⟨_, false, rfl⟩
  | some x => exact ⟨_, true, rfl⟩

theorem below_of_eq {w w' : World} (h : w = w') : Below w.heap.size w w' := h ▸ Below.refl _ _
theorem place_LinesB (s : ByteArray) (w : World) (hs63 : s.size ≤ 140737488355328) (n : Int) (h : (nls s.data.toList : Int) + 1 = n) :
    Calls Try.prog 25 #[.string s] w fun e w' => e = .returned (.int .i64 n) ∧ Below w.heap.size w w' :=
  (place_Lines s w hs63).mono fun _ _ ⟨he, hw⟩ => ⟨by rw [he, h], below_of_eq hw⟩
theorem ref_LinesB (s : ByteArray) (w : World) (hs63 : s.size ≤ 140737488355328) (n : Int) (h : (nls s.data.toList : Int) + 1 = n) :
    Calls Try.prog 26 #[.string s] w fun e w' => e = .returned (.int .i64 n) ∧ Below w.heap.size w w' :=
  (ref_Lines s w hs63).mono fun _ _ ⟨he, hw⟩ => ⟨by rw [he, h], below_of_eq hw⟩

theorem lines_long (s : ByteArray) (p L C : Int) (w : World) (h : 300 < s.size) :
    Calls Try.prog 6 #[.string s, .int .i64 p, .agg #[.int .i64 L, .int .i64 C]] w fun e w' => e = .returned (.bool true) ∧ Below w.heap.size w w' := by
  go_enter Try.func6, Try.ntmps6
  go_wp2_with (go_at_call 10; refine (knows _).mono ?_; rintro e w3 ⟨rfl, hb3⟩)
  go_ret
  exact ⟨rfl, Below.trans (by exact (by repeat (first | (with_reducible exact Below.refl _ _) | (with_reducible assumption) | (with_reducible refine Below.drew ?_) | ((with_reducible refine below_alloc ?_ ?_); (focus (first | omega | (simp; done) | (simp; omega)))) | ((with_reducible refine below_set ?_ ?_); (focus (first | omega | (simp; done) | (simp; omega))))))) (hb3.mono (by simp))⟩

set_option maxHeartbeats 4000000 in
theorem lines_short (s : ByteArray) (p L C : Int) (w : World) (h : ¬ 300 < s.size) (h1 : -9223372036854775808 ≤ L) (h2 : L ≤ 9223372036854775807) :
    Calls Try.prog 6 #[.string s, .int .i64 p, .agg #[.int .i64 L, .int .i64 C]] w fun e w' => e = .returned (.bool true) ∧ Below w.heap.size w w' := by
  have hs : s.size ≤ 140737488355328 := by omega
  obtain ⟨u, v, b, e1⟩ := spot_form (atFrom 0 p (lineSpans s))
  have HA := hidden (fun w => e1 ▸ place_At s p w hs)
  have HA2 := hidden (fun w => e1 ▸ refAt_eq s p ▸ ref_At s p w hs)
  obtain ⟨n, ok, e2⟩ := intOk_form (placeNo (lineSpans s) L C)
  have HO := hidden (fun w => e2 ▸ place_Of s L C w hs h1 h2)
  have HO2 := hidden (fun w => e2 ▸ ref_Of s L C w hs)
  obtain ⟨x, there, e3⟩ := line_form s (spanNo (lineSpans s) L)
  have HX := hidden (fun w => e3 ▸ place_Line s L w hs h1 h2)
  have HX2 := hidden (fun w => e3 ▸ ref_Line s L w hs)
  obtain ⟨m, e4⟩ : ∃ m, (nls s.data.toList : Int) + 1 = m := ⟨_, rfl⟩
  have HN := hidden (fun w => place_LinesB s w hs m e4)
  have HN2 := hidden (fun w => ref_LinesB s w hs m e4)
  clear e1 e2 e3 e4 h1 h2
  go_enter Try.func6, Try.ntmps6
  go_wp2_with fail
  have hb := Below.refl w.heap.size w
  have p0 := Holds.new w 35 #[.int .i64 L, .int .i64 C]
  replace hb := hb.alloc hb.size (.cells #[.int .i64 L, .int .i64 C] 35)
  refine (HA.out _).mono ?_
  rintro e w1 ⟨rfl, hb_w1⟩
  replace hb := hb.trans (hb_w1.mono hb.size)
  replace p0 := p0.below hb_w1 p0.lt
  clear hb_w1
  go_wp2_with fail
  have p1 := Holds.new w1 35 #[.int .i64 u, .int .i64 v]
  replace p0 := p0.alloc (.cells #[.int .i64 u, .int .i64 v] 35)
  replace hb := hb.alloc hb.size (.cells #[.int .i64 u, .int .i64 v] 35)
  refine (HA2.out _).mono ?_
  rintro e w2 ⟨rfl, hb_w2⟩
  replace hb := hb.trans (hb_w2.mono hb.size)
  replace p0 := p0.below hb_w2 p0.lt
  replace p1 := p1.below hb_w2 p1.lt
  clear hb_w2
  have c00 := p0.c20; have c01 := p0.c21; have l0 := p0.lt
  go_wp2_with fail
  clear c00 c01
  have p2 := Holds.new w2 35 #[.int .i64 u, .int .i64 v]
  replace p0 := p0.alloc (.cells #[.int .i64 u, .int .i64 v] 35)
  replace p1 := p1.alloc (.cells #[.int .i64 u, .int .i64 v] 35)
  replace hb := hb.alloc hb.size (.cells #[.int .i64 u, .int .i64 v] 35)
  refine (HO.out _).mono ?_
  rintro e w3 ⟨rfl, hb_w3⟩
  replace hb := hb.trans (hb_w3.mono hb.size)
  replace p0 := p0.below hb_w3 p0.lt
  replace p1 := p1.below hb_w3 p1.lt
  replace p2 := p2.below hb_w3 p2.lt
  clear hb_w3
  have c00 := p0.c20; have c01 := p0.c21
  go_wp2_with fail
  clear c00 c01
  refine (HO2.out _).mono ?_
  rintro e w4 ⟨rfl, hb_w4⟩
  replace hb := hb.trans (hb_w4.mono hb.size)
  replace p0 := p0.below hb_w4 p0.lt
  replace p1 := p1.below hb_w4 p1.lt
  replace p2 := p2.below hb_w4 p2.lt
  clear hb_w4
  have c00 := p0.c20; have c01 := p0.c21
  go_wp2_with fail
  clear c00 c01
  refine (HX.out _).mono ?_
  rintro e w5 ⟨rfl, hb_w5⟩
  replace hb := hb.trans (hb_w5.mono hb.size)
  replace p0 := p0.below hb_w5 p0.lt
  replace p1 := p1.below hb_w5 p1.lt
  replace p2 := p2.below hb_w5 p2.lt
  clear hb_w5
  have c00 := p0.c20; have c01 := p0.c21
  go_wp2_with fail
  clear c00 c01
  refine (HX2.out _).mono ?_
  rintro e w6 ⟨rfl, hb_w6⟩
  replace hb := hb.trans (hb_w6.mono hb.size)
  replace p0 := p0.below hb_w6 p0.lt
  replace p1 := p1.below hb_w6 p1.lt
  replace p2 := p2.below hb_w6 p2.lt
  clear hb_w6
  go_wp2_with fail
  refine (HN.out _).mono ?_
  rintro e w7 ⟨rfl, hb_w7⟩
  replace hb := hb.trans (hb_w7.mono hb.size)
  replace p0 := p0.below hb_w7 p0.lt
  replace p1 := p1.below hb_w7 p1.lt
  replace p2 := p2.below hb_w7 p2.lt
  clear hb_w7
  go_wp2_with fail
  refine (HN2.out _).mono ?_
  rintro e w8 ⟨rfl, hb_w8⟩
  replace hb := hb.trans (hb_w8.mono hb.size)
  replace p0 := p0.below hb_w8 p0.lt
  replace p1 := p1.below hb_w8 p1.lt
  replace p2 := p2.below hb_w8 p2.lt
  clear hb_w8
  have c10 := p1.c20; have c11 := p1.c21; have c20 := p2.c20; have c21 := p2.c21
  go_wp2_with (go_at_call 10; refine (knows _).mono ?_; rintro e w9 ⟨rfl, hb9⟩)
  go_ret
  exact ⟨rfl, hb.trans (hb9.mono hb.size)⟩

theorem law_lines (s : ByteArray) (p L C : Int) (w : World) (h1 : -9223372036854775808 ≤ L) (h2 : L ≤ 9223372036854775807) :
    Calls Try.prog 6 #[.string s, .int .i64 p, .agg #[.int .i64 L, .int .i64 C]] w fun e w' => e = .returned (.bool true) ∧ Below w.heap.size w w' := by
  by_cases h : 300 < s.size
  · exact lines_long s p L C w h
  · exact lines_short s p L C w h h1 h2
end Go.Proofs.Ytmgpfldlngjekaa
