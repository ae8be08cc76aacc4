/-
  strings.Cut at a plus.
-/
import Derived.Test.YtfmdmeokbbpmlaaGreatW1
namespace Go.Proofs.YtfmdmeokbbpmlaaGreat
open Go.RowKit Go.Shelf
attribute [local go_sem] Oper.semAt_some

/-- Where the first byte 43 stands. -/
theorem index_plus {l : List UInt8} : Lib.indexByte l 43 = if upTo 43 l < l.length then (upTo 43 l : Int) else -1 := by
  have hge := Lib.indexByte_ge l 43
  rcases (show Lib.indexByte l 43 = -1 ∨ ∃ o : Nat, Lib.indexByte l 43 = (o : Int) from by
    rcases Int.lt_or_le (Lib.indexByte l 43) 0 with h | h
    · left; omega
    · right; exact ⟨(Lib.indexByte l 43).toNat, by omega⟩) with h | ⟨o, h⟩
  · rw [h, if_neg]
    intro hl
    exact Lib.indexByte_none h _ (upTo_at hl)
  · obtain ⟨h1, h2⟩ := Lib.indexByte_some h
    have ho := (List.getElem?_eq_some_iff.1 h1).1
    have : upTo 43 l = o := upTo_eq (by omega) (fun i hi x hx e => by subst e; exact h2 i hi hx) (.inr h1)
    rw [h, this, if_pos ho]

set_option maxRecDepth 20000 in
theorem lite_index_p (s : ByteArray) (w : World) :
    Calls Tryz.prog 87 #[.string s, .string ⟨#[43]⟩] w fun e w' => e = .returned (.int .i64 (if upTo 43 (bytes s) < s.size then (upTo 43 (bytes s) : Int) else -1)) ∧ w = w' := by
  have H := hidden (index_byte s 43 w)
  rw [show (43 : Int).toNat.toUInt8 = 43 from rfl, index_plus, show s.data.toList = bytes s from rfl, bytes_len] at H
  have H1 : Hid (([43] == s.toList) = true → (if upTo 43 (bytes s) < s.size then (upTo 43 (bytes s) : Int) else -1) = 0) := hidden (fun h => by
    have e := eq_of_beq h
    rw [ByteArray.toList_eq] at e
    have e2 : bytes s = [43] := e.symm
    rw [← bytes_len, e2]
    rfl)
  generalize (if upTo 43 (bytes s) < s.size then (upTo 43 (bytes s) : Int) else -1) = v at *
  cases hq : ([43] == s.toList) with
  | true =>
    have H2 := hidden (H1.out hq)
    go_enter Tryz.func87, Tryz.ntmps87
    go_wp2
    go_ret
    exact ⟨by rw [H2.out]; rfl, rfl⟩
  | false =>
    go_enter Tryz.func87, Tryz.ntmps87
    go_wp2_with fail
    refine H.out.mono ?_
    rintro e w' ⟨rfl, rfl⟩
    go_wp2
    go_ret
    exact ⟨rfl, rfl⟩

set_option maxRecDepth 20000 in
theorem lite_cut_p (s : ByteArray) (w : World) (hs : s.size ≤ 140737488355328) :
    Calls Tryz.prog 67 #[.string s, .string ⟨#[43]⟩] w fun e w' => e = .returned (if upTo 43 (bytes s) < s.size then .tuple #[.string (s.extract 0 (upTo 43 (bytes s))), .string (s.extract (upTo 43 (bytes s) + 1) s.size), .bool true] else .tuple #[.string s, .string ⟨#[]⟩, .bool false]) ∧ Below w.heap.size w w' := by
  have H := hidden (lite_index_p s w)
  generalize upTo 43 (bytes s) = m at *
  by_cases h : m < s.size
  · rw [if_pos h] at H ⊢
    have i1 : (0 : Int) ≤ (m : Int) + 1 := by omega
    have i2 : (m : Int) + 1 ≤ (s.size : Int) := by omega
    have i3 : (0 : Int) ≤ (m : Int) := by omega
    have i4 : (m : Int) ≤ (s.size : Int) := by omega
    go_enter Tryz.func67, Tryz.ntmps67
    go_wp2_with fail
    refine H.out.mono ?_
    rintro e w' ⟨rfl, rfl⟩
    clear H
    go_wp2_with fail
    refine wp_region_ext (by kernel_rfl) (by kernel_rfl) ?_
    repeat (go_big_quiet_step (fail))
    refine wpQuiet_nil ?_
    intro w2 hb2
    go_wp2
    go_ret3
    exact ⟨rfl, hb2⟩
  · rw [if_neg h] at H ⊢
    go_enter Tryz.func67, Tryz.ntmps67
    go_wp2_with fail
    refine H.out.mono ?_
    rintro e w' ⟨rfl, rfl⟩
    go_wp2
    go_ret3
    exact ⟨rfl, Below.refl _ _⟩
set_option maxRecDepth 20000 in
theorem strings_cut_p (s : ByteArray) (w : World) (hs : s.size ≤ 140737488355328) :
    Calls Tryz.prog 42 #[.string s, .string ⟨#[43]⟩] w fun e w' => e = .returned (if upTo 43 (bytes s) < s.size then .tuple #[.string (s.extract 0 (upTo 43 (bytes s))), .string (s.extract (upTo 43 (bytes s) + 1) s.size), .bool true] else .tuple #[.string s, .string ⟨#[]⟩, .bool false]) ∧ Below w.heap.size w w' := by
  have H := hidden (lite_cut_p s w hs)
  generalize upTo 43 (bytes s) = m at *
  by_cases h : m < s.size
  · rw [if_pos h] at H ⊢
    go_enter Tryz.func42, Tryz.ntmps42
    go_wp2_with fail
    refine H.out.mono ?_
    rintro e w' ⟨rfl, hb⟩
    go_wp2
    go_ret3
    exact ⟨rfl, hb⟩
  · rw [if_neg h] at H ⊢
    go_enter Tryz.func42, Tryz.ntmps42
    go_wp2_with fail
    refine H.out.mono ?_
    rintro e w' ⟨rfl, hb⟩
    go_wp2
    go_ret3
    exact ⟨rfl, hb⟩

end Go.Proofs.YtfmdmeokbbpmlaaGreat
