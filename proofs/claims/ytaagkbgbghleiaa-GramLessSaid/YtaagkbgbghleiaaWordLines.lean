/-
  strings.Cut at a byte 10; the lines of a text, of both.
-/
import Derived.Test.YtaagkbgbghleiaaWordPlain
import Derived.Test.YtaagkbgbghleiaaTail
import Derived.Lib.IndexBytes
import Derived.Lib.IndexLaws
namespace Go.Proofs.Ytaagkbgbghleiaa
open Go.RowKit Go.Shelf
attribute [local go_sem] Oper.semAt_some

set_option maxRecDepth 20000 in
theorem index_byte (s : ByteArray) (c : Int) (w : World) :
    Calls Try.prog 125 #[.string s, .int .u8 c] w fun e w' => e = .returned (.int .i64 (Lib.indexByte s.data.toList c.toNat.toUInt8)) ∧ w = w' := by
  go_enter Try.func125, Try.ntmps125
  go_wp2
  rw [run_callFunc_extern Try.func132 (by kernel_rfl) (by kernel_rfl) (by kernel_rfl) (e := Extern.BytealgIndexByte.indexByte) (by kernel_rfl), Lib.run_indexByteString]
  simp only [Result.andThen]
  rw [Oper.upon_value]
  go_wp2
  go_ret
  exact ⟨rfl, rfl⟩

/-- Where the first byte 10 stands. -/
theorem index_ten {l : List UInt8} : Lib.indexByte l 10 = if upTo 10 l < l.length then (upTo 10 l : Int) else -1 := by
  have hge := Lib.indexByte_ge l 10
  rcases (show Lib.indexByte l 10 = -1 ∨ ∃ o : Nat, Lib.indexByte l 10 = (o : Int) from by
    rcases Int.lt_or_le (Lib.indexByte l 10) 0 with h | h
    · left; omega
    · right; exact ⟨(Lib.indexByte l 10).toNat, by omega⟩) with h | ⟨o, h⟩
  · rw [h, if_neg]
    intro hl
    exact Lib.indexByte_none h _ (upTo_at hl)
  · obtain ⟨h1, h2⟩ := Lib.indexByte_some h
    have ho := (List.getElem?_eq_some_iff.1 h1).1
    have : upTo 10 l = o := upTo_eq (by omega) (fun i hi x hx e => by subst e; exact h2 i hi hx) (.inr h1)
    rw [h, this, if_pos ho]

set_option maxRecDepth 20000 in
theorem lite_index (s : ByteArray) (w : World) :
    Calls Try.prog 118 #[.string s, .string ⟨#[10]⟩] w fun e w' => e = .returned (.int .i64 (if upTo 10 (bytes s) < s.size then (upTo 10 (bytes s) : Int) else -1)) ∧ w = w' := by
  have H := hidden (index_byte s 10 w)
  rw [show (10 : Int).toNat.toUInt8 = 10 from rfl, index_ten, show s.data.toList = bytes s from rfl, bytes_len] at H
  have H1 : Hid (([10] == s.toList) = true → (if upTo 10 (bytes s) < s.size then (upTo 10 (bytes s) : Int) else -1) = 0) := hidden (fun h => by
    have e := eq_of_beq h
    rw [ByteArray.toList_eq] at e
    have e2 : bytes s = [10] := e.symm
    rw [← bytes_len, e2]
    rfl)
  generalize (if upTo 10 (bytes s) < s.size then (upTo 10 (bytes s) : Int) else -1) = v at *
  cases hq : ([10] == s.toList) with
  | true =>
    have H2 := hidden (H1.out hq)
    go_enter Try.func118, Try.ntmps118
    go_wp2
    go_ret
    exact ⟨by rw [H2.out]; rfl, rfl⟩
  | false =>
    go_enter Try.func118, Try.ntmps118
    go_wp2_with fail
    refine H.out.mono ?_
    rintro e w' ⟨rfl, rfl⟩
    go_wp2
    go_ret
    exact ⟨rfl, rfl⟩

set_option maxRecDepth 20000 in
theorem lite_cut (s : ByteArray) (w : World) (hs : s.size ≤ 140737488355328) :
    Calls Try.prog 104 #[.string s, .string ⟨#[10]⟩] w fun e w' => e = .returned (if upTo 10 (bytes s) < s.size then .tuple #[.string (s.extract 0 (upTo 10 (bytes s))), .string (s.extract (upTo 10 (bytes s) + 1) s.size), .bool true] else .tuple #[.string s, .string ⟨#[]⟩, .bool false]) ∧ Below w.heap.size w w' := by
  have H := hidden (lite_index s w)
  generalize upTo 10 (bytes s) = m at *
  by_cases h : m < s.size
  · rw [if_pos h] at H ⊢
    have i1 : (0 : Int) ≤ (m : Int) + 1 := by omega
    have i2 : (m : Int) + 1 ≤ (s.size : Int) := by omega
    have i3 : (0 : Int) ≤ (m : Int) := by omega
    have i4 : (m : Int) ≤ (s.size : Int) := by omega
    go_enter Try.func104, Try.ntmps104
    go_wp2_with fail
    refine H.out.mono ?_
    rintro e w' ⟨rfl, rfl⟩
    clear H
    go_wp2_with fail
    refine wp_region_ext (by kernel_rfl) (by kernel_rfl) ?_
    repeat (go_big_quiet_step (fail))
    refine wpQuiet_nil ?_
    intro w2 hb2
    go_wp2
    go_ret3
    exact ⟨rfl, hb2⟩
  · rw [if_neg h] at H ⊢
    go_enter Try.func104, Try.ntmps104
    go_wp2_with fail
    refine H.out.mono ?_
    rintro e w' ⟨rfl, rfl⟩
    go_wp2
    go_ret3
    exact ⟨rfl, Below.refl _ _⟩
end Go.Proofs.Ytaagkbgbghleiaa
