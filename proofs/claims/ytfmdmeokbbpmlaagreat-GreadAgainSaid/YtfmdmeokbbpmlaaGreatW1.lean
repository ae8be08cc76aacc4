/-
  The lines and the words of a text, of both.
-/
import Derived.Test.YtfmdmeokbbpmlaaGreatLineA
import Derived.Test.YtfmdmeokbbpmlaaGreatC0
import Derived.Lib.IndexBytes
import Derived.Lib.IndexLaws
import Derived.Test.YtfmdmeokbbpmlaaGreatB1
import Derived.Sort.BigQuietIn
namespace Go.Proofs.YtfmdmeokbbpmlaaGreat
open Go.RowKit Go.Shelf
attribute [local go_sem] Oper.semAt_some

set_option maxRecDepth 20000 in
theorem index_byte (s : ByteArray) (c : Int) (w : World) :
    Calls Tryz.prog 101 #[.string s, .int .u8 c] w fun e w' => e = .returned (.int .i64 (Lib.indexByte s.data.toList c.toNat.toUInt8)) ∧ w = w' := by
  go_enter Tryz.func101, Tryz.ntmps101
  go_wp2
  rw [run_callFunc_extern Tryz.func122 (by kernel_rfl) (by kernel_rfl) (by kernel_rfl) (e := Extern.BytealgIndexByte.indexByte) (by kernel_rfl), Lib.run_indexByteString]
  simp only [Result.andThen]
  rw [Oper.upon_value]
  go_wp2
  go_ret
  exact ⟨rfl, rfl⟩

/-- Where the first byte 10 stands. -/
theorem index_ten {l : List UInt8} : Lib.indexByte l 10 = if upTo 10 l < l.length then (upTo 10 l : Int) else -1 := by
  have hge := Lib.indexByte_ge l 10
  rcases (show Lib.indexByte l 10 = -1 ∨ ∃ o : Nat, Lib.indexByte l 10 = (o : Int) from by
    rcases Int.lt_or_le (Lib.indexByte l 10) 0 with h | h
    · left; omega
    · right; exact ⟨(Lib.indexByte l 10).toNat, by omega⟩) with h | ⟨o, h⟩
  · rw [h, if_neg]
    intro hl
    exact Lib.indexByte_none h _ (upTo_at hl)
  · obtain ⟨h1, h2⟩ := Lib.indexByte_some h
    have ho := (List.getElem?_eq_some_iff.1 h1).1
    have : upTo 10 l = o := upTo_eq (by omega) (fun i hi x hx e => by subst e; exact h2 i hi hx) (.inr h1)
    rw [h, this, if_pos ho]

set_option maxRecDepth 20000 in
theorem lite_index (s : ByteArray) (w : World) :
    Calls Tryz.prog 87 #[.string s, .string ⟨#[10]⟩] w fun e w' => e = .returned (.int .i64 (if upTo 10 (bytes s) < s.size then (upTo 10 (bytes s) : Int) else -1)) ∧ w = w' := by
  have H := hidden (index_byte s 10 w)
  rw [show (10 : Int).toNat.toUInt8 = 10 from rfl, index_ten, show s.data.toList = bytes s from rfl, bytes_len] at H
  have H1 : Hid (([10] == s.toList) = true → (if upTo 10 (bytes s) < s.size then (upTo 10 (bytes s) : Int) else -1) = 0) := hidden (fun h => by
    have e := eq_of_beq h
    rw [ByteArray.toList_eq] at e
    have e2 : bytes s = [10] := e.symm
    rw [← bytes_len, e2]
    rfl)
  generalize (if upTo 10 (bytes s) < s.size then (upTo 10 (bytes s) : Int) else -1) = v at *
  cases hq : ([10] == s.toList) with
  | true =>
    have H2 := hidden (H1.out hq)
    go_enter Tryz.func87, Tryz.ntmps87
    go_wp2
    go_ret
    exact ⟨by rw [H2.out]; rfl, rfl⟩
  | false =>
    go_enter Tryz.func87, Tryz.ntmps87
    go_wp2_with fail
    refine H.out.mono ?_
    rintro e w' ⟨rfl, rfl⟩
    go_wp2
    go_ret
    exact ⟨rfl, rfl⟩

set_option maxRecDepth 20000 in
theorem lite_cut (s : ByteArray) (w : World) (hs : s.size ≤ 140737488355328) :
    Calls Tryz.prog 67 #[.string s, .string ⟨#[10]⟩] w fun e w' => e = .returned (if upTo 10 (bytes s) < s.size then .tuple #[.string (s.extract 0 (upTo 10 (bytes s))), .string (s.extract (upTo 10 (bytes s) + 1) s.size), .bool true] else .tuple #[.string s, .string ⟨#[]⟩, .bool false]) ∧ Below w.heap.size w w' := by
  have H := hidden (lite_index s w)
  generalize upTo 10 (bytes s) = m at *
  by_cases h : m < s.size
  · rw [if_pos h] at H ⊢
    have i1 : (0 : Int) ≤ (m : Int) + 1 := by omega
    have i2 : (m : Int) + 1 ≤ (s.size : Int) := by omega
    have i3 : (0 : Int) ≤ (m : Int) := by omega
    have i4 : (m : Int) ≤ (s.size : Int) := by omega
    go_enter Tryz.func67, Tryz.ntmps67
    go_wp2_with fail
    refine H.out.mono ?_
    rintro e w' ⟨rfl, rfl⟩
    clear H
    go_wp2_with fail
    refine wp_region_ext (by kernel_rfl) (by kernel_rfl) ?_
    repeat (go_big_quiet_step (fail))
    refine wpQuiet_nil ?_
    intro w2 hb2
    go_wp2
    go_ret3
    exact ⟨rfl, hb2⟩
  · rw [if_neg h] at H ⊢
    go_enter Tryz.func67, Tryz.ntmps67
    go_wp2_with fail
    refine H.out.mono ?_
    rintro e w' ⟨rfl, rfl⟩
    go_wp2
    go_ret3
    exact ⟨rfl, Below.refl _ _⟩
end Go.Proofs.YtfmdmeokbbpmlaaGreat

namespace Go.Proofs.YtfmdmeokbbpmlaaGreat
open Go.RowKit Go.Shelf

set_option maxRecDepth 20000 in
theorem strings_cut (s : ByteArray) (w : World) (hs : s.size ≤ 140737488355328) :
    Calls Tryz.prog 42 #[.string s, .string ⟨#[10]⟩] w fun e w' => e = .returned (if upTo 10 (bytes s) < s.size then .tuple #[.string (s.extract 0 (upTo 10 (bytes s))), .string (s.extract (upTo 10 (bytes s) + 1) s.size), .bool true] else .tuple #[.string s, .string ⟨#[]⟩, .bool false]) ∧ Below w.heap.size w w' := by
  have H := hidden (lite_cut s w hs)
  generalize upTo 10 (bytes s) = m at *
  by_cases h : m < s.size
  · rw [if_pos h] at H ⊢
    go_enter Tryz.func42, Tryz.ntmps42
    go_wp2_with fail
    refine H.out.mono ?_
    rintro e w' ⟨rfl, hb⟩
    go_wp2
    go_ret3
    exact ⟨rfl, hb⟩
  · rw [if_neg h] at H ⊢
    go_enter Tryz.func42, Tryz.ntmps42
    go_wp2_with fail
    refine H.out.mono ?_
    rintro e w' ⟨rfl, hb⟩
    go_wp2
    go_ret3
    exact ⟨rfl, hb⟩

theorem isEmpty_size (s : ByteArray) : s.toList.isEmpty = decide (s.size = 0) := by
  rw [Bool.eq_iff_iff, decide_eq_true_iff, List.isEmpty_iff, ← List.length_eq_zero_iff, ByteArray.toList_eq, Array.length_toList]
  rfl

def strLen : Value → Nat
  | .string c => c.size
  | _ => 0
/-- One line more is cut off. -/
theorem cut_line {s : ByteArray} {k : Nat} (hk : k < s.size) : ∃ e, k ≤ e ∧ e ≤ s.size ∧ linesAt s k = (k, e) :: linesAt s (e + 1) ∧
    (e < s.size ∧ s[e]? = some 10 ∧ upTo 10 (bytes (s.extract k s.size)) < (s.extract k s.size).size ∧ (s.extract k s.size).extract 0 (upTo 10 (bytes (s.extract k s.size))) = s.extract k e ∧ (s.extract k s.size).extract (upTo 10 (bytes (s.extract k s.size)) + 1) (s.extract k s.size).size = s.extract (e + 1) s.size ∨
     e = s.size ∧ ¬ upTo 10 (bytes (s.extract k s.size)) < (s.extract k s.size).size) := by
  have hsz := extract_size s (a := k) (b := s.size) (Nat.le_refl _)
  have hb : bytes (s.extract k s.size) = (bytes s).drop k := by
    unfold bytes
    rw [ByteArray.data_extract, Array.toList_extract]
    have : s.data.toList.length = s.size := bytes_len s
    simp [List.extract, List.take_of_length_le, this]
  have hle := upTo_le 10 (bytes (s.extract k s.size))
  have hlt := fun i (h : i < upTo 10 (bytes (s.extract k s.size))) => upTo_lt h
  have hat := upTo_at (c := 10) (l := bytes (s.extract k s.size))
  rw [hb] at hle hlt hat ⊢
  have hdl : ((bytes s).drop k).length = s.size - k := by rw [List.length_drop, bytes_len]
  generalize upTo 10 ((bytes s).drop k) = m at *
  have hn : ∀ j (h : j < s.size), k ≤ j → j < k + m → s[j] ≠ 10 := fun j h h1 h2 => by
    obtain ⟨x, hx, hne⟩ := hlt (j - k) (by omega)
    rw [List.getElem?_drop, show k + (j - k) = j by omega, bytes_at h] at hx
    cases hx; exact hne
  by_cases h : m < s.size - k
  · have h10 : s[k + m]'(by omega) = 10 := by
      have := hat (by omega)
      rw [List.getElem?_drop, bytes_at (show k + m < s.size by omega)] at this
      exact Option.some.inj this
    refine ⟨k + m, by omega, by omega, linesAt_step hk (by omega) (by omega) hn (fun _ => h10), .inl ⟨by omega, by rw [getElem?_pos s (k + m) (by omega), h10], by omega, ?_, ?_⟩⟩
    · rw [extract_extract s k s.size 0 m (by omega)]; rfl
    · rw [extract_extract s k s.size (m + 1) _ (by omega), hsz, show k + (s.size - k) = s.size by omega, show k + (m + 1) = k + m + 1 by omega]
  · exact ⟨s.size, by omega, Nat.le_refl _, linesAt_step hk (by omega) (Nat.le_refl _) (fun j h h1 h2 => hn j h h1 (by omega)) (fun h => absurd h (Nat.lt_irrefl _)), .inr ⟨rfl, by omega⟩⟩

set_option maxRecDepth 20000 in
set_option maxHeartbeats 4000000 in
theorem word_lines (s : ByteArray) (w : World) (hs : s.size ≤ 1000000) :
    Calls Tryz.prog 18 #[.string s] w fun r w' => (∃ u, r = .returned u ∧ Hid (StrsM w' w.heap.size u (linesOf s))) ∧ Below w.heap.size w w' := by
  have HI := str_info
  have HC := hidden (fun k (h : k < s.size) => cut_line h)
  have HE := hidden (linesAt_end s)
  have HQ : Hid (∀ k, k ≤ s.size → (s.extract k s.size).size = s.size - k) := hidden (fun k _ => extract_size s (Nat.le_refl _))
  have hx0 := extract_all s
  have hb := Below.refl w.heap.size w
  have HEmp : Hid (⟨#[]⟩ = s.extract s.size s.size) := hidden (extract_empty s s.size).symm
  have HPast : Hid (∀ k, s.size ≤ k → linesAt s k = []) := hidden (fun k h => linesAt_past h)
  obtain ⟨c0, hc0, hc1⟩ : ∃ c0, c0 = s ∧ c0 = s.extract 0 s.size := ⟨s, rfl, hx0.symm⟩
  rw [show (Value.string s : Value) = .string c0 by rw [hc0]]
  have HC0 := hidden hc1
  clear hc0 hc1 hx0
  go_enter Tryz.func18, Tryz.ntmps18
  go_wp2
  go_loopw [0, 3] (fun ss vv wr => ∃ (k : Nat) (cur : ByteArray) (pre : List (Nat × Nat)), k ≤ s.size ∧ ss = .string cur ∧ Hid (cur = s.extract k s.size) ∧ pre.length ≤ k ∧ Hid (linesAt s 0 = pre ++ linesAt s k) ∧ Hid (StrsM wr w.heap.size vv (pre.map (cutTo s))) ∧ Below w.heap.size w wr)
    (fun ss _ _ => strLen ss)
  case atStart => exact ⟨0, c0, [], by omega, rfl, HC0, by simp, hidden rfl, hidden (Mine.nil _ _ _ _), hb⟩
  case round =>
    clear hb HC0
    obtain ⟨k, cur, pre, hk, rfl, HCu, hpl, HL, HM, hb⟩ := hrel
    have hsz := HQ.out k hk
    rw [← HCu.out] at hsz
    have hem := isEmpty_size cur
    by_cases hlt : k < s.size
    · have q1 : cur.toList.isEmpty = false := by rw [hem]; exact decide_eq_false (by omega)
      have q2 : cur.toList ≠ [] := by intro e; rw [e] at q1; cases q1
      have hcut := strings_cut cur wr (by omega)
      obtain ⟨e, e1, e2, e3, hcase⟩ := HC.out k hlt
      rw [← HCu.out] at hcase
      have key : ∃ (line rest : ByteArray) (fb : Bool) (k' : Nat), Hid (Calls Tryz.prog 42 #[.string cur, .string ⟨#[10]⟩] wr fun r w' => r = .returned (.tuple #[.string line, .string rest, .bool fb]) ∧ Below wr.heap.size wr w') ∧
          Hid (cutTo s (k, e) = line) ∧ Hid (rest = s.extract k' s.size) ∧ k < k' ∧ k' ≤ s.size ∧ Hid (linesAt s k = (k, e) :: linesAt s k') := by
        rcases hcase with ⟨g1, _, g2, g3, g4⟩ | ⟨g1, g2⟩
        · rw [if_pos g2, g3, g4] at hcut
          exact ⟨_, _, _, e + 1, hidden hcut, hidden rfl, hidden rfl, by omega, by omega, hidden e3⟩
        · rw [if_neg g2] at hcut
          refine ⟨_, _, _, s.size, hidden hcut, hidden ?_, HEmp, hlt, Nat.le_refl _, hidden ?_⟩
          · rw [HCu.out, g1]; rfl
          · rw [e3, HE.out, HPast.out _ (by omega)]
      obtain ⟨line, rest, fb, k', HCut, HLi, HRe, hk1, hk2, HE3⟩ := key
      have hrs := HQ.out k' hk2
      rw [← HRe.out] at hrs
      have hrs2 : rest.size < cur.size := by omega
      clear hem e3 hcut hcase hsz hrs
      go_wp2_with fail
      refine HCut.out.mono ?_
      rintro r w2 ⟨rfl, hb2⟩
      have HM2 := hidden ((HM.out.below hb2).alloc (.cells #[.string line] 9))
      have HX := hidden (Rd.single w2 9 (.string line) w2.heap.size rfl)
      have H1 := one_str line
      replace hb := (hb.trans (hb2.mono hb.size)).alloc (Nat.le_trans hb.size hb2.size) (.cells #[.string line] 9)
      have hbz := hb.size
      have hpl2 : (pre.map (cutTo s)).length ≤ k := by simpa using hpl
      clear HCut HM hb2
      go_wp2_with (at_builtin; refine wpList_append_all rfl _ _ 24 9 rfl (by kernel_rfl) HI rfl (by decide) w.heap.size _ _ _ HM2 _ _ _ HX H1 rfl rfl (by omega) (by decide) hbz ?_; intro v' w' hA)
      go_roundw
      case rel =>
        refine ⟨k', rest, pre ++ [(k, e)], hk2, rfl, HRe, by simp; omega, hidden (by rw [HL.out, HE3.out]; simp), ?_, hb.trans hA.out.below⟩
        rw [List.map_append, List.map_cons, List.map_nil, HLi.out]
        exact hidden (StrsM.snoc hA.out)
      case measure => simp [strLen]; omega
    · obtain rfl : k = s.size := by omega
      have q1 : cur.toList.isEmpty = true := by rw [hem]; exact decide_eq_true (by omega)
      have q2 : cur.toList = [] := List.isEmpty_iff.1 q1
      have HR : Hid (pre.map (cutTo s) = linesOf s) := hidden (by
        unfold linesOf; rw [HL.out, HE.out, List.append_nil])
      rw [HR.out] at HM
      clear hem
      go_wp2
      go_ret
      exact ⟨⟨_, rfl, HM⟩, hb⟩
end Go.Proofs.YtfmdmeokbbpmlaaGreat

namespace Go.Proofs.YtfmdmeokbbpmlaaGreat
open Go.RowKit Go.Shelf

theorem byte_ne {x : UInt8} {c : UInt8} (h : x ≠ c) : ((x.toNat : Int) == (c.toNat : Int)) = false := by
  rw [beq_eq_false_iff_ne]
  intro e
  exact h (UInt8.toNat_inj.1 (by omega))

set_option maxRecDepth 20000 in
set_option maxHeartbeats 4000000 in
theorem ref_words (s : ByteArray) (w : World) (hs : s.size ≤ 1000000) :
    Calls Tryz.prog 15 #[.string s] w fun r w' => (∃ u, r = .returned u ∧ Hid (StrsM w' w.heap.size u (wordsOf s))) ∧ Below w.heap.size w w' := by
  have HI := str_info
  have hb := (Below.refl w.heap.size w).alloc (Nat.le_refl _) (.cells #[] 9)
  have HSt : Hid (∀ b e, b < e → e ≤ s.size → (∀ j (h : j < s.size), b ≤ j → j < e → s[j] ≠ 32) → (∀ h : e < s.size, s[e] = 32) → wordsAt s b = (b, e) :: wordsAt s (e + 1)) := hidden (fun b e h1 h2 h3 h4 => wordsAt_step h1 h2 h3 h4)
  have HBl : Hid (∀ k (h : k < s.size), s[k] = 32 → wordsAt s k = wordsAt s (k + 1)) := hidden (fun k h hc => wordsAt_blank h hc)
  have HPast : Hid (∀ k, s.size ≤ k → wordsAt s k = []) := hidden (fun k h => wordsAt_past h)
  have HEmp : Hid (∀ k, ⟨#[]⟩ = s.extract k k) := hidden (fun k => (extract_empty s k).symm)
  have HCat : Hid (∀ b k, b ≤ k → s.extract b k ++ s.extract k (k + 1) = s.extract b (k + 1)) := hidden (fun b k h => extract_append s h (by omega))
  have HSz : Hid (∀ b k, k ≤ s.size → (s.extract b k).size = k - b) := hidden (fun b k h => extract_size s h)
  go_enter Tryz.func15, Tryz.ntmps15
  go_wp2
  go_loopw [3, 4, 5] (fun vv ww kk wr => ∃ (k b : Nat) (cur : ByteArray) (pre : List (Nat × Nat)), kk = .int .i64 k ∧ ww = .string cur ∧ Hid (cur = s.extract b k) ∧ b ≤ k ∧ k ≤ s.size ∧ pre.length ≤ b ∧ Hid (∀ j (h : j < s.size), b ≤ j → j < k → s[j] ≠ 32) ∧ Hid (wordsAt s 0 = pre ++ wordsAt s b) ∧ Hid (StrsM wr w.heap.size vv (pre.map (cutTo s))) ∧ Below w.heap.size w wr)
    (fun _ _ kk _ => s.size - (intOf kk).toNat)
  case atStart => exact ⟨0, 0, ⟨#[]⟩, [], rfl, rfl, hidden (HEmp.out 0), by omega, by omega, by simp, hidden (fun j h h1 h2 => by omega), hidden rfl, hidden (Mine.fresh_nil _ _ _ _ _), hb⟩
  case round =>
    clear hb
    obtain ⟨k, b, cur, pre, rfl, rfl, HCu, hbk, hk, hpl, HN, HL, HM, hb⟩ := hrel
    have hbz := hb.size
    have hpl2 : (pre.map (cutTo s)).length ≤ b := by simpa using hpl
    have hcs := HSz.out b k hk
    rw [← HCu.out] at hcs
    have hem := isEmpty_size cur
    by_cases hlt : k < s.size
    · have hcl := (s[k]'hlt).toNat_lt
      by_cases hc : s[k]'hlt = 32
      · have q : (((s[k]'hlt).toNat : Int) != 32) = false := by rw [hc]; rfl
        by_cases hbk2 : b < k
        · have q1 : cur.toList.isEmpty = false := by rw [hem]; exact decide_eq_false (by omega)
          have q2 : cur.toList ≠ [] := by intro e; rw [e] at q1; cases q1
          have HE3 := hidden (HSt.out b k hbk2 hk HN.out (fun _ => hc))
          have HM2 := hidden (Mine.alloc HM.out (.cells #[.string cur] 9))
          have HX := hidden (Rd.single wr 9 (.string cur) wr.heap.size rfl)
          have H1 := one_str cur
          have hb2 := hb.alloc hbz (.cells #[.string cur] 9)
          have hbz2 := hb2.size
          have HCu2 : Hid (cutTo s (b, k) = cur) := hidden HCu.out.symm
          clear hc hem hcs HCu
          go_wp2_with (at_builtin; refine wpList_append_all rfl _ _ 24 9 rfl (by kernel_rfl) HI rfl (by decide) w.heap.size _ _ _ HM2 _ _ _ HX H1 rfl rfl (by omega) (by decide) hbz2 ?_; intro v' w' hA)
          go_roundw
          case rel =>
            refine ⟨k + 1, k + 1, ⟨#[]⟩, pre ++ [(b, k)], by go_num, rfl, hidden (HEmp.out _), Nat.le_refl _, by omega, by simp; omega, hidden (fun j h h1 h2 => by omega), hidden (by rw [HL.out, HE3.out]; simp), ?_, hb2.trans hA.out.below⟩
            rw [List.map_append, List.map_cons, List.map_nil, HCu2.out]
            exact hidden (StrsM.snoc hA.out)
          case measure => simp [intOf]; omega
        · obtain rfl : b = k := by omega
          have q1 : cur.toList.isEmpty = true := by rw [hem]; exact decide_eq_true (by omega)
          have q2 : cur.toList = [] := List.isEmpty_iff.1 q1
          have HB3 := hidden (HBl.out b hlt hc)
          clear hc hem hcs HCu
          go_wp2
          go_roundw
          case rel => exact ⟨b + 1, b + 1, ⟨#[]⟩, pre, by go_num, rfl, hidden (HEmp.out _), Nat.le_refl _, by omega, by omega, hidden (fun j h h1 h2 => by omega), hidden (by rw [HL.out, HB3.out]), HM, hb⟩
          case measure => simp [intOf]; omega
      · have q0 := byte_ne hc
        have q : (((s[k]'hlt).toNat : Int) != 32) = true := by rw [bne, show (32 : Int) = ((32 : UInt8).toNat : Int) from rfl, q0]; rfl
        have HN2 : Hid (∀ j (h : j < s.size), b ≤ j → j < k + 1 → s[j] ≠ 32) := hidden (fun j h h1 h2 => by
          by_cases e : j = k
          · subst e; exact hc
          · exact HN.out j h h1 (by omega))
        have HCu2 : Hid (cur ++ s.extract k (k + 1) = s.extract b (k + 1)) := hidden (by rw [HCu.out, HCat.out b k hbk])
        clear hc q0 hem
        go_wp2
        go_roundw
        case rel => exact ⟨k + 1, b, _, pre, by go_num, rfl, HCu2, by omega, by omega, hpl, HN2, HL, HM, hb⟩
        case measure => simp [intOf]; omega
    · obtain rfl : k = s.size := by omega
      by_cases hbs : b < s.size
      · have q1 : cur.toList.isEmpty = false := by rw [hem]; exact decide_eq_false (by omega)
        have q2 : cur.toList ≠ [] := by intro e; rw [e] at q1; cases q1
        have HE3 := hidden (HSt.out b s.size hbs (Nat.le_refl _) HN.out (fun h => absurd h (Nat.lt_irrefl _)))
        have HR : Hid (pre.map (cutTo s) ++ [cur] = wordsOf s) := hidden (by
          unfold wordsOf; rw [HL.out, HE3.out, HPast.out _ (by omega), HCu.out]; simp [cutTo])
        have HM2 := hidden (Mine.alloc HM.out (.cells #[.string cur] 9))
        have HX := hidden (Rd.single wr 9 (.string cur) wr.heap.size rfl)
        have H1 := one_str cur
        have hb2 := hb.alloc hbz (.cells #[.string cur] 9)
        have hbz2 := hb2.size
        clear hem hcs HCu
        go_wp2_with (at_builtin; refine wpList_append_all rfl _ _ 24 9 rfl (by kernel_rfl) HI rfl (by decide) w.heap.size _ _ _ HM2 _ _ _ HX H1 rfl rfl (by omega) (by decide) hbz2 ?_; intro v' w' hA)
        go_ret
        have hfin := hidden (StrsM.snoc hA.out)
        rw [HR.out] at hfin
        exact ⟨⟨_, rfl, hfin⟩, hb2.trans hA.out.below⟩
      · obtain rfl : b = s.size := by omega
        have q1 : cur.toList.isEmpty = true := by rw [hem]; exact decide_eq_true (by omega)
        have q2 : cur.toList = [] := List.isEmpty_iff.1 q1
        have HR : Hid (pre.map (cutTo s) = wordsOf s) := hidden (by
          unfold wordsOf; rw [HL.out, HPast.out _ (Nat.le_refl _), List.append_nil])
        rw [HR.out] at HM
        clear hem hcs HCu
        go_wp2
        go_ret
        exact ⟨⟨_, rfl, HM⟩, hb⟩
end Go.Proofs.YtfmdmeokbbpmlaaGreat

namespace Go.Proofs.YtfmdmeokbbpmlaaGreat
open Go.RowKit Go.Shelf
attribute [local go_sem] Oper.semAt_some

/-- A word's stretch. -/
abbrev Sw (s : ByteArray) := { p : Nat × Nat // p.1 < p.2 ∧ p.2 ≤ s.size }
abbrev encW {s : ByteArray} (p : Sw s) : Array Value := #[.int .i64 (p.1.1 : Int), .int .i64 (p.1.2 : Int)]

set_option maxRecDepth 20000 in
set_option maxHeartbeats 4000000 in
theorem words1_in (n : Nat) (hn : 1 ≤ n) (l Bs : Nat) (T : Nat → Prop) (s : ByteArray) (hs : s.size ≤ 1000000) (J Jx : List (Sw s) → World → Prop)
    (hY : ∀ pre x W, J pre W → pre.length < (wordsAt s 0).length → YieldAt Fence.wide (n - 1) Tryz.prog l (encW x) W fun e W' =>
      (e = .returned (.bool true) ∧ J (pre ++ [x]) W' ∧ Keeps T W W') ∨ (e = .returned (.bool false) ∧ Jx (pre ++ [x]) W'))
    (W : World) (hT : T Bs) (hc : W.cell? ⟨Bs, 0, none⟩ = some (.string s)) (h0 : J [] W) :
    CallsIn Fence.wide n Tryz.prog 68 #[.func (.yield l) #[] #[], .pointer (some ⟨Bs, 0, none⟩)] W fun e W' => (∃ v, e = .returned v) ∧
      ((∃ ys : List (Sw s), ys.map (·.1) = wordsAt s 0 ∧ J ys W') ∨ (∃ pre : List (Sw s), pre.map (·.1) <+: wordsAt s 0 ∧ Jx pre W')) := by
  have HSt : Hid (∀ b e, b < e → e ≤ s.size → (∀ j (h : j < s.size), b ≤ j → j < e → s[j] ≠ 32) → (∀ h : e < s.size, s[e] = 32) → wordsAt s b = (b, e) :: wordsAt s (e + 1)) := hidden (fun b e h1 h2 h3 h4 => wordsAt_step h1 h2 h3 h4)
  have HBl : Hid (∀ k (h : k < s.size), s[k] = 32 → wordsAt s k = wordsAt s (k + 1)) := hidden (fun k h hc => wordsAt_blank h hc)
  have HPast : Hid (∀ k, s.size ≤ k → wordsAt s k = []) := hidden (fun k h => wordsAt_past h)
  refine callsIn_of_wp Tryz.func68 rfl trivial ?_ rfl
  simp only [Tryz.ntmps68, List.size_toArray, List.length_cons, List.length_nil, Nat.reduceAdd, Nat.reduceSub, Array.replicate_succ, Array.replicate_zero, List.push_toArray, List.append_toArray, List.nil_append, List.cons_append]
  gi_wp2
  gi_loopw [3] (fun p wr => ∃ (k : Nat) (pre : List (Sw s)), p = .int .i64 k ∧ k ≤ s.size + 1 ∧ Hid (wordsAt s 0 = pre.map (·.1) ++ wordsAt s k) ∧ wr.cell? ⟨Bs, 0, none⟩ = some (.string s) ∧ Hid (J pre wr))
    (fun p _ => s.size + 1 - (intOf p).toNat)
  case atStart => exact ⟨0, [], rfl, by omega, hidden rfl, hc, hidden h0⟩
  case round =>
    clear hc h0
    obtain ⟨k, pre, rfl, hk, HL, hc, HJ⟩ := hrel
    by_cases hlt : k < s.size
    · have hcl := (s[k]'hlt).toNat_lt
      by_cases hc32 : s[k]'hlt = 32
      · have q : (((s[k]'hlt).toNat : Int) == 32) = true := by rw [hc32]; rfl
        have HL2 : Hid (wordsAt s 0 = pre.map (·.1) ++ wordsAt s (k + 1)) := hidden (by rw [HL.out, HBl.out k hlt hc32])
        clear hc32
        gi_wp2
        go_roundw
        case rel => exact ⟨k + 1, pre, by go_num, by omega, HL2, hc, HJ⟩
        case measure => simp [intOf]; omega
      · have q := byte_ne hc32
        rw [show ((32 : UInt8).toNat : Int) = 32 from rfl] at q
        have H0 : Hid (∀ j (h : j < s.size), k ≤ j → j < k → s[j] ≠ 32) := hidden (fun j h h1 h2 => by omega)
        have HN1 : Hid (s[k]'hlt ≠ 32) := hidden hc32
        clear hc32
        gi_wp2
        gi_loopw [4] (fun p wi => ∃ e : Nat, p = .int .i64 e ∧ k ≤ e ∧ e ≤ s.size ∧ Hid (∀ j (h : j < s.size), k ≤ j → j < e → s[j] ≠ 32) ∧ wi.cell? ⟨Bs, 0, none⟩ = some (.string s) ∧ Hid (J pre wi)) (fun p _ => s.size - (intOf p).toNat)
        case atStart => exact ⟨k, rfl, Nat.le_refl _, by omega, H0, hc, HJ⟩
        case round =>
          clear H0 hc HJ q hcl
          obtain ⟨e, rfl, hke, hes, HN, hc, HJ⟩ := hrel
          have hcont : ∀ (he : e = s.size ∨ ∃ h : e < s.size, s[e] = 32), k < e ∧ Hid (wordsAt s k = (k, e) :: wordsAt s (e + 1)) := fun he => by
            have hlt2 : k < e := by
              rcases Nat.lt_or_ge k e with h | h
              · exact h
              · obtain rfl : e = k := by omega
                rcases he with h | ⟨_, h⟩
                · omega
                · exact absurd h HN1.out
            exact ⟨hlt2, hidden (HSt.out k e hlt2 hes HN.out (fun h => by
              rcases he with h' | ⟨_, h'⟩
              · omega
              · exact h'))⟩
          have HCont := hidden hcont
          clear hcont
          by_cases hel : e < s.size
          · have hcl := (s[e]'hel).toNat_lt
            by_cases hc32 : s[e]'hel = 32
            · have q : (((s[e]'hel).toNat : Int) != 32) = false := by rw [hc32]; rfl
              obtain ⟨hlt2, HStep⟩ := HCont.out (.inr ⟨hel, hc32⟩)
              clear hc32
              have HL2 : Hid (wordsAt s 0 = pre.map (·.1) ++ ((k, e) :: wordsAt s (e + 1))) := hidden (by rw [HL.out, HStep.out])
              have hlen : pre.length < (wordsAt s 0).length := by rw [HL2.out]; simp
              obtain ⟨fn, tmps, assign, body, hy, hR⟩ := hY pre ⟨(k, e), hlt2, hes⟩ wr HJ.out hlen
              have HR := hidden hR
              dsimp only [encW] at hy
              clear hR hlen HCont HStep HN
              gi_wp2
              refine HR.out.mono ?_
              rintro r W3 (⟨rfl, hJ3, hk3⟩ | ⟨rfl, hJx3⟩)
              · have hc3 := hk3.cell (a := ⟨Bs, 0, none⟩) hT hc
                have HJ3 := hidden hJ3
                clear hJ3 hk3 hc
                gi_wp2
                go_roundw
                case rel => exact ⟨e + 1, pre ++ [⟨(k, e), hlt2, hes⟩], by go_num, by omega, hidden (by rw [HL2.out]; simp), hc3, HJ3⟩
                case measure => simp [intOf]; omega
              · gi_wp2
                refine bodyPost_ret (results_none rfl _ _ _) rfl ?_
                exact ⟨⟨_, rfl⟩, .inr ⟨_, by rw [HL2.out]; simp, hJx3⟩⟩
            · have q0 := byte_ne hc32
              have q : (((s[e]'hel).toNat : Int) != 32) = true := by rw [bne, show (32 : Int) = ((32 : UInt8).toNat : Int) from rfl, q0]; rfl
              have HN2 : Hid (∀ j (h : j < s.size), k ≤ j → j < e + 1 → s[j] ≠ 32) := hidden (fun j h h1 h2 => by
                by_cases ee : j = e
                · subst ee; exact hc32
                · exact HN.out j h h1 (by omega))
              clear hc32 q0
              gi_wp2
              go_roundw
              case rel => exact ⟨e + 1, by go_num, by omega, by omega, HN2, hc, HJ⟩
              case measure => simp [intOf]; omega
          · obtain rfl : e = s.size := by omega
            obtain ⟨hlt2, HStep⟩ := HCont.out (.inl rfl)
            have HL2 : Hid (wordsAt s 0 = pre.map (·.1) ++ ((k, s.size) :: wordsAt s (s.size + 1))) := hidden (by rw [HL.out, HStep.out])
            have hlen : pre.length < (wordsAt s 0).length := by rw [HL2.out]; simp
            obtain ⟨fn, tmps, assign, body, hy, hR⟩ := hY pre ⟨(k, s.size), hlt2, hes⟩ wr HJ.out hlen
            have HR := hidden hR
            dsimp only [encW] at hy
            clear hR hlen HCont HStep HN
            gi_wp2
            refine HR.out.mono ?_
            rintro r W3 (⟨rfl, hJ3, hk3⟩ | ⟨rfl, hJx3⟩)
            · have hc3 := hk3.cell (a := ⟨Bs, 0, none⟩) hT hc
              have HJ3 := hidden hJ3
              clear hJ3 hk3 hc
              gi_wp2
              go_roundw
              case rel => exact ⟨s.size + 1, pre ++ [⟨(k, s.size), hlt2, hes⟩], by go_num, by omega, hidden (by rw [HL2.out]; simp), hc3, HJ3⟩
              case measure => simp [intOf]; omega
            · gi_wp2
              refine bodyPost_ret (results_none rfl _ _ _) rfl ?_
              exact ⟨⟨_, rfl⟩, .inr ⟨_, by rw [HL2.out]; simp, hJx3⟩⟩
    · have HL2 := hidden (HL.out)
      rw [HPast.out k (by omega), List.append_nil] at HL2
      gi_wp2
      exact ⟨rfl, _, results_none rfl _ _ _, ⟨_, rfl⟩, .inl ⟨pre, HL2.out.symm, HJ.out⟩⟩
end Go.Proofs.YtfmdmeokbbpmlaaGreat

namespace Go.Proofs.YtfmdmeokbbpmlaaGreat
open Go.RowKit Go.Shelf
attribute [local go_sem] Oper.semAt_some

theorem Mine.own_ge {w : World} {b : Nat} {e : TypeId} {size n : Nat} {v : Value} {xs : List Value} (h : Mine w b e size v n xs) (hn : 0 < n) : ∀ g, v.ownBlock = some g → b ≤ g := by
  intro g hg
  rcases (h.own hn).2 with ⟨rfl, _⟩ | ⟨g', cap, cur, rfl, hb, _⟩
  · cases hg
  · cases hg; exact hb
theorem Keeps.mono {T T' : Nat → Prop} {W W' : World} (h : Keeps T W W') (hT : ∀ k, T' k → T k) : Keeps T' W W' := ⟨h.size, fun k hk => h.block k (hT k hk)⟩

theorem words1_stops (n : Nat) (hn : 1 ≤ n) (Bs : Nat) (T : Nat → Prop) (s : ByteArray) (hs : s.size ≤ 1000000) (w : World) (hT : ∀ k, T k → k < w.heap.size) (hTb : T Bs) (hc : w.cell? ⟨Bs, 0, none⟩ = some (.string s)) :
    SeqStopsK Fence.wide n Tryz.prog 68 #[.pointer (some ⟨Bs, 0, none⟩)] encW (Keeps T) (fun ys : List (Sw s) => ys.map (·.1) = wordsAt s 0) (fun pre => pre.map (·.1) <+: wordsAt s 0) (wordsAt s 0).length w :=
  fun l J Jx W hW _ _ hY h0 => words1_in n hn l Bs T s hs J Jx hY W hTb ((hW.cell (p := ⟨Bs, 0, none⟩) (hT _ hTb)).trans hc) h0

theorem word_stretches (s : ByteArray) (w : World) :
    Calls Tryz.prog 43 #[.string s] w fun e w' => e = .returned (.func (.func 68) #[] #[.pointer (some ⟨w.heap.size, 0, none⟩)]) ∧ w.alloc (.cells #[.string s] 9) = w' := by
  go_enter Tryz.func43, Tryz.ntmps43
  go_wp2
  go_ret
  exact ⟨rfl, rfl⟩

theorem spans_len (s : ByteArray) : ∀ n k, s.size - k ≤ n → (wordsAt s k).length ≤ s.size - k := by
  intro n
  induction n with
  | zero => intro k h; rw [wordsAt_past (by omega)]; simp
  | succ n ih =>
    intro k h
    by_cases hk : k < s.size
    · by_cases hc : s[k] = 32
      · rw [wordsAt_blank hk hc]
        have := ih (k + 1) (by omega)
        omega
      · cases hw : wordsAt s k with
        | nil => simp
        | cons p r =>
          have hb := span_bounds_w s _ k (Nat.le_refl _)
          rw [hw] at hb
          have hp := hb p (List.mem_cons_self ..)
          have hr : r = wordsAt s (p.2 + 1) := by
            have hl : upTo 32 ((bytes s).drop k) ≤ s.size - k := by
              have := upTo_le 32 ((bytes s).drop k)
              rwa [List.length_drop, bytes_len] at this
            have hpos : 0 < upTo 32 ((bytes s).drop k) := by
              rcases Nat.eq_zero_or_pos (upTo 32 ((bytes s).drop k)) with h0 | h0
              · exfalso
                have := upTo_at (c := 32) (l := (bytes s).drop k) (by rw [h0, List.length_drop, bytes_len]; omega)
                rw [h0, List.getElem?_drop, Nat.add_zero, bytes_at hk] at this
                exact hc (Option.some.inj this)
              · exact h0
            have hst := wordsAt_step (s := s) (b := k) (e := k + upTo 32 ((bytes s).drop k)) (by omega) (by omega) (fun j hj h1 h2 => by
              obtain ⟨x, hx, hne⟩ := upTo_lt (c := 32) (l := (bytes s).drop k) (i := j - k) (by omega)
              rw [List.getElem?_drop, show k + (j - k) = j by omega, bytes_at hj] at hx
              cases hx; exact hne) (fun h => by
              have := upTo_at (c := 32) (l := (bytes s).drop k) (by rw [List.length_drop, bytes_len]; omega)
              rw [List.getElem?_drop, bytes_at h] at this
              exact Option.some.inj this)
            rw [hst] at hw
            cases hw; rfl
          have := ih (p.2 + 1) (by omega)
          rw [← hr] at this
          simp; omega
    · rw [wordsAt_past (by omega)]; simp

def WdI (w : World) (s : ByteArray) (pre : List (Sw s)) (W : World) : Prop :=
  ∃ l, Holds W w.heap.size 9 #[.string s] ∧ Holds W (w.heap.size + 1) 24 #[l] ∧ Hid (Mine W (w.heap.size + 1 + 1 + 1) 9 1 l pre.length ((pre.map fun p => cutTo s p.1).flatMap strC)) ∧ Hid (∀ g, l.ownBlock = some g → w.heap.size + 1 + 1 + 1 ≤ g) ∧ (∃ A c, l = .slice A pre.length c) ∧ Below w.heap.size w W ∧ w.heap.size + 1 + 1 < W.heap.size
def WdX (s : ByteArray) (_ : Code) (_ : List (Sw s)) (_ : World) : Prop := False

set_option maxRecDepth 20000 in
set_option maxHeartbeats 8000000 in
theorem word_words (s : ByteArray) (w : World) (hs : s.size ≤ 1000000) :
    Calls Tryz.prog 19 #[.string s] w fun r w' => (∃ u, r = .returned u ∧ Hid (StrsM w' w.heap.size u (wordsOf s))) ∧ Below w.heap.size w w' := by
  have HI := str_info
  have hlen := spans_len s s.size 0 (by omega)
  (refine (callsIn_wide (n := 5)).1 ?_; refine callsIn_of_wp_marks Tryz.func19 rfl trivial ?_ rfl; simp only [Tryz.ntmps19, List.size_toArray, List.length_cons, List.length_nil, Nat.reduceAdd, Nat.reduceSub, Array.replicate_succ, Array.replicate_zero, List.push_toArray, List.append_toArray, List.nil_append, List.cons_append])
  gi_wp2_with (refine ⟨trivial, ?_⟩; gi_at_call 43; refine (callsIn_wide.2 (word_stretches _ _)).mono ?_; rintro e w' ⟨rfl, rfl⟩)
  refine range_law (by omega) rfl (enters_of Tryz.func68 (by kernel_rfl) rfl) (words1_stops 4 (by omega) (w.heap.size + 1 + 1) (fun k => k = w.heap.size + 1 + 1) s hs _ (by intro k hk; simp; omega) rfl (by go_simp)) (Below.refl _ _) (by intro k hk; simp; omega) (fun _ => rfl)
    (WdI w s) (WdX s) ?i0 ?ix ?start ?round ?done ?stop
  case i0 =>
    rintro pre W W' ⟨l, h0, h1, h2, h3, h4, hb, hz⟩ hc
    exact ⟨l, hc.holds h0, hc.holds h1, hidden (h2.out.calm hc), h3, h4, hb.trans (hc.below (by simp; omega) hb.size), Nat.lt_of_lt_of_le hz hc.size⟩
  case ix => exact fun c s W W' h => h.elim
  case start => exact ⟨_, (by repeat (first | (with_reducible assumption) | ((with_reducible refine holds_new ?_); (focus (first | rfl | (simp; done)))) | (with_reducible refine Holds.alloc ?_ _) | (with_reducible refine Holds.drew ?_))), (by repeat (first | (with_reducible assumption) | ((with_reducible refine holds_new ?_); (focus (first | rfl | (simp; done)))) | (with_reducible refine Holds.alloc ?_ _) | (with_reducible refine Holds.drew ?_))), hidden (Mine.nil _ _ _ _), hidden (fun g hg => by cases hg), ⟨none, 0, rfl⟩, (by repeat (first | (with_reducible exact Below.refl _ _) | (with_reducible assumption) | (with_reducible refine Below.drew ?_) | (with_reducible refine below_drewN ?_ _) | ((with_reducible refine below_alloc ?_ ?_); (focus (first | omega | (simp; done) | (simp; omega)))) | ((with_reducible refine below_set ?_ ?_); (focus (first | omega | (simp; done) | (simp; omega)))))), by simp⟩
  case round =>
    rintro l pre x W ⟨u, h0, h1, h2, h3, h4, hb, hz⟩
    dsimp only [encW]
    gi_wp2
    refine ⟨KeepsOthers.refl _, Keeps.refl _ _, ⟨u, h0, h1, h2, h3, h4, hb, hz⟩, ?_⟩
    clear h0 h1 h2 h3 h4 hb hz
    rintro W2 l2 pre2 hc2 ⟨u, h0, h1, HM, h3, h4, hb, hz⟩ hlen2 hl2 hr2
    obtain ⟨⟨a, b⟩, hx1, hx2⟩ := x
    have hbz := hb.size
    have c0 := h0.c0; have c1 := h1.c0; have f1 := h1.frozen 0; have l1 := h1.lt
    dsimp only at *
    obtain ⟨A, c, rfl⟩ := h4
    have i1 : (0 : Int) ≤ (a : Int) := by omega
    have i2 : (a : Int) ≤ (b : Int) := by omega
    have i3 : (b : Int) ≤ (s.size : Int) := by omega
    gi_wp2
    have HM2 := hidden (Mine.drew (Mine.alloc HM.out (.cells #[.string (s.extract a b)] 9)))
    have HX : Hid (Rd (W2.alloc (.cells #[.string (s.extract a b)] 9)).drew (Old (W2.alloc (.cells #[.string (s.extract a b)] 9)).drew) 1 (.slice (some ⟨W2.heap.size, 0, none⟩) 1 1) 1 [.string (s.extract a b)]) := hidden (Rd.single W2 9 (.string (s.extract a b)) W2.heap.size rfl)
    have H1 := one_str (s.extract a b)
    have hbz2 : w.heap.size + 1 + 1 + 1 ≤ (W2.alloc (.cells #[.string (s.extract a b)] 9)).drew.heap.size := by
      show w.heap.size + 1 + 1 + 1 ≤ (W2.alloc (.cells #[.string (s.extract a b)] 9)).heap.size
      simp; omega
    have HFin : Hid (∀ v' w', Appended (W2.alloc (.cells #[.string (s.extract a b)] 9)).drew (w.heap.size + 1 + 1 + 1) 9 1 (.slice A pre2.length c) (pre2.length + 1) ((pre2.map fun p => cutTo s p.1).flatMap strC ++ [.string (s.extract a b)]) v' w' →
        ∀ A' c', v' = .slice A' (pre2.length + 1) c' → roundEnd (fun k => k = w.heap.size + 1 + 1) (WdI w s) (WdX s) (pre2 ++ [⟨(a, b), hx1, hx2⟩]) W2 .normal { tmps := #[], defers := [] } (w'.setCell ⟨w.heap.size + 1, 0, none⟩ (.slice A' (pre2.length + 1) c'))) := hidden (fun v' w' hA A' c' hv => by
      subst hv
      have kk : KeepsOthers W2 w' := ((KeepsOthers.alloc W2 _).trans (KeepsOthers.drew _)).trans hA.others
      have hT : ∀ k, k < w.heap.size + 1 + 1 + 1 → (Value.slice A pre2.length c).ownBlock ≠ some k := fun k hk e => by have := h3.out k e; omega
      have hge := hA.mine.own_ge (by omega)
      have hb1 : Below w.heap.size w w' := ((hb.alloc hbz _).drew).trans (hA.below.mono (by omega))
      have h0' := hA.keeps.holds (g := w.heap.size) (hT _ (by omega)) (Holds.drew (h0.alloc _))
      have h1' := hA.keeps.holds (g := w.heap.size + 1) (hT _ (by omega)) (Holds.drew (h1.alloc _))
      have hsz := hA.keeps.size
      refine ⟨kk.trans (KeepsOthers.setCell _ _ _), ?_, ⟨_, h0'.far (p := ⟨w.heap.size + 1, 0, none⟩) (by dsimp only; omega) _, h1'.set 0 _, hidden ?_, hidden hge, ⟨A', c', by simp⟩, hb1.setCell (p := ⟨_, _, none⟩) (by dsimp only; omega) _, ?_⟩⟩
      · refine Keeps.setCell (p := ⟨w.heap.size + 1, 0, none⟩) ?_ (by show ¬ (w.heap.size + 1 = w.heap.size + 1 + 1); omega) _
        exact (((Keeps.refl _ _).alloc _).drew).trans (hA.keeps.mono (fun k hk => by subst hk; exact hT _ (by omega)))
      · have := hA.mine.set (p := ⟨w.heap.size + 1, 0, none⟩) (fun e => by have := hge _ e; dsimp only at this; omega) (.slice A' (pre2.length + 1) c')
        simpa [strC, cutTo] using this
      · have : W2.heap.size + 1 ≤ w'.heap.size := by simpa using hsz
        show _ < (w'.setCell _ _).heap.size
        simp [World.setCell]; omega)
    refine wpIn_region_any (by kernel_rfl) ?_
    change wpAnyIn _ _ _ _ _ _ _ _ _ (World.drew _)
    refine anyR_take (i := 2) (v := ?_) (by rfl) rfl (by kernel_rfl) (by kernel_rfl) (by kernel_rfl) (fun _ _ _ h => h) ⟨Or.inl ⟨by rfl, fun w => ?_⟩, fun _ => rfl⟩ ?_
    rotate_left
    · go_simp
      try rfl
    refine anyR_take (i := 3) (v := ?_) (by rfl) rfl (by kernel_rfl) (by kernel_rfl) (by kernel_rfl) (fun _ _ _ h => h) ⟨Or.inl ⟨by rfl, fun w => ?_⟩, fun _ => rfl⟩ ?_
    rotate_left
    · go_simp
      try rfl
    refine wpAnyIn_ready (rs := [0, 1]) (by kernel_rfl) (by simp) ?_
    refine readyR rfl rfl (fun K hK => ?_) (readyR rfl rfl (fun K hK => ?_) AllReadyIn.nil)
    · go_simp
      refine hK _ _ ?_
      clear hK K
      refine wpAnyIn_ready (rs := [1]) (by kernel_rfl) (by simp) ?_
      refine readyR rfl rfl (fun K hK => ?_) AllReadyIn.nil
      go_simp
      refine hK _ _ ?_
      clear hK K
      refine anyR_take (i := 4) (v := ?_) (by rfl) rfl (by kernel_rfl) (by kernel_rfl) (by kernel_rfl) (fun _ _ _ h => h) ⟨Or.inl ⟨by rfl, fun w => ?_⟩, fun _ => rfl⟩ ?_
      rotate_left
      · go_simp
        try rfl
      refine wpAnyIn_ready (rs := [5]) (by kernel_rfl) (by simp) ?_
      refine readyR rfl rfl (fun K hK => ?_) AllReadyIn.nil
      go_simp
      refine hK _ _ ?_
      clear hK K
      refine wpAnyIn_ready (rs := [6]) (by kernel_rfl) (by simp) ?_
      refine readyR rfl rfl (fun K hK => ?_) AllReadyIn.nil
      refine wpIn_append_all _ _ 24 9 rfl (by kernel_rfl) HI rfl (by decide) (w.heap.size + 1 + 1 + 1) _ _ _ HM2 _ _ _ HX H1 rfl rfl (by omega) (by decide) hbz2 ?_
      intro v' w' hA
      have h1' := hA.out.keeps.holds (g := w.heap.size + 1) (fun e => by have := h3.out _ e; omega) (Holds.drew (h1.alloc _))
      have d1 := h1'.c0; have g1 := h1'.frozen 0
      have hfin := HFin.out v' w' hA.out
      obtain ⟨A', c', rfl⟩ := hA.out.mine.value
      have HFin2 := hidden (hfin A' c' rfl)
      refine hK _ _ ?_
      clear hK K hfin
      refine wpAnyIn_ready (rs := [7]) (by kernel_rfl) (by simp) ?_
      refine readyR rfl rfl (fun K hK => ?_) AllReadyIn.nil
      go_simp
      refine hK _ _ ?_
      clear hK K
      refine wpAnyIn_done (by kernel_rfl) ?_ _
      exact HFin2.out
    · go_simp
      refine hK _ _ ?_
      clear hK K
      refine anyR_take (i := 4) (v := ?_) (by rfl) rfl (by kernel_rfl) (by kernel_rfl) (by kernel_rfl) (fun _ _ _ h => h) ⟨Or.inl ⟨by rfl, fun w => ?_⟩, fun _ => rfl⟩ ?_
      rotate_left
      · go_simp
        try rfl
      refine wpAnyIn_ready (rs := [0, 5]) (by kernel_rfl) (by simp) ?_
      refine readyR rfl rfl (fun K hK => ?_) (readyR rfl rfl (fun K hK => ?_) AllReadyIn.nil)
      · go_simp
        refine hK _ _ ?_
        clear hK K
        refine wpAnyIn_ready (rs := [5]) (by kernel_rfl) (by simp) ?_
        refine readyR rfl rfl (fun K hK => ?_) AllReadyIn.nil
        go_simp
        refine hK _ _ ?_
        clear hK K
        refine wpAnyIn_ready (rs := [6]) (by kernel_rfl) (by simp) ?_
        refine readyR rfl rfl (fun K hK => ?_) AllReadyIn.nil
        refine wpIn_append_all _ _ 24 9 rfl (by kernel_rfl) HI rfl (by decide) (w.heap.size + 1 + 1 + 1) _ _ _ HM2 _ _ _ HX H1 rfl rfl (by omega) (by decide) hbz2 ?_
        intro v' w' hA
        have h1' := hA.out.keeps.holds (g := w.heap.size + 1) (fun e => by have := h3.out _ e; omega) (Holds.drew (h1.alloc _))
        have d1 := h1'.c0; have g1 := h1'.frozen 0
        have hfin := HFin.out v' w' hA.out
        obtain ⟨A', c', rfl⟩ := hA.out.mine.value
        have HFin2 := hidden (hfin A' c' rfl)
        refine hK _ _ ?_
        clear hK K hfin
        refine wpAnyIn_ready (rs := [7]) (by kernel_rfl) (by simp) ?_
        refine readyR rfl rfl (fun K hK => ?_) AllReadyIn.nil
        go_simp
        refine hK _ _ ?_
        clear hK K
        refine wpAnyIn_done (by kernel_rfl) ?_ _
        exact HFin2.out
      · go_simp
        refine hK _ _ ?_
        clear hK K
        refine wpAnyIn_ready (rs := [0]) (by kernel_rfl) (by simp) ?_
        refine readyR rfl rfl (fun K hK => ?_) AllReadyIn.nil
        go_simp
        refine hK _ _ ?_
        clear hK K
        refine wpAnyIn_ready (rs := [6]) (by kernel_rfl) (by simp) ?_
        refine readyR rfl rfl (fun K hK => ?_) AllReadyIn.nil
        refine wpIn_append_all _ _ 24 9 rfl (by kernel_rfl) HI rfl (by decide) (w.heap.size + 1 + 1 + 1) _ _ _ HM2 _ _ _ HX H1 rfl rfl (by omega) (by decide) hbz2 ?_
        intro v' w' hA
        have h1' := hA.out.keeps.holds (g := w.heap.size + 1) (fun e => by have := h3.out _ e; omega) (Holds.drew (h1.alloc _))
        have d1 := h1'.c0; have g1 := h1'.frozen 0
        have hfin := HFin.out v' w' hA.out
        obtain ⟨A', c', rfl⟩ := hA.out.mine.value
        have HFin2 := hidden (hfin A' c' rfl)
        refine hK _ _ ?_
        clear hK K hfin
        refine wpAnyIn_ready (rs := [7]) (by kernel_rfl) (by simp) ?_
        refine readyR rfl rfl (fun K hK => ?_) AllReadyIn.nil
        go_simp
        refine hK _ _ ?_
        clear hK K
        refine wpAnyIn_done (by kernel_rfl) ?_ _
        exact HFin2.out
  case done =>
    rintro D xs W hD hS ⟨u, h0, h1, HM, h3, h4, hb, hz⟩ hK
    have c1 := h1.c0
    obtain ⟨A, c, rfl⟩ := h4
    have HR : Hid ((xs.map fun p => cutTo s p.1) = wordsOf s ∧ xs.length = (wordsOf s).length) := hidden (by
      have e : (xs.map fun p => cutTo s p.1) = wordsOf s := by
        unfold wordsOf
        rw [← hS, List.map_map]
        rfl
      exact ⟨e, by rw [← e]; simp⟩)
    gi_wp2
    refine leaves_marks (B := w.heap.size) [D] _ ⟨by simp, ?_⟩ ?_
    · intro D' hD'
      simp at hD'
      subst hD'
      exact ⟨by simp at hD; omega, hK⟩
    · intro W' hc
      refine ⟨.slice A xs.length c, ?_, ⟨_, rfl, ?_⟩, hb.trans (hc.below (Nat.le_refl _) hb.size)⟩
      · simp [results, Tryz.f19, go_sem]
      · have := (HM.out.calm hc).base (b' := w.heap.size) (by omega)
        rw [HR.out.1, HR.out.2] at this
        rw [HR.out.2]
        exact hidden this
  case stop => exact fun D c pre W hD hS hX hK => hX.elim
end Go.Proofs.YtfmdmeokbbpmlaaGreat
