/-
  The iterator over the lines of a text (place.lines): what it hands to yield.
-/
import Derived.Test.YtmgpfldlngjekaaPlain
import Derived.Test.YtmgpfldlngjekaaRows
import Derived.Lib.IndexBytes
namespace Go.Proofs.Ytmgpfldlngjekaa
open Go.RowKit Go.Shelf
attribute [local go_sem] Oper.semAt_some

theorem index_byte (s : ByteArray) (c : Int) (w : World) :
    Calls Try.prog 31 #[.string s, .int .u8 c] w fun e w' => e = .returned (.int .i64 (Lib.indexByte s.data.toList c.toNat.toUInt8)) ∧ w = w' := by
  go_enter Try.func31, Try.ntmps31
  go_wp2
  rw [run_callFunc_extern Try.func37 (by kernel_rfl) (by kernel_rfl) (by kernel_rfl) (e := Extern.BytealgIndexByte.indexByte) (by kernel_rfl), Lib.run_indexByteString]
  simp only [Result.andThen]
  rw [Oper.upon_value]
  go_wp2
  go_ret
  exact ⟨rfl, rfl⟩

/-- A stretch of a text, as the iterator hands it out. -/
abbrev Stretch := { p : Nat × Nat // p.1 ≤ p.2 ∧ p.2 ≤ 140737488355328 }
abbrev encS (p : Stretch) : Array Value := #[.agg #[.int .i64 p.1.1, .int .i64 p.1.2]]
/-- The lines of a text, each as the stretch that it is. -/
def lineSpans (s : ByteArray) : List (Nat × Nat) := spansOf 0 (cutLines s.data.toList)

theorem index_from (s : ByteArray) (k : Nat) (v : Int) (hv : Lib.indexByte (s.data.toList.drop k) 10 = v) (w : World) :
    Calls Try.prog 31 #[.string (s.extract k s.size), .int .u8 10] w fun e w' => e = .returned (.int .i64 v) ∧ w = w' := by
  have h := index_byte (s.extract k s.size) 10 w
  rw [Lib.extract_to_end, show (10 : Int).toNat.toUInt8 = 10 from rfl, hv] at h
  exact h

theorem lines1_in (n : Nat) (hn : 1 ≤ n) (l Bs : Nat) (T : Nat → Prop) (s : ByteArray) (hs63 : s.size ≤ 140737488355328) (J Jx : List Stretch → World → Prop)
    (hY : ∀ pre x W, J pre W → pre.length < (lineSpans s).length → YieldAt Fence.wide (n - 1) Try.prog l (encS x) W fun e W' =>
      (e = .returned (.bool true) ∧ J (pre ++ [x]) W' ∧ Keeps T W W') ∨ (e = .returned (.bool false) ∧ Jx (pre ++ [x]) W'))
    (W : World) (hBn : T Bs) (hc : W.cell? ⟨Bs, 0, none⟩ = some (.string s)) (h0 : J [] W)  :
    CallsIn Fence.wide n Try.prog 30 #[.func (.yield l) #[] #[], .pointer (some ⟨Bs, 0, none⟩)] W fun e W' => (∃ v, e = .returned v) ∧
      ((∃ ys : List Stretch, ys.map (·.1) = lineSpans s ∧ J ys W') ∨ (∃ pre : List Stretch, pre.map (·.1) <+: lineSpans s ∧ Jx pre W')) := by
  refine callsIn_of_wp Try.func30 rfl trivial ?_ rfl
  simp only [Try.ntmps30, List.size_toArray, List.length_cons, List.length_nil, Nat.reduceAdd, Nat.reduceSub, Array.replicate_succ, Array.replicate_zero, List.push_toArray, List.append_toArray, List.nil_append, List.cons_append]
  gi_wp2
  gi_loopw [3] (fun p wr => ∃ (k : Nat) (pre : List Stretch), p = .int .i64 k ∧ k ≤ s.size ∧ lineSpans s = pre.map (·.1) ++ spansOf k (cutLines (s.data.toList.drop k)) ∧ wr.cell? ⟨Bs, 0, none⟩ = some (.string s) ∧ J pre wr)
    (fun p wr => s.size + 1 - (intOf p).toNat)
  case atStart =>
    exact ⟨0, [], rfl, by omega, by simp [lineSpans], hc, h0⟩
  case round =>
    obtain ⟨k, pre, rfl, hk, hl, hcr, hJ⟩ := hrel
    have hlen : pre.length < (lineSpans s).length := by
      rw [hl, List.length_append, List.length_map, spansOf_len]
      have := cutLines_len1 (s.data.toList.drop k)
      omega
    have hge := Lib.indexByte_ge (s.data.toList.drop k) 10
    have hsz : s.data.toList.length = s.size := (Lib.size_eq s).symm
    by_cases hneg : Lib.indexByte (s.data.toList.drop k) 10 = -1
    · have hcl := cutLines_none _ hneg
      have hcall := hidden (index_from s k _ hneg)
      have hlast : lineSpans s = pre.map (·.1) ++ [(k, s.size)] := by
        rw [hl, hcl]; simp [spansOf]; omega
      have HL := hidden hlast
      clear hlast hcl hge hneg hl
      obtain ⟨fn, tmps, assign, body, hy, hR⟩ := hY pre ⟨(k, s.size), ⟨hk, hs63⟩⟩ wr hJ hlen
      have HR := hidden hR
      dsimp only [encS] at hy
      clear hsz hlen hR
      gi_wp2_with (refine ⟨trivial, ?_⟩; gi_at_call 31; refine (callsIn_wide.2 (hcall.out _)).mono ?_; rintro e w' ⟨rfl, rfl⟩)
      refine HR.out.mono ?_
      rintro e W3 (⟨rfl, hJ3, hk3⟩ | ⟨rfl, hJx3⟩)
      · gi_wp2
        refine bodyPost_ret (results_none rfl _ _ _) rfl ?_
        exact ⟨⟨_, rfl⟩, .inl ⟨_, by rw [HL.out]; simp, hJ3⟩⟩
      · gi_wp2
        refine bodyPost_ret (results_none rfl _ _ _) rfl ?_
        exact ⟨⟨_, rfl⟩, .inr ⟨_, by rw [HL.out]; simp, hJx3⟩⟩
    · obtain ⟨j, hj⟩ : ∃ j : Nat, Lib.indexByte (s.data.toList.drop k) 10 = (j : Int) := ⟨(Lib.indexByte (s.data.toList.drop k) 10).toNat, by omega⟩
      have hcall := hidden (index_from s k _ hj)
      obtain ⟨hjl, hcl⟩ := cutLines_some _ j hj
      have hjl' : k + j + 1 ≤ s.size := by simp at hjl; omega
      have hnext : lineSpans s = pre.map (·.1) ++ (k, k + j) :: spansOf (k + (j + 1)) (cutLines (s.data.toList.drop (k + (j + 1)))) := by
        rw [hl, hcl, spansOf, List.drop_drop, List.length_take, Nat.min_eq_left (by omega), Nat.add_assoc k j 1]
      have HL := hidden hnext
      clear hnext hcl hge hneg hl hj hjl
      have hkj : k ≤ k + j ∧ k + j ≤ 140737488355328 := by omega
      obtain ⟨fn, tmps, assign, body, hy, hR⟩ := hY pre ⟨(k, k + j), hkj⟩ wr hJ hlen
      have HR := hidden hR
      dsimp only [encS] at hy
      simp only [Int.natCast_add] at hy
      clear hsz hlen hR
      gi_wp2_with (refine ⟨trivial, ?_⟩; gi_at_call 31; refine (callsIn_wide.2 (hcall.out _)).mono ?_; rintro e w' ⟨rfl, rfl⟩)
      refine HR.out.mono ?_
      rintro e W3 (⟨rfl, hJ3, hk3⟩ | ⟨rfl, hJx3⟩)
      · have hc3 := hk3.cell (a := ⟨Bs, 0, none⟩) hBn hcr
        gi_wp2
        go_roundw
        case rel => exact ⟨k + (j + 1), pre ++ [⟨(k, k + j), hkj⟩], by go_num, by omega, by rw [HL.out]; simp, hc3, hJ3⟩
        case measure => simp [intOf]; omega
      · gi_wp2
        refine bodyPost_ret (results_none rfl _ _ _) rfl ?_
        exact ⟨⟨_, rfl⟩, .inr ⟨_, by rw [HL.out]; simp, hJx3⟩⟩
end Go.Proofs.Ytmgpfldlngjekaa
