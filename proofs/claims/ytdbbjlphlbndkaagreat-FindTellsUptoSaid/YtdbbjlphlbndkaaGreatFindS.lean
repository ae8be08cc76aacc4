/-
  The steps of a selector: find.steps, what it hands out.
-/
import Derived.Test.YtdbbjlphlbndkaaGreatRangeW
import Derived.Test.YtdbbjlphlbndkaaGreatShelfD
import Derived.Lib.IndexBytes
import Derived.Lib.IndexLaws
namespace Go.Proofs.YtdbbjlphlbndkaaGreat
open Go.RowKit Go.Shelf
attribute [local go_sem] Oper.semAt_some

def endOf (t : List UInt8) : Nat := if Lib.indexByte t 47 = -1 then t.length else (Lib.indexByte t 47).toNat
def goesAll (l : List UInt8) : Bool := Lib.hasPrefix (l.drop 1) [47]
def tailOf (l : List UInt8) : List UInt8 := if goesAll l = true then (l.drop 1).drop 1 else l.drop 1
theorem indexByte_lt {t : List UInt8} {j : Nat} (h : Lib.indexByte t 47 = (j : Int)) : j < t.length := by
  have := (Lib.indexByte_some h).1
  exact (List.getElem?_eq_some_iff.1 this).1
theorem endOf_le (t : List UInt8) : endOf t ≤ t.length := by
  unfold endOf
  split
  · exact Nat.le_refl _
  · rename_i h
    have hg := Lib.indexByte_ge t 47
    obtain ⟨j, hj⟩ : ∃ j : Nat, Lib.indexByte t 47 = (j : Int) := ⟨(Lib.indexByte t 47).toNat, by omega⟩
    have := indexByte_lt hj
    omega
theorem tailOf_le (l : List UInt8) : (tailOf l).length ≤ l.length - 1 := by
  unfold tailOf
  split <;> simp only [List.length_drop] <;> omega
/-- The steps: each the name, and whether it goes to all beneath. -/
def stepsL (l : List UInt8) : List (ByteArray × Bool) := if _h : l = [] then [] else (⟨((tailOf l).take (endOf (tailOf l))).toArray⟩, goesAll l) :: stepsL ((tailOf l).drop (endOf (tailOf l)))
termination_by l.length
decreasing_by
  have := tailOf_le l
  have : 0 < l.length := List.length_pos_iff.2 _h
  rw [List.length_drop]
  omega
theorem stepsL_nil : stepsL [] = [] := by rw [stepsL, dif_pos rfl]
theorem stepsL_cons {l : List UInt8} (h : l ≠ []) : stepsL l = (⟨((tailOf l).take (endOf (tailOf l))).toArray⟩, goesAll l) :: stepsL ((tailOf l).drop (endOf (tailOf l))) := by rw [stepsL, dif_neg h]

/-- A step, as it is handed out. -/
abbrev Step := { x : ByteArray × Bool // x.1.size ≤ 1000000 }
abbrev encT (x : Step) : Array Value := #[.string x.1.1, .bool x.1.2]
theorem dataL (s : ByteArray) : s.data.toList.length = s.size := by rw [Array.length_toList]; rfl
theorem mkL (l : List UInt8) : (⟨l.toArray⟩ : ByteArray).data.toList = l := rfl
theorem mkS (l : List UInt8) : (⟨l.toArray⟩ : ByteArray).size = l.length := by show l.toArray.size = _; simp
theorem cutL (s : ByteArray) (a b : Nat) : s.extract a b = ⟨((s.data.toList.drop a).take (b - a)).toArray⟩ := by
  have h := Lib.extract_data s a b
  apply ByteArray.ext
  apply Array.toList_inj.1
  rw [h]
theorem emptyL (s : ByteArray) : s.toList.isEmpty = decide (s.size = 0) := by
  rw [ByteArray.toList_eq, ← dataL]
  cases s.data.toList <;> simp

set_option maxRecDepth 100000 in
theorem index_byteF (s : ByteArray) (c : Int) (w : World) :
    Calls Tryz.prog 44 #[.string s, .int .u8 c] w fun e w' => e = .returned (.int .i64 (Lib.indexByte s.data.toList c.toNat.toUInt8)) ∧ w = w' := by
  go_enter Tryz.func44, Tryz.ntmps44
  go_wp2
  rw [run_callFunc_extern Tryz.func93 (by kernel_rfl) (by kernel_rfl) (by kernel_rfl) (e := Extern.BytealgIndexByte.indexByte) (by kernel_rfl), Lib.run_indexByteString]
  simp only [Result.andThen]
  rw [Oper.upon_value]
  go_wp2
  go_ret
  exact ⟨rfl, rfl⟩
set_option maxRecDepth 100000 in
theorem cut_slash (cur : List UInt8) (w : World) : Calls Tryz.prog 43 #[.string ((⟨cur.toArray⟩ : ByteArray).extract 1 (⟨cur.toArray⟩ : ByteArray).size), .string ⟨#[47]⟩] w fun e w' => e = .returned (.tuple #[.string ⟨(tailOf cur).toArray⟩, .bool (goesAll cur)]) ∧ w = w' := by
  refine (Lib0.strings_CutPrefix ((⟨cur.toArray⟩ : ByteArray).extract 1 (⟨cur.toArray⟩ : ByteArray).size) ⟨#[47]⟩ w).mono ?_
  rintro e w' ⟨rfl, rfl⟩
  have e1 : ((⟨cur.toArray⟩ : ByteArray).extract 1 (⟨cur.toArray⟩ : ByteArray).size).data.toList = cur.drop 1 := Lib.extract_to_end _ 1
  rw [e1]
  refine ⟨?_, rfl⟩
  unfold Lib.trimPrefix tailOf goesAll
  rfl
def szAt (w : World) (b : Nat) : Nat := match w.cell? ⟨b, 0, none⟩ with | some (.string s) => s.size | _ => 0
theorem szAt_of {w : World} {b : Nat} {s : ByteArray} (h : Holds w b 9 #[.string s]) : szAt w b = s.size := by
  unfold szAt
  rw [h.c0]

set_option maxRecDepth 20000 in
set_option maxHeartbeats 4000000 in
theorem steps1_in (n : Nat) (hn : 1 ≤ n) (l Bs : Nat) (T : Nat → Prop) (L0 : List UInt8) (hL : L0.length ≤ 1000000) (J Jx : List Step → World → Prop)
    (hJs : ∀ s A u, J s A → J s (A.setCell ⟨Bs, 0, none⟩ u))
    (hY : ∀ pre x W, J pre W → pre.length < (stepsL L0).length → YieldAt Fence.wide (n - 1) Tryz.prog l (encT x) W fun e W' =>
      (e = .returned (.bool true) ∧ J (pre ++ [x]) W' ∧ Keeps T W W') ∨ (e = .returned (.bool false) ∧ Jx (pre ++ [x]) W'))
    (W : World) (hBn : T Bs) (hc : Holds W Bs 9 #[.string ⟨L0.toArray⟩]) (h0 : J [] W) :
    CallsIn Fence.wide n Tryz.prog 42 #[.func (.yield l) #[] #[], .pointer (some ⟨Bs, 0, none⟩)] W fun e W' => (∃ v, e = .returned v) ∧
      ((∃ ys : List Step, ys.map (·.1) = stepsL L0 ∧ J ys W') ∨ (∃ pre : List Step, pre.map (·.1) <+: stepsL L0 ∧ Jx pre W')) := by
  refine callsIn_of_wp Tryz.func42 rfl trivial ?_ rfl
  simp only [Tryz.ntmps42, List.size_toArray, List.length_cons, List.length_nil, Nat.reduceAdd, Nat.reduceSub, Array.replicate_succ, Array.replicate_zero, List.push_toArray, List.append_toArray, List.nil_append, List.cons_append]
  gi_wp2
  gi_loopw [] (fun wr => ∃ (cur : List UInt8) (pre : List Step), cur.length ≤ L0.length ∧ Hid (Holds wr Bs 9 #[.string ⟨cur.toArray⟩]) ∧ Hid (stepsL L0 = pre.map (·.1) ++ stepsL cur) ∧ Hid (J pre wr)) (fun wr => szAt wr Bs)
  case atStart => exact ⟨L0, [], Nat.le_refl _, hidden hc, hidden rfl, hidden h0⟩
  case round =>
    clear hc h0
    obtain ⟨cur, pre, hcl, HC, HS, HJ⟩ := hrel
    have x0 := HC.out.c0
    have hfr := HC.out.frozen 0
    have hsz := szAt_of HC.out
    have hie := emptyL ⟨cur.toArray⟩
    have hms := mkS cur
    rw [hms] at hie
    by_cases hce : cur = []
    · have hie2 : (⟨cur.toArray⟩ : ByteArray).toList.isEmpty = true := by rw [hie, hce]; rfl
      have hfin : Hid (pre.map (·.1) = stepsL L0) := hidden (by rw [HS.out, hce, stepsL_nil, List.append_nil])
      generalize (⟨cur.toArray⟩ : ByteArray) = s at *
      clear hie HS
      gi_wp2
      exact ⟨rfl, _, results_none rfl _ _ _, ⟨_, rfl⟩, .inl ⟨pre, hfin.out, HJ.out⟩⟩
    · have hie2 : (⟨cur.toArray⟩ : ByteArray).toList.isEmpty = false := by rw [hie, decide_eq_false_iff_not]; intro e; exact hce (List.length_eq_zero_iff.1 e)
      have hpos : 0 < cur.length := List.length_pos_iff.2 hce
      have H1 := hidden (cut_slash cur)
      have hst := stepsL_cons hce
      have htl := tailOf_le cur
      have htz := mkS (tailOf cur)
      have hle := endOf_le (tailOf cur)
      have hge := Lib.indexByte_ge (tailOf cur) 47
      have H2 := hidden (fun w => index_byteF ⟨(tailOf cur).toArray⟩ 47 w)
      rw [mkL, show (47 : Int).toNat.toUInt8 = 47 from rfl] at H2
      have hA : (⟨(tailOf cur).toArray⟩ : ByteArray).extract (endOf (tailOf cur)) (⟨(tailOf cur).toArray⟩ : ByteArray).size = ⟨((tailOf cur).drop (endOf (tailOf cur))).toArray⟩ := by
        rw [cutL, mkL, mkS, List.take_of_length_le (by rw [List.length_drop]; exact Nat.le_refl _)]
      have hB : (⟨(tailOf cur).toArray⟩ : ByteArray).extract 0 (endOf (tailOf cur)) = ⟨((tailOf cur).take (endOf (tailOf cur))).toArray⟩ := by
        rw [cutL, mkL, List.drop_zero, Nat.sub_zero]
      have hlen : pre.length < (stepsL L0).length := by rw [HS.out, hst, List.length_append, List.length_cons, List.length_map]; omega
      have hnx : ((tailOf cur).drop (endOf (tailOf cur))).length < cur.length := by rw [List.length_drop]; omega
      have HS2 : Hid (stepsL L0 = (pre.map (·.1) ++ [((⟨(tailOf cur).toArray⟩ : ByteArray).extract 0 (endOf (tailOf cur)), goesAll cur)]) ++ stepsL ((tailOf cur).drop (endOf (tailOf cur)))) := hidden (by rw [HS.out, hst, hB, List.append_assoc]; rfl)
      have hHs := holds_set (i := 0) (u := .string ((⟨(tailOf cur).toArray⟩ : ByteArray).extract (endOf (tailOf cur)) (⟨(tailOf cur).toArray⟩ : ByteArray).size)) HC.out
      have hHs2 : Holds (wr.setCell ⟨Bs, 0, none⟩ (.string ((⟨(tailOf cur).toArray⟩ : ByteArray).extract (endOf (tailOf cur)) (⟨(tailOf cur).toArray⟩ : ByteArray).size))) Bs 9 #[.string ((⟨(tailOf cur).toArray⟩ : ByteArray).extract (endOf (tailOf cur)) (⟨(tailOf cur).toArray⟩ : ByteArray).size)] := hHs
      have hbn : ((⟨(tailOf cur).toArray⟩ : ByteArray).extract 0 (endOf (tailOf cur))).size ≤ 1000000 := by rw [hB, mkS, List.length_take]; omega
      have HA := hidden hA
      have HH := hidden hHs2
      have hS1 : 1 ≤ (⟨cur.toArray⟩ : ByteArray).size := by rw [hms]; omega
      have hcz : cur.length ≤ 1000000 := by omega
      have hE : (Lib.indexByte (tailOf cur) 47 = -1 ∧ endOf (tailOf cur) = (tailOf cur).length) ∨ ∃ j : Nat, Lib.indexByte (tailOf cur) 47 = (j : Int) ∧ endOf (tailOf cur) = j := by
        unfold endOf
        by_cases h : Lib.indexByte (tailOf cur) 47 = -1
        · exact .inl ⟨h, if_pos h⟩
        · refine .inr ⟨(Lib.indexByte (tailOf cur) 47).toNat, by omega, if_neg h⟩
      clear hHs hHs2 hst hA hB HS hie
      generalize (tailOf cur).drop (endOf (tailOf cur)) = nx at *
      generalize endOf (tailOf cur) = ee at *
      generalize goesAll cur = al at *
      generalize tailOf cur = tl at *
      generalize (⟨tl.toArray⟩ : ByteArray) = tb at *
      generalize (⟨cur.toArray⟩ : ByteArray) = s at *
      have htl2 : tl.length ≤ 1000000 := by omega
      have hez : ee ≤ tb.size := by omega
      have hs2 : s.size ≤ 1000000 := by omega
      have ht2 : tb.size ≤ 1000000 := by omega
      have HSZ := hidden hsz
      have HMS := hidden hms
      clear hsz hms
      rcases hE with ⟨hi, he⟩ | ⟨j, hi, he⟩
      · rw [hi] at H2
        have heq : ee = tb.size := by omega
        subst heq
        have e1 : tb.extract tb.size tb.size = ByteArray.empty := by simp
        have e2 : tb.extract 0 tb.size = tb := by simp
        rw [e1] at HH HA
        rw [e2] at HS2 hbn
        clear hi he hge htz hle e1 e2
        obtain ⟨fn, tmps, assign, body, hy, hR⟩ := hY pre ⟨(tb, al), hbn⟩ _ (hJs pre wr (.string ByteArray.empty) HJ.out) hlen
        have HR := hidden hR
        dsimp only [encT] at hy
        clear hR HJ
        gi_wp2_with (refine ⟨trivial, ?_⟩; first | (gi_at_call 43; refine (callsIn_wide.2 (H1.out _)).mono ?_; rintro e w' ⟨rfl, rfl⟩) | (gi_at_call 44; refine (callsIn_wide.2 (H2.out _)).mono ?_; rintro e w' ⟨rfl, rfl⟩))
        refine HR.out.mono ?_
        rintro e W3 (⟨rfl, hJ3, hk3⟩ | ⟨rfl, hJx3⟩)
        · have hH3 := hk3.holds hBn HH.out
          rw [HA.out] at hH3
          have hz3 := szAt_of hH3
          rw [mkS] at hz3
          gi_wp2
          go_roundw
          case rel => exact ⟨nx, _, by omega, hidden hH3, hidden (by rw [HS2.out, List.map_append]; rfl), hidden hJ3⟩
          case measure => have := HSZ.out; have := HMS.out; omega
        · gi_wp2
          refine bodyPost_ret (results_none rfl _ _ _) rfl ?_
          exact ⟨⟨_, rfl⟩, .inr ⟨_, by rw [HS2.out, List.map_append]; exact List.prefix_append _ _, hJx3⟩⟩
      · rw [hi] at H2
        obtain rfl := he
        clear hi hge htz
        obtain ⟨fn, tmps, assign, body, hy, hR⟩ := hY pre ⟨(tb.extract 0 ee, al), hbn⟩ _ (hJs pre wr (.string (tb.extract ee tb.size)) HJ.out) hlen
        have HR := hidden hR
        dsimp only [encT] at hy
        clear hR HJ
        gi_wp2_with (refine ⟨trivial, ?_⟩; first | (gi_at_call 43; refine (callsIn_wide.2 (H1.out _)).mono ?_; rintro e w' ⟨rfl, rfl⟩) | (gi_at_call 44; refine (callsIn_wide.2 (H2.out _)).mono ?_; rintro e w' ⟨rfl, rfl⟩))
        refine HR.out.mono ?_
        rintro e W3 (⟨rfl, hJ3, hk3⟩ | ⟨rfl, hJx3⟩)
        · have hH3 := hk3.holds hBn HH.out
          rw [HA.out] at hH3
          have hz3 := szAt_of hH3
          rw [mkS] at hz3
          gi_wp2
          go_roundw
          case rel => exact ⟨nx, _, by omega, hidden hH3, hidden (by rw [HS2.out, List.map_append]; rfl), hidden hJ3⟩
          case measure => have := HSZ.out; have := HMS.out; omega
        · gi_wp2
          refine bodyPost_ret (results_none rfl _ _ _) rfl ?_
          exact ⟨⟨_, rfl⟩, .inr ⟨_, by rw [HS2.out, List.map_append]; exact List.prefix_append _ _, hJx3⟩⟩

theorem steps1_seq (n : Nat) (hn : 1 ≤ n) (Bs : Nat) (T : Nat → Prop) (L0 : List UInt8) (hL : L0.length ≤ 1000000) (w : World) (hT : ∀ k, T k → k < w.heap.size) (hBn : T Bs) (hc : Holds w Bs 9 #[.string ⟨L0.toArray⟩]) :
    SeqW n Tryz.prog 42 #[.pointer (some ⟨Bs, 0, none⟩)] encT T Bs (fun ys => ys.map (·.1) = stepsL L0) (fun pre => pre.map (·.1) <+: stepsL L0) (stepsL L0).length w :=
  fun l J Jx W hW hJs _ hY h0 => steps1_in n hn l Bs T L0 hL J Jx hJs hY W hBn (hc.below hW (hT _ hBn)) h0

theorem find_steps (s : ByteArray) (w : World) : Calls Tryz.prog 20 #[.string s] w fun e w' => e = .returned (.func (.func 42) #[] #[.pointer (some ⟨w.heap.size, 0, none⟩)]) ∧ w.alloc (.cells #[.string s] 9) = w' := by
  go_enter Tryz.func20, Tryz.ntmps20
  go_wp2
  go_ret
  exact ⟨rfl, rfl⟩
end Go.Proofs.YtdbbjlphlbndkaaGreat
