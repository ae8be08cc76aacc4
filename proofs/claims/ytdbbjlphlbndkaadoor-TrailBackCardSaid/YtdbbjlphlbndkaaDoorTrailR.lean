/-
  The document's Read of paths.
-/
import Derived.Test.YtdbbjlphlbndkaaDoorTrailS
namespace Go.Proofs.YtdbbjlphlbndkaaDoor
open Go.RowKit Go.Shelf

theorem readPath_none : readPath [] = ([], 3) := rfl
theorem readPath_other {c : UInt8} {l : List UInt8} (h : c ≠ 47) : readPath (c :: l) = ([], 3) := by
  unfold readPath
  dsimp only
  rw [if_neg h]
theorem readPath_slash (l : List UInt8) : readPath (47 :: l) = if l = [] then ([], 0) else readParts 65536 (partsOf 47 l) [] := by
  unfold readPath
  dsimp only
  rw [if_pos rfl]
/-- The part that ends at i, and what stands behind it. -/
theorem parts_cut {l : List UInt8} {a i : Nat} (hai : a ≤ i) (hi : l[i]? = some 47) (hno : ∀ j, a ≤ j → j < i → l[j]? ≠ some 47) : partsOf 47 (l.drop a) = (l.drop a).take (i - a) :: partsOf 47 (l.drop (i + 1)) := by
  obtain ⟨hil, he⟩ := List.getElem?_eq_some_iff.1 hi
  have e : l.drop a = (l.drop a).take (i - a) ++ 47 :: l.drop (i + 1) := by
    have h1 : (l.drop a).drop (i - a) = 47 :: l.drop (i + 1) := by
      rw [List.drop_drop, show a + (i - a) = i by omega, List.drop_eq_getElem_cons hil, he]
    rw [← h1, List.take_append_drop]
  conv => lhs; rw [e]
  rw [parts_hit]
  intro hm
  obtain ⟨k, hk, ek⟩ := List.mem_iff_getElem.1 hm
  rw [List.length_take, List.length_drop] at hk
  rw [List.getElem_take, List.getElem_drop] at ek
  exact hno (a + k) (by omega) (by omega) (by rw [List.getElem?_eq_getElem (by omega), ek])
theorem parts_last {l : List UInt8} {a : Nat} (hno : ∀ j, a ≤ j → j < l.length → l[j]? ≠ some 47) : partsOf 47 (l.drop a) = [(l.drop a).take (l.length - a)] := by
  rw [List.take_of_length_le (by rw [List.length_drop]; exact Nat.le_refl _), parts_none]
  intro hm
  obtain ⟨k, hk, ek⟩ := List.mem_iff_getElem.1 hm
  rw [List.length_drop] at hk
  rw [List.getElem_drop] at ek
  exact hno (a + k) (by omega) (by omega) (by rw [List.getElem?_eq_getElem (by omega), ek])
theorem parts_one (most : Int) (p : List UInt8) (r : List (List UInt8)) (acc : List Int) : readParts most (p :: r) acc = if (readN p most).2 = 0 then readParts most r (acc ++ [(readN p most).1]) else ([], (readN p most).2) := by
  rw [readParts]

set_option maxRecDepth 20000 in
set_option maxHeartbeats 8000000 in
theorem ref_Read32 (s : ByteArray) (w : World) (hs : s.size ≤ 1000000) :
    Calls Tryd.prog 9 #[.string s] w fun r w' => (∃ u, r = .returned (.tuple #[u, .int .i64 (readPath s.data.toList).2]) ∧ Hid (Ints w' (Old w') u (readPath s.data.toList).1)) ∧ Below w.heap.size w w' := by
  have hl := data_len s
  have hie := list_isEmpty s
  by_cases h0 : s.size = 0
  · have hd : s.data.toList = [] := List.length_eq_zero_iff.1 (by omega)
    have hie2 : s.toList.isEmpty = true := by rw [hie, decide_eq_true h0]
    rw [hd, readPath_none]
    clear hie hl hd h0
    go_enter Tryd.func9, Tryd.ntmps9
    go_wp2
    go_ret2
    exact ⟨⟨_, rfl, hidden (Rd.nil _ _ _)⟩, Below.refl _ _⟩
  · have hie2 : s.toList.isEmpty = false := by rw [hie, decide_eq_false h0]
    have h1 : 0 < s.size := by omega
    have d1 : (s[0]'h1).toNat < 256 := (s[0]'h1).toNat_lt
    obtain ⟨r, hd, hrl⟩ := data_head s h1
    clear hie
    by_cases hc : (s[0]'h1).toNat = 47
    · have q1 : (((s[0]'h1).toNat : Int) != 47) = false := by rw [hc]; rfl
      have hc47 : s[0]'h1 = 47 := UInt8.toNat_inj.1 hc
      rw [hc47] at hd
      by_cases hr : r = []
      · have q2 : (s.toList == [47]) = true := by rw [ByteArray.toList_eq, hd, hr]; rfl
        have hz : Hid (readPath s.data.toList = ([], 0)) := hidden (by rw [hd, readPath_slash, if_pos hr])
        generalize readPath s.data.toList = res at *
        have hz2 := hz.out
        subst hz2
        clear hd hrl hl hr hc hc47
        go_enter Tryd.func9, Tryd.ntmps9
        go_wp2
        go_ret2
        exact ⟨⟨_, rfl, hidden (RowM.rd (enc := intV) (e := 3) (base := 0) (l := []) (Mine.fresh_nil _ _ _ _ _))⟩, (Below.refl _ _).alloc (Nat.le_refl _) _⟩
      · have q2 : (s.toList == [47]) = false := by
          rw [ByteArray.toList_eq, hd, beq_eq_false_iff_ne]
          intro e
          exact hr (by simpa using e)
        have hz : Hid (readPath s.data.toList = readParts 65536 (partsOf 47 (s.data.toList.drop 1)) []) := hidden (by rw [hd, readPath_slash, if_neg hr]; rfl)
        generalize readPath s.data.toList = res at *
        have hbd := hidden (fun (i : Nat) (h : i < s.size) => data_get s h)
        have hCut := hidden (fun a i (hai : a ≤ i) => @parts_cut s.data.toList a i hai)
        have hLast := hidden (fun a => @parts_last s.data.toList a)
        have hEx := hidden (fun a b => Lib.extract_data s a b)
        have hEs := hidden (fun a b (h : a ≤ b) (hb : b ≤ s.size) => (by rw [← data_len, Lib.extract_data, List.length_take, List.length_drop, hl]; omega : (s.extract a b).size ≤ 1000000))
        have HM0 : Hid (IntsM (w.alloc (.cells #[] 3)) w.heap.size (.slice (some ⟨w.heap.size, 0, none⟩) 0 0) []) := hidden (Mine.fresh_nil _ _ _ _ _)
        have hb0 := (Below.refl w.heap.size w).alloc (Nat.le_refl _) (.cells #[] 3)
        have hsz : s.size ≤ 1000000 := hs
        clear hd hr hc hc47 hrl
        rw [hl] at hLast
        go_enter Tryd.func9, Tryd.ntmps9
        go_wp2
        go_loopg [4, 5, 6] (s.size + 1) (fun gh pp ff ii wr => ∃ (i a : Nat) (acc : List Int), gh = s.size + 2 - i ∧ 1 ≤ a ∧ a ≤ i ∧ i ≤ s.size + 1 ∧ acc.length ≤ i ∧ ff = .int .i64 a ∧ ii = .int .i64 i ∧ Hid (IntsM wr w.heap.size pp acc) ∧ ((i ≤ s.size ∧ Hid (res = readParts 65536 (partsOf 47 (s.data.toList.drop a)) acc) ∧ Hid (∀ j, a ≤ j → j < i → s.data.toList[j]? ≠ some 47)) ∨ (s.size < i ∧ Hid (res = (acc, 0)))) ∧ Below w.heap.size w wr)
        case atStart => exact ⟨1, 1, [], by omega, by omega, by omega, by omega, by simp, rfl, rfl, HM0, .inl ⟨by omega, hz, hidden (fun j h h' => by omega)⟩, hb0⟩
        case round =>
          clear HM0 hb0 hz
          obtain ⟨i, a, acc, rfl, ha1, hai, hi1, hacl, rfl, rfl, HM, hph, hb⟩ := hrel
          have hbz := hb.size
          rcases hph with ⟨his, HR, HNo⟩ | ⟨his, HR⟩
          · have q3 : decide ((i : Int) ≤ (s.size : Int)) = true := decide_eq_true (by omega)
            by_cases hgo : ∃ h : i < s.size, (s[i]'h).toNat ≠ 47
            · obtain ⟨hlt, hne⟩ := hgo
              have hc := (s[i]'hlt).toNat_lt
              have q4 : decide ((i : Int) < (s.size : Int)) = true := decide_eq_true (by omega)
              have q5 : (((s[i]'hlt).toNat : Int) != 47) = true := by rw [bne_iff_ne]; omega
              have hgi := hbd.out i hlt
              have HNo2 : Hid (∀ j, a ≤ j → j < i + 1 → s.data.toList[j]? ≠ some 47) := hidden (fun j h h' => by
                by_cases e : j = i
                · subst e
                  rw [hgi]
                  intro e
                  exact hne (by rw [Option.some.inj e]; rfl)
                · exact HNo.out j h (by omega))
              clear hne HNo hgi
              go_wp2
              go_roundg (s.size + 2 - (i + 1))
              case measure => omega
              case rel => exact ⟨i + 1, a, acc, rfl, ha1, by omega, by omega, by omega, rfl, by go_num, HM, .inl ⟨by omega, HR, HNo2⟩, hb⟩
            · have hst : Hid ((readN (s.extract a i).data.toList 65536).2 = 0 → (i + 1 ≤ s.size ∧ res = readParts 65536 (partsOf 47 (s.data.toList.drop (i + 1))) (acc ++ [(readN (s.extract a i).data.toList 65536).1])) ∨ (s.size < i + 1 ∧ res = (acc ++ [(readN (s.extract a i).data.toList 65536).1], 0))) := hidden (fun h => by
                by_cases hlt : i < s.size
                · left
                  have h47 : s.data.toList[i]? = some 47 := by
                    rw [hbd.out i hlt]
                    congr 1
                    apply Classical.byContradiction
                    intro hn
                    exact hgo ⟨hlt, fun e => hn (UInt8.toNat_inj.1 e)⟩
                  rw [HR.out, hCut.out a i hai h47 HNo.out, parts_one, ← hEx.out, if_pos h]
                  exact ⟨by omega, rfl⟩
                · right
                  obtain rfl : i = s.size := by omega
                  rw [HR.out, hLast.out a HNo.out, parts_one, ← hEx.out, if_pos h]
                  exact ⟨by omega, rfl⟩)
              have hsx : Hid ((readN (s.extract a i).data.toList 65536).2 ≠ 0 → res = ([], (readN (s.extract a i).data.toList 65536).2)) := hidden (fun h => by
                by_cases hlt : i < s.size
                · have h47 : s.data.toList[i]? = some 47 := by
                    rw [hbd.out i hlt]
                    congr 1
                    apply Classical.byContradiction
                    intro hn
                    exact hgo ⟨hlt, fun e => hn (UInt8.toNat_inj.1 e)⟩
                  rw [HR.out, hCut.out a i hai h47 HNo.out, parts_one, ← hEx.out, if_neg h]
                · obtain rfl : i = s.size := by omega
                  rw [HR.out, hLast.out a HNo.out, parts_one, ← hEx.out, if_neg h])
              have hes := hEs.out a i hai his
              have HC := hidden (fun w' => ref_Read01 (s.extract a i) 65536 w' (by omega) (by omega) (by unfold maxLen; omega))
              generalize readN (s.extract a i).data.toList 65536 = rd at *
              obtain ⟨n, e⟩ := rd
              dsimp only at *
              have hor : (decide ((i : Int) < (s.size : Int)) = false ∧ s.size ≤ i ∧ decide (i < s.size) = false) ∨ ∃ hlt : i < s.size, decide ((i : Int) < (s.size : Int)) = true ∧ (((s[i]'hlt).toNat : Int) != 47) = false := by
                by_cases hlt : i < s.size
                · right
                  refine ⟨hlt, decide_eq_true (by omega), ?_⟩
                  rw [bne_eq_false_iff_eq]
                  apply Classical.byContradiction
                  intro hn
                  exact hgo ⟨hlt, fun e => hn (by omega)⟩
                · left; exact ⟨decide_eq_false (by omega), by omega, decide_eq_false (by omega)⟩
              have hia : decide ((a : Int) ≤ (i : Int)) = true := decide_eq_true (by omega)
              clear hgo HNo HR
              rcases hor with ⟨q4, q4b, q4c⟩ | ⟨hlt, q4, q5⟩
              rotate_left
              have hc := (s[i]'hlt).toNat_lt
              rotate_left
              all_goals
                go_wp2_with fail
                refine (HC.out _).mono ?_
                rintro r w2 ⟨rfl, rfl⟩
                by_cases he : e = 0
                · subst he
                  have q6 : ((0 : Int) != 0) = false := rfl
                  have HR2 := hidden (hst.out rfl)
                  clear hst hsx HC
                  go_wp2_with (at_builtin; refine wpList_append_i rfl _ _ rfl w.heap.size _ _ HM n rfl rfl rfl rfl (by omega) hbz ?_; intro v' w' hA hb2 hK)
                  go_roundg (s.size + 2 - (i + 1))
                  case measure => omega
                  case rel => exact ⟨i + 1, i + 1, acc ++ [n], rfl, by omega, by omega, by omega, by simp; omega, by go_num, by go_num, hA, (by
                    rcases HR2.out with ⟨h1, h2⟩ | ⟨h1, h2⟩
                    · exact .inl ⟨h1, h2, fun j h h' => by omega⟩
                    · exact .inr ⟨h1, h2⟩), hb.trans hb2⟩
                · have q6 : (e != 0) = true := by rw [bne_iff_ne]; exact he
                  have hr2 := hsx.out he
                  clear hst hsx HC
                  go_wp2
                  go_ret2
                  exact ⟨⟨_, by rw [hr2]; rfl, hidden (by rw [hr2]; exact Rd.nil _ _ _)⟩, hb⟩
          · have q3 : decide ((i : Int) ≤ (s.size : Int)) = false := decide_eq_false (by omega)
            have he := HR.out
            have HMr := hidden (RowM.rd HM.out)
            clear HR
            go_wp2
            go_ret2
            exact ⟨⟨_, by rw [he]; rfl, hidden (by rw [he]; exact HMr.out)⟩, hb⟩
    · have q1 : (((s[0]'h1).toNat : Int) != 47) = true := by rw [bne_iff_ne]; omega
      have hz : Hid (readPath s.data.toList = ([], 3)) := hidden (by rw [hd, readPath_other (fun e => hc (by rw [e]; rfl))])
      generalize readPath s.data.toList = res at *
      have hz2 := hz.out
      subst hz2
      clear hd hrl hl hc
      go_enter Tryd.func9, Tryd.ntmps9
      go_wp2
      go_ret2
      exact ⟨⟨_, rfl, hidden (Rd.nil _ _ _)⟩, Below.refl _ _⟩
end Go.Proofs.YtdbbjlphlbndkaaDoor
