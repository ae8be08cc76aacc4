/-
  Paths told as texts: trail.Show, and the document's Show.
-/
import Derived.Test.YtdbbjlphlbndkaaDoorNumW
import Derived.Test.YtdbbjlphlbndkaaDoorPartsP
import Derived.Test.YtdbbjlphlbndkaaDoorShelfD
namespace Go.Proofs.YtdbbjlphlbndkaaDoor
open Go.RowKit Go.Shelf

/-- Parts, each with a / ahead. -/
def slashB (l : List ByteArray) : List UInt8 := if l = [] then [47] else l.flatMap fun s => 47 :: s.data.toList
theorem slash_join (x : ByteArray) (r : List ByteArray) : 47 :: Lib.join ((x :: r).map (·.data.toList)) [47] = slashB (x :: r) := by
  unfold slashB
  rw [if_neg (by simp), List.map_cons, Lib.join_cons, List.flatMap_cons, List.cons_append]
  congr 2
  unfold Lib.joinTail
  rw [List.map_map]
  rfl
def showB (x : Int) : ByteArray := ⟨(showI x).toArray⟩
theorem slash_show (l : List Int) (h : l ≠ []) : slashB (l.map showB) = slashed l := by
  unfold slashB slashed
  rw [if_neg (by simpa using h), List.flatMap_map]
  rfl
theorem showI_len (x : Int) (hx : x ≤ 9223372036854775807) : (showI x).length ≤ 20 := by
  unfold showI
  split
  · simp
  · exact digs_len 19 _ (by omega)
theorem slashed_len (l : List Int) (hx : ∀ x ∈ l, x ≤ 9223372036854775807) : (slashed l).length ≤ 21 * l.length := by
  induction l with
  | nil => simp [slashed]
  | cons x l ih =>
    have h1 := ih (fun y hy => hx y (List.mem_cons_of_mem _ hy))
    have h2 := showI_len x (hx x List.mem_cons_self)
    unfold slashed at h1 ⊢
    rw [List.flatMap_cons, List.length_append, List.length_cons, List.length_cons]
    omega
theorem slashed_snoc (l : List Int) (x : Int) : slashed (l ++ [x]) = slashed l ++ 47 :: showI x := by
  unfold slashed
  rw [List.flatMap_append]
  simp

set_option maxRecDepth 20000 in
set_option maxHeartbeats 4000000 in
theorem trail_join (v : Value) (l : List ByteArray) (w : World) (hR : Strs w (Old w) v l) (hn : l.length ≤ 1000000) (hlen : (slashB l).length ≤ 100000000000) :
    Calls Tryd.prog 30 #[v] w fun r w' => r = .returned (.string ⟨(slashB l).toArray⟩) ∧ Below w.heap.size w w' := by
  obtain ⟨A, c, rfl, hc1, hc2⟩ := hR.val
  unfold maxLen at hc2
  cases l with
  | nil =>
    clear hR
    go_enter Tryd.func30, Tryd.ntmps30
    go_wp2
    go_ret
    exact ⟨rfl, Below.refl _ _⟩
  | cons x r =>
    obtain ⟨b, off, rfl, hT, _⟩ := strs_at hR (i := 0) rfl
    have hjl : (Lib.join ((x :: r).map (·.data.toList)) [47]).length + 1 ≤ 100000000000 := by
      rw [← slash_join] at hlen
      simpa using hlen
    have HJ : Hid (Calls Tryd.prog 41 #[.slice (some ⟨b, off, none⟩) (x :: r).length c, .string ⟨#[47]⟩] w fun e w' => e = .returned (.string ⟨(Lib.join ((x :: r).map (·.data.toList)) [47]).toArray⟩) ∧ Below w.heap.size w w') := hidden (Lib0.strings_Join b off c (x :: r) ⟨#[47]⟩ w (fun j y hy => by
      obtain ⟨b', off', e, _, h⟩ := strs_at hR hy
      cases e
      exact h) hT (by omega) hc1 (by show (Lib.join _ [47]).length ≤ _; omega))
    have HS : Hid (((⟨#[47]⟩ : ByteArray) ++ ⟨(Lib.join ((x :: r).map (·.data.toList)) [47]).toArray⟩) = ⟨(slashB (x :: r)).toArray⟩) := hidden (by rw [bytes_cons, slash_join])
    have hz : ((⟨(Lib.join ((x :: r).map (·.data.toList)) [47]).toArray⟩ : ByteArray)).size ≤ 100000000000 := by rw [bytes_size]; omega
    have hq : (((x :: r).length : Int) == 0) = false := by rw [beq_eq_false_iff_ne, List.length_cons]; omega
    generalize hjd : (⟨(Lib.join ((x :: r).map (·.data.toList)) [47]).toArray⟩ : ByteArray) = js at *
    have HJ2 : Hid (Calls Tryd.prog 41 #[.slice (some ⟨b, off, none⟩) (x :: r).length c, .string ⟨#[47]⟩] w fun e w' => e = .returned (.string js) ∧ Below w.heap.size w w') := hidden (by first | exact HJ.out | (rw [← hjd]; exact HJ.out))
    clear HJ hjd
    clear hR hlen
    go_enter Tryd.func30, Tryd.ntmps30
    go_wp2_with fail
    refine HJ2.out.mono ?_
    rintro e w' ⟨rfl, hb⟩
    go_wp2
    rw [HS.out]
    go_ret
    exact ⟨rfl, hb⟩

set_option maxRecDepth 20000 in
set_option maxHeartbeats 8000000 in
theorem trail_Show (v : Value) (l : List Int) (w : World) (hR : Ints w (Old w) v l) (hn : l.length ≤ 1000000) (hx : ∀ x ∈ l, x ≤ 9223372036854775807) :
    Calls Tryd.prog 10 #[v] w fun r w' => r = .returned (.string ⟨(showPath l).toArray⟩) ∧ Below w.heap.size w w' := by
  obtain ⟨A, c, rfl, hc1, hc2⟩ := hR.val
  unfold maxLen at hc2
  have HR := hidden (fun (w' : World) (hb : Below w.heap.size w w') => Rd.old hR hb)
  have HN := hidden (fun (k : Nat) (x : Int) (hx : l[k]? = some x) (h : x < 0) => (by unfold showPath; exact if_pos (holdsB_true ⟨x, List.mem_of_getElem? hx, h⟩) : showPath l = []))
  have HP : Hid ((∀ (k : Nat) (x : Int), k < l.length → l[k]? = some x → ¬ x < 0) → slashB (l.map showB) = showPath l) := hidden (fun h => by
    unfold showPath
    rw [if_neg (by rw [holdsB_false]; decide; rintro ⟨x, hx, h0⟩; obtain ⟨k, hk⟩ := List.mem_iff_getElem?.1 hx; exact h k x (List.getElem?_eq_some_iff.1 hk).1 hk h0)]
    by_cases e : l = []
    · subst e; rfl
    · rw [if_neg e, slash_show l e])
  have HX := hidden (fun k x (h : l[k]? = some x) => hx x (List.mem_of_getElem? h))
  have HL : Hid ((slashB (l.map showB)).length ≤ 21000001) := hidden (by
    by_cases e : l = []
    · subst e; decide
    · rw [slash_show l e]
      have := slashed_len l hx
      omega)
  have HTk := hidden (fun k x (h : l[k]? = some x) => (by rw [← take_snoc_at' h, List.map_append]; rfl : (l.take (k + 1)).map showB = (l.take k).map showB ++ [showB x]))
  have HAll : Hid ((l.take l.length).map showB = l.map showB) := hidden (by rw [List.take_length])
  have HM0 := hidden (Mine.nil w w.heap.size 9 1)
  have hb0 := Below.refl w.heap.size w
  generalize showPath l = res at *
  clear hR hx
  go_enter Tryd.func10, Tryd.ntmps10
  go_wp2
  go_loopg [3, 8] l.length (fun gh pp ii wr => ∃ k : Nat, k ≤ l.length ∧ gh = l.length - k ∧ ii = .int .i64 k ∧ Hid (StrsM wr w.heap.size pp ((l.take k).map showB)) ∧ Hid (∀ (j : Nat) (x : Int), j < k → l[j]? = some x → ¬ x < 0) ∧ Below w.heap.size w wr)
  case atStart => exact ⟨0, by omega, by omega, rfl, HM0, hidden (fun j x h => by omega), hb0⟩
  case round =>
    clear HM0 hb0
    obtain ⟨k, hk, rfl, rfl, HM, HJ, hb⟩ := hrel
    have hbz := hb.size
    by_cases hlt : k < l.length
    · have hxk := List.getElem?_eq_getElem hlt
      have hbd := HX.out k _ hxk
      have HT := hidden (HTk.out k _ hxk)
      have HNk := hidden (HN.out k _ hxk)
      have HJn : Hid (¬ l[k] < 0 → ∀ (j : Nat) (x : Int), j < k + 1 → l[j]? = some x → ¬ x < 0) := hidden (fun h j y hj hy => by
        by_cases e : j = k
        · subst e; rw [hxk] at hy; cases hy; exact h
        · exact HJ.out j y (by omega) hy)
      generalize l[k] = x at *
      obtain ⟨b1, o1, rfl, _, x0⟩ := row_at (HR.out _ hb) hxk
      clear hxk
      by_cases h0 : x < 0
      · have q0 : decide (x < 0) = true := decide_eq_true h0
        have HE := hidden (HNk.out h0)
        go_wp2
        go_ret
        exact ⟨by rw [HE.out]; rfl, hb⟩
      · have q0 : decide (x < 0) = false := decide_eq_false h0
        have HC := hidden (fun w' => num_Show x w' hbd)
        have HJ2 := hidden (HJn.out h0)
        clear HNk HJn HJ
        go_wp2_with fail
        refine (HC.out _).mono ?_
        rintro e w1 ⟨rfl, hb1⟩
        replace HM := hidden (Mine.below HM.out hb1)
        replace hb := (hb.trans (hb1.mono hb.size))
        have hbz := hb.size
        clear hb1 HC
        go_wp2_with (at_builtin; refine wpList_append_str rfl _ _ rfl w.heap.size _ _ HM (showB x) rfl rfl rfl rfl (by rw [List.length_map, List.length_take]; omega) hbz ?_; intro v' w' hA hb2 hK)
        rw [← HT.out] at hA
        go_roundg (l.length - (k + 1))
        case measure => omega
        case rel => exact ⟨k + 1, by omega, rfl, by go_num, hA, HJ2, hb.trans hb2⟩
    · obtain rfl : k = l.length := by omega
      have HE := hidden (HP.out (fun j x h1 h2 => by have := HJ.out j x h1 h2; omega))
      rw [HAll.out] at HM
      have HC := hidden (trail_join u3 _ wr HM.out.rd (by rw [List.length_map]; omega) (by have := HL.out; omega))
      clear HN HP
      go_wp2_with fail
      refine HC.out.mono ?_
      rintro e w1 ⟨rfl, hb1⟩
      go_wp2
      go_ret
      exact ⟨by rw [← HE.out]; rfl, (hb.trans (hb1.mono hb.size))⟩

set_option maxRecDepth 20000 in
set_option maxHeartbeats 8000000 in
theorem ref_Show32 (v : Value) (l : List Int) (w : World) (hR : Ints w (Old w) v l) (hn : l.length ≤ 1000000) (hx : ∀ x ∈ l, x ≤ 9223372036854775807) :
    Calls Tryd.prog 11 #[v] w fun r w' => r = .returned (.string ⟨(showPath l).toArray⟩) ∧ Below w.heap.size w w' := by
  obtain ⟨A, c, rfl, hc1, hc2⟩ := hR.val
  unfold maxLen at hc2
  have HR := hidden (fun (w' : World) (hb : Below w.heap.size w w') => Rd.old hR hb)
  have HN := hidden (fun (k : Nat) (x : Int) (hx : l[k]? = some x) (h : x < 0) => (by unfold showPath; exact if_pos (holdsB_true ⟨x, List.mem_of_getElem? hx, h⟩) : showPath l = []))
  have HP : Hid ((∀ (k : Nat) (x : Int), k < l.length → l[k]? = some x → 0 ≤ x) → showPath l = if l = [] then [47] else slashed l) := hidden (fun h => by
    unfold showPath
    rw [if_neg (by rw [holdsB_false]; decide; rintro ⟨x, hx, h0⟩; obtain ⟨k, hk⟩ := List.mem_iff_getElem?.1 hx; have := h k x (List.getElem?_eq_some_iff.1 hk).1 hk; omega)])
  have HX := hidden (fun k x (h : l[k]? = some x) => hx x (List.mem_of_getElem? h))
  have HLn := hidden (fun k => slashed_len (l.take k) (fun x hh => hx x (List.mem_of_mem_take hh)))
  have HTk := hidden (fun k x (h : l[k]? = some x) => (by rw [← take_snoc_at' h, slashed_snoc] : slashed (l.take (k + 1)) = slashed (l.take k) ++ 47 :: showI x))
  have HAll : Hid (l.take l.length = l) := hidden (by rw [List.take_length])
  have hb0 := Below.refl w.heap.size w
  obtain ⟨res, hres⟩ : ∃ res, res = showPath l := ⟨_, rfl⟩
  rw [← hres] at HN HP ⊢
  clear hR hx hres
  go_enter Tryd.func11, Tryd.ntmps11
  go_wp2
  go_loopg [3, 4] l.length (fun gh ss ii wr => ∃ (k : Nat) (acc : ByteArray), k ≤ l.length ∧ gh = l.length - k ∧ ss = .string acc ∧ ii = .int .i64 k ∧ Hid (acc = ⟨(slashed (l.take k)).toArray⟩) ∧ acc.size ≤ 21 * k ∧ Hid (∀ (j : Nat) (x : Int), j < k → l[j]? = some x → 0 ≤ x) ∧ Below w.heap.size w wr)
  case atStart => exact ⟨0, ⟨#[]⟩, by omega, by omega, rfl, rfl, hidden rfl, by decide, hidden (fun j x h => by omega), hb0⟩
  case round =>
    clear hb0
    obtain ⟨k, acc, hk, rfl, rfl, rfl, HAc, hacs, HJ, hb⟩ := hrel
    have hbz := hb.size
    by_cases hlt : k < l.length
    · have hxk := List.getElem?_eq_getElem hlt
      have hbd := HX.out k _ hxk
      have HT := hidden (HTk.out k _ hxk)
      have HNk := hidden (HN.out k _ hxk)
      have HJn : Hid (0 ≤ l[k] → ∀ (j : Nat) (x : Int), j < k + 1 → l[j]? = some x → 0 ≤ x) := hidden (fun h j y hj hy => by
        by_cases e : j = k
        · subst e; rw [hxk] at hy; cases hy; exact h
        · exact HJ.out j y (by omega) hy)
      generalize l[k] = x at *
      obtain ⟨b1, o1, rfl, _, x0⟩ := row_at (HR.out _ hb) hxk
      clear hxk
      by_cases h0 : x < 0
      · have q0 : decide (x < 0) = true := decide_eq_true h0
        have HE := hidden (HNk.out h0)
        go_wp2
        go_ret
        exact ⟨by rw [HE.out]; rfl, hb⟩
      · have q0 : decide (x < 0) = false := decide_eq_false h0
        have HC := hidden (fun w' => ref_Show01 x w' hbd)
        have HJ2 := hidden (HJn.out (by omega))
        have hsl := showI_len x hbd
        have HAn : Hid ((acc ++ ⟨#[47]⟩) ++ ⟨(showI x).toArray⟩ = ⟨(slashed (l.take (k + 1))).toArray⟩) := hidden (by
          rw [HAc.out, HT.out, show (⟨#[47]⟩ : ByteArray) = ⟨[47].toArray⟩ from rfl, bytes_app, bytes_app]
          congr 1
          simp)
        have hz1 : (⟨#[47]⟩ : ByteArray).size = 1 := rfl
        have hz2 : (⟨(showI x).toArray⟩ : ByteArray).size ≤ 20 := by rw [bytes_size]; exact hsl
        have hz3 : (acc ++ ⟨#[47]⟩).size = acc.size + 1 := by rw [ByteArray.size_append, hz1]
        have HZ := hidden (show ((acc ++ ⟨#[47]⟩) ++ (⟨(showI x).toArray⟩ : ByteArray)).size ≤ 21 * (k + 1) by rw [ByteArray.size_append, hz3]; omega)
        generalize (⟨(showI x).toArray⟩ : ByteArray) = sx at *
        clear HNk HJn HJ HT
        go_wp2_with fail
        refine (HC.out _).mono ?_
        rintro e w1 ⟨rfl, hb1⟩
        replace hb := hb.trans (hb1.mono hb.size)
        clear hb1 HC
        go_wp2
        go_roundg (l.length - (k + 1))
        case measure => omega
        case rel => exact ⟨k + 1, _, by omega, rfl, rfl, by go_num, HAn, HZ.out, HJ2, hb⟩
    · obtain rfl : k = l.length := by omega
      have HE := hidden (HP.out HJ.out)
      rw [HAll.out] at HAc
      have hie := list_isEmpty acc
      by_cases hl : l = []
      · have hz : acc.toList.isEmpty = true := by rw [hie, HAc.out, bytes_size, hl]; rfl
        rw [if_pos hl] at HE
        clear HN HP hie HAc hl
        go_wp2
        go_ret
        exact ⟨by rw [HE.out]; rfl, hb⟩
      · have hz : acc.toList.isEmpty = false := by
          rw [hie, HAc.out, bytes_size, decide_eq_false_iff_not]
          cases l with
          | nil => exact absurd rfl hl
          | cons x r => unfold slashed; simp
        rw [if_neg hl] at HE
        clear HN HP hie hl
        go_wp2
        go_ret
        exact ⟨by rw [HE.out, ← HAc.out]; rfl, hb⟩

/-! ### Reading -/
theorem parts_split (s : ByteArray) : ((Lib.splitB ⟨#[47]⟩ 0 (Lib.countB s ⟨#[47]⟩) s).map (·.data.toList)) = partsOf 47 s.data.toList := by
  rw [Lib.splitB_data]
  exact split_parts 47 s.data.toList.length s.data.toList (Nat.le_refl _)
theorem split_slash (s : ByteArray) (m : Int) (w : World) (hs : s.size < 4294967281) (hm : w.cell? ⟨0, 0, none⟩ = some (.int .i64 m)) :
    Calls Tryd.prog 26 #[.string s, .string ⟨#[47]⟩] w fun e w' => ∃ P : List ByteArray, e = .returned (.slice (some ⟨w.heap.size, 0, none⟩) P.length P.length) ∧ P.map (·.data.toList) = partsOf 47 s.data.toList ∧ w' = w.alloc (.cells (P.map Value.string).toArray 9) := by
  refine (Lib0.strings_Split s ⟨#[47]⟩ m w hs hm (by decide)).mono ?_
  rintro e w' ⟨rfl, rfl⟩
  refine ⟨_, ?_, parts_split s, rfl⟩
  rw [Lib.splitB_all _ (by decide) 0 _ s rfl]
theorem strs_fresh (w : World) (P : List ByteArray) (h : P.length ≤ maxLen) : Strs (w.alloc (.cells (P.map Value.string).toArray 9)) (Old (w.alloc (.cells (P.map Value.string).toArray 9))) (.slice (some ⟨w.heap.size, 0, none⟩) P.length P.length) P := by
  have e : P.flatMap strC = P.map Value.string := by
    induction P with
    | nil => rfl
    | cons x P ih => rw [List.flatMap_cons, ih (by simp at h; omega)]; rfl
  unfold Strs
  rw [e]
  exact Rd.fresh (by simp) (Nat.le_refl _) h (by simp [Old]) rfl
theorem readPath_not {l : List UInt8} (h : Lib.hasPrefix l [47] = false) : readPath l = ([], 3) := by
  unfold readPath
  cases l with
  | nil => rfl
  | cons c l =>
    unfold Lib.hasPrefix at h
    dsimp only
    rw [if_neg]
    rintro rfl
    simp [List.isPrefixOf] at h
theorem prefix_cons {l : List UInt8} (h : Lib.hasPrefix l [47] = true) : l = 47 :: l.drop 1 := by
  cases l with
  | nil => simp [Lib.hasPrefix, List.isPrefixOf] at h
  | cons c l =>
    simp [Lib.hasPrefix, List.isPrefixOf] at h
    subst h
    rfl
theorem readPath_yes {l : List UInt8} (h : Lib.hasPrefix l [47] = true) : readPath l = if l.drop 1 = [] then ([], 0) else readParts 65536 (partsOf 47 (l.drop 1)) [] := by
  conv => lhs; rw [prefix_cons h]
  unfold readPath
  dsimp only
  rw [if_pos rfl]
theorem parts_next {most : Int} {L : List (List UInt8)} {k : Nat} {p : List UInt8} (hp : L[k]? = some p) (acc : List Int) : readParts most (L.drop k) acc = if (readN p most).2 = 0 then readParts most (L.drop (k + 1)) (acc ++ [(readN p most).1]) else ([], (readN p most).2) := by
  obtain ⟨hk, e⟩ := List.getElem?_eq_some_iff.1 hp
  rw [List.drop_eq_getElem_cons hk, e, readParts]

set_option maxRecDepth 20000 in
set_option maxHeartbeats 8000000 in
theorem trail_Read (s : ByteArray) (m : Int) (w : World) (hs : s.size ≤ 1000000) (hm : w.cell? ⟨0, 0, none⟩ = some (.int .i64 m)) :
    Calls Tryd.prog 8 #[.string s] w fun r w' => (∃ u, r = .returned (.tuple #[u, .int .i64 (readPath s.data.toList).2]) ∧ Hid (Ints w' (Old w') u (readPath s.data.toList).1)) ∧ Below w.heap.size w w' := by
  have HC := hidden ((Lib0.strings_CutPrefix s ⟨#[47]⟩ w).mono (fun e w' h => (⟨h.1, h.2.symm⟩ : e = .returned (.tuple #[.string ⟨(Lib.trimPrefix s.data.toList (⟨#[47]⟩ : ByteArray).data.toList).toArray⟩, .bool (Lib.hasPrefix s.data.toList (⟨#[47]⟩ : ByteArray).data.toList)]) ∧ w = w')))
  have hl := data_len s
  have hdl : (s.data.toList.drop 1).length ≤ 1000000 := by rw [List.length_drop]; omega
  cases hp : Lib.hasPrefix s.data.toList [47] with
  | false =>
    have hp2 : Lib.hasPrefix s.data.toList (⟨#[47]⟩ : ByteArray).data.toList = false := hp
    have ht : Lib.trimPrefix s.data.toList (⟨#[47]⟩ : ByteArray).data.toList = s.data.toList := by unfold Lib.trimPrefix; rw [hp2]; rfl
    rw [readPath_not hp]
    rw [hp2, ht] at HC
    clear hp2 ht
    go_enter Tryd.func8, Tryd.ntmps8
    go_wp2_with fail
    refine HC.out.mono ?_
    rintro e w' ⟨rfl, rfl⟩
    go_wp2
    (try rw [Exit.noGoto_ret]); go_ret2
    exact ⟨⟨_, rfl, hidden (Rd.nil _ _ _)⟩, Below.refl _ _⟩
  | true =>
    have hp2 : Lib.hasPrefix s.data.toList (⟨#[47]⟩ : ByteArray).data.toList = true := hp
    have ht : Lib.trimPrefix s.data.toList (⟨#[47]⟩ : ByteArray).data.toList = s.data.toList.drop 1 := by unfold Lib.trimPrefix; rw [hp2]; rfl
    rw [readPath_yes hp]
    rw [hp2, ht] at HC
    clear hp2 ht hp
    generalize s.data.toList.drop 1 = l at *
    have hie := list_isEmpty ⟨l.toArray⟩
    rw [bytes_size] at hie
    by_cases h0 : l = []
    · subst h0
      rw [if_pos rfl]
      have hie2 : (⟨([] : List UInt8).toArray⟩ : ByteArray).toList.isEmpty = true := hie
      generalize (⟨([] : List UInt8).toArray⟩ : ByteArray) = rest at *
      clear hie
      go_enter Tryd.func8, Tryd.ntmps8
      go_wp2_with fail
      refine HC.out.mono ?_
      rintro e w' ⟨rfl, rfl⟩
      go_wp2
      (try rw [Exit.noGoto_ret]); go_ret2
      exact ⟨⟨_, rfl, hidden (RowM.rd (enc := intV) (e := 3) (base := 0) (l := []) (Mine.fresh_nil _ _ _ _ _))⟩, (Below.refl _ _).alloc (Nat.le_refl _) _⟩
    · rw [if_neg h0]
      have hie2 : (⟨l.toArray⟩ : ByteArray).toList.isEmpty = false := by rw [hie, decide_eq_false_iff_not]; intro e; exact h0 (List.length_eq_zero_iff.1 e)
      have HSp := hidden (split_slash ⟨l.toArray⟩ m w (by rw [bytes_size]; omega) hm)
      have hpl : (partsOf 47 l).length ≤ 1000001 := by have := parts_len 47 l; omega
      have hps := hidden (fun p (h : p ∈ partsOf 47 l) => Nat.le_trans (parts_sub 47 l p h) hdl)
      obtain ⟨res, hres⟩ : ∃ res, res = readParts 65536 (partsOf 47 l) [] := ⟨_, rfl⟩
      rw [← hres]
      have HR0 := hidden hres
      have hml : (⟨l.toArray⟩ : ByteArray).data.toList = l := rfl
      rw [hml] at HSp
      clear hie h0 hml hres
      generalize (⟨l.toArray⟩ : ByteArray) = rest at *
      generalize partsOf 47 l = parts at *
      clear hl hs hdl
      go_enter Tryd.func8, Tryd.ntmps8
      go_wp2_with fail
      refine HC.out.mono ?_
      rintro e w' ⟨rfl, rfl⟩
      clear HC
      go_wp2_with fail
      refine HSp.out.mono ?_
      rintro e w' ⟨P, rfl, hP, rfl⟩
      subst hP
      rw [List.length_map] at hpl
      have HSt := hidden (strs_fresh w P (by unfold maxLen; omega))
      have hb1 := (Below.refl w.heap.size w).alloc (Nat.le_refl _) (.cells (P.map Value.string).toArray 9)
      have hp0 : w.heap.size < (w.alloc (.cells (P.map Value.string).toArray 9)).heap.size := by simp
      obtain ⟨b0, hb0⟩ : ∃ b0, b0 = w.heap.size := ⟨_, rfl⟩
      rw [← hb0] at HSt hp0 ⊢
      have HB0 := hidden hb0
      clear hb0 HSp hie2
      generalize w.alloc (.cells (P.map Value.string).toArray 9) = w1 at *
      have HM0 := hidden (RowM.nil intV 3 w1 w1.heap.size)
      have HNx := hidden (fun (k : Nat) (x : ByteArray) (acc : List Int) (h : P[k]? = some x) => parts_next (most := 65536) (L := P.map (·.data.toList)) (k := k) (p := x.data.toList) (by rw [List.getElem?_map, h]; rfl) acc)
      have HEnd : Hid (∀ acc : List Int, readParts 65536 ((P.map (·.data.toList)).drop P.length) acc = (acc, 0)) := hidden (fun acc => by rw [List.drop_of_length_le (by simp)]; rfl)
      have HPs := hidden (fun (k : Nat) (x : ByteArray) (h : P[k]? = some x) => (by rw [← data_len]; exact hps.out _ (List.mem_map.2 ⟨x, List.mem_of_getElem? h, rfl⟩) : x.size ≤ 1000000))
      clear hps
      go_wp2
      go_loopg [6, 26] P.length (fun gh pp ii wr => ∃ (k : Nat) (acc : List Int), k ≤ P.length ∧ gh = P.length - k ∧ acc.length = k ∧ ii = .int .i64 k ∧ Hid (IntsM wr w1.heap.size pp acc) ∧ Hid (res = readParts 65536 ((P.map (·.data.toList)).drop k) acc) ∧ Below w1.heap.size w1 wr)
      case atStart => exact ⟨0, [], by omega, by omega, rfl, rfl, HM0, HR0, Below.refl _ _⟩
      case round =>
        clear HM0 HR0
        obtain ⟨k, acc, hk, rfl, hacl, rfl, HM, HR, hb⟩ := hrel
        have hbz := hb.size
        have hbw : Below w.heap.size w wr := hb1.trans (hb.mono hb1.size)
        by_cases hlt : k < P.length
        · have hx := List.getElem?_eq_getElem hlt
          have hsz := HPs.out k _ hx
          have HNk := hidden (HNx.out k _ acc hx)
          generalize P[k] = x at *
          obtain ⟨b2, o2, hbe, _, x0⟩ := strs_at (Rd.old HSt.out hb) hx
          cases hbe
          rw [Nat.zero_add] at x0
          have HC := hidden (fun w' => num_Read x 65536 w' (by omega) (by omega) (by unfold maxLen; omega))
          have HRk : Hid (res = if (readN x.data.toList 65536).2 = 0 then readParts 65536 ((P.map (·.data.toList)).drop (k + 1)) (acc ++ [(readN x.data.toList 65536).1]) else ([], (readN x.data.toList 65536).2)) := hidden (by rw [HR.out, HNk.out])
          generalize readN x.data.toList 65536 = rd at *
          obtain ⟨n, e⟩ := rd
          dsimp only at *
          clear hx HNk HR
          go_wp2_with fail
          refine (HC.out _).mono ?_
          rintro r w2 ⟨rfl, rfl⟩
          by_cases he : e = 0
          · subst he
            have q0 : ((0 : Int) != 0) = false := rfl
            have HR2 : Hid (res = readParts 65536 ((P.map (·.data.toList)).drop (k + 1)) (acc ++ [n])) := hidden (by rw [HRk.out, if_pos rfl])
            clear HRk HC
            go_wp2_with (at_builtin; refine wpList_append_i rfl _ _ rfl w1.heap.size _ _ HM n rfl rfl rfl rfl (by omega) hbz ?_; intro v' w' hA hb2 hK)
            go_roundg (P.length - (k + 1))
            case measure => omega
            case rel => exact ⟨k + 1, acc ++ [n], by omega, rfl, by simp; omega, by go_num, hA, HR2, hb.trans hb2⟩
          · have q0 : (e != 0) = true := by rw [bne_iff_ne]; exact he
            have HR2 : Hid (res = ([], e)) := hidden (by rw [HRk.out, if_neg he])
            have hr2 := HR2.out
            clear HRk HC
            go_wp2
            (try rw [Exit.noGoto_ret]); go_ret2
            exact ⟨⟨_, by rw [hr2]; rfl, hidden (by rw [hr2]; exact Rd.nil _ _ _)⟩, hbw⟩
        · obtain rfl : k = P.length := by omega
          have HE := hidden (HR.out.trans (HEnd.out acc))
          have he := HE.out
          have HMr := hidden (RowM.rd HM.out)
          clear HR HE
          go_wp2
          (try rw [Exit.noGoto_ret]); go_ret2
          exact ⟨⟨_, by rw [he]; rfl, hidden (by rw [he]; exact HMr.out)⟩, hbw⟩
end Go.Proofs.YtdbbjlphlbndkaaDoor
