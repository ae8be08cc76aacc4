/-
  law06.WordJoins.
-/
import Derived.Test.YtaagkbgbghleiaaWordJoinPlain
import Derived.Deep.RegionWith
namespace Go.Proofs.Ytaagkbgbghleiaa
open Go.RowKit Go.Shelf

theorem joinW_le (l : List ByteArray) : ∀ i, i ≤ l.length → (joinW l i).size ≤ ((l.take i).map fun x => x.size + 1).sum := by
  intro i
  induction i with
  | zero => intro _; exact Nat.zero_le _
  | succ i ih =>
    intro hi
    have hx := List.getElem?_eq_getElem (show i < l.length by omega)
    have hg : l.getD i ⟨#[]⟩ = l[i] := by rw [List.getD_eq_getElem?_getD, hx]; rfl
    have h1 := ih (by omega)
    rw [joinW, hg, List.take_succ_eq_append_getElem (by omega), List.map_append, List.sum_append, ByteArray.size_append]
    simp only [List.map_cons, List.map_nil, List.sum_cons, List.sum_nil]
    split
    · rw [ByteArray.size_append]
      have : (⟨#[32]⟩ : ByteArray).size = 1 := rfl
      omega
    · omega
theorem words_sum (s : ByteArray) : ∀ n k, s.size - k ≤ n → (((wordsAt s k).map (cutTo s)).map fun x => x.size + 1).sum ≤ s.size + 1 - k := by
  intro n
  induction n with
  | zero => intro k h; rw [wordsAt_past (by omega)]; simp
  | succ n ih =>
    intro k h
    by_cases hk : k < s.size
    · by_cases hc : s[k] = 32
      · rw [wordsAt_blank hk hc]
        have := ih (k + 1) (by omega)
        omega
      · obtain ⟨e, e1, e2, e3, e4, e5⟩ := word_step hk hc
        have hz : (cutTo s (k, e)).size = e - k := extract_size s e2
        rw [e5, List.map_cons, List.map_cons, List.sum_cons, hz]
        have := ih (e + 1) (by omega)
        omega
    · rw [wordsAt_past (by omega)]; simp
theorem sum_take_le (l : List ByteArray) (i : Nat) : ((l.take i).map fun x => x.size + 1).sum ≤ (l.map fun x => x.size + 1).sum := by
  have : (l.map fun x => x.size + 1).sum = ((l.take i).map fun x => x.size + 1).sum + ((l.drop i).map fun x => x.size + 1).sum := by
    rw [← List.sum_append, ← List.map_append, List.take_append_drop]
  omega
theorem joinW_bound (s : ByteArray) : (joinW (wordsOf s) (wordsOf s).length).size ≤ s.size + 1 := by
  have h1 := joinW_le (wordsOf s) _ (Nat.le_refl _)
  have h2 := words_sum s s.size 0 (by omega)
  rw [List.take_length] at h1
  unfold wordsOf at h1 ⊢
  omega
theorem joinL_size (l : List ByteArray) : (joinL l).size = (l.map fun x => x.size + 1).sum := by
  have key : ∀ (l : List ByteArray) (acc : ByteArray), (l.foldl (fun a x => a ++ x ++ ⟨#[10]⟩) acc).size = acc.size + (l.map fun x => x.size + 1).sum := by
    intro l
    induction l with
    | nil => intro acc; simp
    | cons x l ih =>
      intro acc
      rw [List.foldl_cons, ih, ByteArray.size_append, ByteArray.size_append, List.map_cons, List.sum_cons]
      have : (⟨#[10]⟩ : ByteArray).size = 1 := rfl
      omega
  have := key l ⟨#[]⟩
  have h0 : (⟨#[]⟩ : ByteArray).size = 0 := rfl
  unfold joinL
  omega
theorem joinL_take {l : List ByteArray} {k : Nat} {x : ByteArray} (h : l[k]? = some x) : (joinL (l.take k)).size + x.size + 1 ≤ (joinL l).size := by
  obtain ⟨hk, e⟩ := List.getElem?_eq_some_iff.1 h
  have h1 := sum_take_le l (k + 1)
  rw [List.take_succ_eq_append_getElem hk, e, List.map_append, List.sum_append] at h1
  simp only [List.map_cons, List.map_nil, List.sum_cons, List.sum_nil] at h1
  rw [joinL_size, joinL_size]
  omega
theorem joinW_take {s : ByteArray} {k : Nat} {x : ByteArray} (h : (wordsOf s)[k]? = some x) : (joinW (wordsOf s) k).size + 1 + x.size ≤ s.size + 1 := by
  obtain ⟨hk, e⟩ := List.getElem?_eq_some_iff.1 h
  have h1 := sum_take_le (wordsOf s) (k + 1)
  have h2 := joinW_le (wordsOf s) k (by omega)
  have h3 := words_sum s s.size 0 (by omega)
  rw [List.take_succ_eq_append_getElem hk, e, List.map_append, List.sum_append] at h1
  simp only [List.map_cons, List.map_nil, List.sum_cons, List.sum_nil] at h1
  have h4 : ((wordsOf s).map fun x => x.size + 1).sum ≤ s.size + 1 := by unfold wordsOf; omega
  omega
theorem strs_tail {w : World} {T : Nat → Prop} {b off c : Nat} {l : List ByteArray} (h : Strs w T (.slice (some ⟨b, off, none⟩) l.length c) l) (h1 : 1 ≤ l.length) : Strs w T (.slice (if c = 1 then some ⟨b, off, none⟩ else some ⟨b, off + 1, none⟩) (l.length - 1) (c - 1)) (l.drop 1) := by
  obtain ⟨hl, A', c', hv, h2, h3, h4⟩ := h
  simp only [Value.slice.injEq] at hv
  obtain ⟨rfl, _, rfl⟩ := hv
  have hf : ∀ l : List ByteArray, (l.flatMap strC).length = l.length := fun l => by rw [flat_len strC 1 (fun _ => rfl), Nat.mul_one]
  have hdl : (l.drop 1).length = l.length - 1 := List.length_drop
  unfold Strs
  rw [hdl]
  refine ⟨by rw [hf, hdl, Nat.mul_one], _, c - 1, rfl, by omega, by omega, fun h0 => ?_⟩
  rw [hf, hdl] at h0
  obtain ⟨b', off', e, hT, hc⟩ := h4 (by rw [hf]; omega)
  simp only [Option.some.injEq, Addr.mk.injEq] at e
  obtain ⟨rfl, rfl, _⟩ := e
  refine ⟨b, off + 1, by rw [if_neg (by omega)], hT, fun j u hu => ?_⟩
  have hd : (l.drop 1).flatMap strC = (l.flatMap strC).drop 1 := by
    cases l with
    | nil => rfl
    | cons x l => rfl
  rw [hd, List.getElem?_drop] at hu
  have := hc _ u hu
  rwa [show off + 1 + j = off + (1 + j) by omega]

set_option maxRecDepth 20000 in
set_option maxHeartbeats 16000000 in
theorem law_joins (s : ByteArray) (w : World) (hs : s.size ≤ maxLen) :
    Calls Try.prog 4 #[.string s] w fun r w' => r = .returned (.bool true) ∧ Below w.heap.size w w' := by
  unfold maxLen at hs
  have hb := Below.refl w.heap.size w
  by_cases hlen : 1000 < s.size
  · go_enter Try.func4, Try.ntmps4
    go_wp2_with fail
    refine (knows06 w).mono ?_
    rintro r wg ⟨rfl, hbg⟩
    replace hb := hb.trans (hbg.mono hb.size)
    clear hbg
    go_wp2
    go_ret
    exact ⟨rfl, hb⟩
  have H1 := hidden (fun w' => word_lines s w' (by omega))
  have HJ := hidden (join_all s)
  have q3 : decide ((1000 : Int) < (s.size : Int)) = false := by simp; omega
  have HSn := hidden joinL_snoc
  have HSz : Hid (∀ (k : Nat) (x : ByteArray), (linesOf s)[k]? = some x → (joinL ((linesOf s).take k)).size + x.size + 1 ≤ 1001) := hidden (fun k x h => by
    have h1 := joinL_take h
    rcases HJ.out with ⟨h2, _⟩ | ⟨h2, _⟩
    · rw [h2] at h1; omega
    · rw [h2, ByteArray.size_append] at h1
      have : (⟨#[10]⟩ : ByteArray).size = 1 := rfl
      omega)
  generalize linesOf s = L at *
  have HTk : Hid (∀ (k : Nat) (x : ByteArray), L[k]? = some x → L.take (k + 1) = L.take k ++ [x]) := hidden (fun k x h => by
    obtain ⟨hk, e⟩ := List.getElem?_eq_some_iff.1 h
    rw [List.take_succ_eq_append_getElem hk, e])
  go_enter Try.func4, Try.ntmps4
  go_wp2_with fail
  refine (H1.out _).mono ?_
  rintro r wg ⟨⟨u4, rfl, M4⟩, hbg⟩
  replace hb := hb.trans (hbg.mono hb.size)
  clear hbg
  have hR4 := StrsM.rd M4.out
  obtain ⟨A4, c4, rfl, k1, k2⟩ := hR4.val
  unfold maxLen at k2
  have HR4 := hidden hR4
  clear H1 M4 hR4
  go_wp2
  go_loopw [3, 5] (fun aa kk wr => ∃ (k : Nat) (acc : ByteArray), kk = .int .i64 k ∧ k ≤ L.length ∧ aa = .string acc ∧ Hid (acc = joinL (L.take k)) ∧ wg = wr) (fun _ kk _ => L.length - (intOf kk).toNat)
  case atStart => exact ⟨0, ⟨#[]⟩, rfl, by omega, rfl, hidden rfl, rfl⟩
  case round =>
    obtain ⟨k, acc, rfl, hk, rfl, HA, rfl⟩ := hrel
    by_cases hlt : k < L.length
    · have hx := List.getElem?_eq_getElem hlt
      generalize L[k] = x at *
      obtain ⟨b4, o4, rfl, _, x0⟩ := strs_at HR4.out hx
      have HA2 : Hid (acc ++ x ++ ⟨#[10]⟩ = joinL (L.take (k + 1))) := hidden (by rw [HTk.out k x hx, HSn.out, HA.out])
      have hsz := HSz.out k x hx
      rw [← HA.out] at hsz
      clear hx
      go_wp2
      go_roundw
      case rel => exact ⟨k + 1, _, by go_num, by omega, rfl, HA2, by trivial⟩
      case measure => simp [intOf]; omega
    · obtain rfl : k = L.length := by omega
      have hacc := HA.out
      rw [List.take_length] at hacc
      have HAll := hidden hacc
      clear hacc HA HTk HSn
      have key : ∃ s2 : ByteArray, Hid (acc = s2) ∧ s2.size ≤ 1001 ∧ (s2 = s ∧ (s.size = 0 ∨ ∃ h : s.size - 1 < s.size, s[s.size - 1] = 10) ∨ s2 = s ++ ⟨#[10]⟩ ∧ ∃ h : s.size - 1 < s.size, s[s.size - 1] ≠ 10) := by
        rcases HJ.out with ⟨h1, h2⟩ | ⟨h1, h2⟩
        · refine ⟨s, hidden (by rw [HAll.out, h1]), by omega, .inl ⟨rfl, ?_⟩⟩
          rcases h2 with h2 | ⟨h2, h3⟩
          · exact .inl h2
          · exact .inr ⟨by omega, h3⟩
        · refine ⟨s ++ ⟨#[10]⟩, hidden (by rw [HAll.out, h1]), ?_, .inr ⟨rfl, ?_⟩⟩
          · rw [ByteArray.size_append]
            have : (⟨#[10]⟩ : ByteArray).size = 1 := rfl
            omega
          · have hp : 0 < s.size := by
              rcases Nat.eq_zero_or_pos s.size with h | h
              · exact absurd (.inl h) h2
              · exact h
            exact ⟨by omega, fun h => h2 (.inr ⟨hp, h⟩)⟩
      obtain ⟨s2, HA2, hs2, hcase⟩ := key
      have ha2 := HA2.out
      clear HAll HJ HA2
      subst ha2
      have hs3 : acc.size ≤ 1000000 := Nat.le_trans hs2 (by decide)
      have HW := hidden (fun w' => word_words acc w' hs3)
      have HCu := hidden (fun w' => word_cut acc w' hs3)
      have HJW := hidden (join_words acc)
      have hJB := joinW_bound acc
      have HSz2 : Hid (∀ (k : Nat) (x : ByteArray), (wordsOf acc)[k]? = some x → (joinW (wordsOf acc) k).size + 1 + x.size ≤ 1002) := hidden (fun k x h => by have := joinW_take h; omega)
      have HWl := hidden (fun w' => word_words (joinW (wordsOf acc) (wordsOf acc).length) w' (by omega))
      rw [HJW.out] at HWl
      have HCo : Hid (wordsAt acc 0 = [] ∧ cutOf acc = (⟨#[]⟩, ⟨#[]⟩) ∧ wordsOf acc = [] ∨ ∃ p r, cutOf acc = (cutTo acc p, behind acc p) ∧ wordsOf acc = cutTo acc p :: r ∧ wordsOf (behind acc p) = r ∧ (behind acc p).size ≤ 1000000) := hidden (by
        cases hw : wordsAt acc 0 with
        | nil => exact .inl ⟨rfl, by unfold cutOf; rw [hw], by unfold wordsOf; rw [hw]; rfl⟩
        | cons p r =>
          refine .inr ⟨p, r.map (cutTo acc), by unfold cutOf; rw [hw], by unfold wordsOf; rw [hw]; rfl, behind_words hw, ?_⟩
          unfold behind
          rw [extract_size _ (Nat.le_refl _)]
          omega)
      have hbz := hb.size
      rcases hcase with ⟨e, h0 | ⟨h0, h1⟩⟩ | ⟨e, h0, h1⟩
      case' inl.inl =>
        subst e
        have q5 : decide ((0 : Int) < (acc.size : Int)) = false := decide_eq_false (by omega)
        go_wp2_with fail
      case' inl.inr =>
        subst e
        have q5 : decide ((0 : Int) < (acc.size : Int)) = true := decide_eq_true (by omega)
        have hcl := (acc[acc.size - 1]'h0).toNat_lt
        have q6 : (((acc[acc.size - 1]'h0).toNat : Int) != 10) = false := by rw [h1]; rfl
        clear h1
        go_wp2_with fail
      case' neg.inr =>
        subst e
        have q5 : decide ((0 : Int) < (s.size : Int)) = true := decide_eq_true (by omega)
        have hcl := (s[s.size - 1]'h0).toNat_lt
        have q0 := byte_ne h1
        have q6 : (((s[s.size - 1]'h0).toNat : Int) != 10) = true := by rw [bne, show (10 : Int) = ((10 : UInt8).toNat : Int) from rfl, q0]; rfl
        clear h1 q0
        go_wp2_with fail
        generalize s ++ ⟨#[10]⟩ = acc at *
      all_goals
        refine (HW.out _).mono ?_
        rintro r w3 ⟨⟨u6, rfl, M6⟩, hb3⟩
        replace hb := hb.trans (hb3.mono hbz)
        have hR6 := StrsM.rd M6.out
        have HG : Hid (∀ k x, (wordsOf acc)[k]? = some x → (wordsOf acc).getD k ⟨#[]⟩ = x) := hidden (fun k x h => by rw [List.getD_eq_getElem?_getD, h]; rfl)
        generalize wordsOf acc = W at *
        obtain ⟨A6, c6, rfl, l1, l2⟩ := hR6.val
        have l3 := l2
        unfold maxLen at l2
        have HR6 := hidden (fun (w' : World) (hw : Below w3.heap.size w3 w') => Rd.old hR6 hw)
        have hbz3 := hb.size
        clear M6 hR6 HW hb3
        go_wp2
        go_loopw [7, 8] (fun ll kk wr => ∃ (k : Nat) (ln : ByteArray), kk = .int .i64 k ∧ k ≤ W.length ∧ ll = .string ln ∧ Hid (ln = joinW W k) ∧ w3 = wr) (fun _ kk _ => W.length - (intOf kk).toNat)
        case atStart => exact ⟨0, ⟨#[]⟩, rfl, by omega, rfl, hidden rfl, rfl⟩
        case round =>
          obtain ⟨k, ln, rfl, hk, rfl, HA, rfl⟩ := hrel
          by_cases hlt : k < W.length
          · have hx := List.getElem?_eq_getElem hlt
            generalize W[k] = x at *
            obtain ⟨b6, o6, rfl, _, x0⟩ := strs_at (HR6.out _ (Below.refl _ _)) hx
            have hsz := HSz2.out k x hx
            rw [← HA.out] at hsz
            have HXg := hidden (HG.out k x hx)
            clear hx
            by_cases h0 : 0 < k
            · have q8 : decide ((0 : Int) < (k : Int)) = true := decide_eq_true (by omega)
              have HA2 : Hid (ln ++ ⟨#[32]⟩ ++ x = joinW W (k + 1)) := hidden (by rw [joinW, if_pos h0, HXg.out, HA.out])
              go_wp2
              go_roundw
              case rel => exact ⟨k + 1, _, by go_num, by omega, rfl, HA2, by trivial⟩
              case measure => simp [intOf]; omega
            · have q8 : decide ((0 : Int) < (k : Int)) = false := decide_eq_false (by omega)
              have HA2 : Hid (ln ++ x = joinW W (k + 1)) := hidden (by rw [joinW, if_neg h0, HXg.out, HA.out])
              go_wp2
              go_roundw
              case rel => exact ⟨k + 1, _, by go_num, by omega, rfl, HA2, by trivial⟩
              case measure => simp [intOf]; omega
          · obtain rfl : k = W.length := by omega
            rw [← HA.out] at HWl
            clear HA HG HSz2
            rcases HCo.out with ⟨_, hco, hW⟩ | ⟨p, r, hco, hW, hrw, hbs⟩
            · rw [hco] at HCu
              subst hW
              clear hco HCo
              go_wp2_with fail
              refine (HCu.out _).mono ?_
              rintro r w4 ⟨rfl, hb4⟩
              replace hb := hb.trans (hb4.mono hb.size)
              go_wp2_with fail
              refine (knows06 _).mono ?_
              rintro r w5 ⟨rfl, hb5⟩
              replace hb := hb.trans (hb5.mono hb.size)
              go_wp2
              go_ret
              exact ⟨rfl, hb⟩
            · rw [hco] at HCu
              have HWb := hidden (fun w' => word_words (behind acc p) w' hbs)
              rw [hrw] at HWb
              have HW0 := hidden hW
              clear hco HCo hrw hW
              have q9 : (((W.length : Nat) : Int) == 0) = false := by
                have := congrArg List.length HW0.out
                rw [List.length_cons] at this
                exact beq_false_of_ne (by omega)
              go_wp2_with fail
              refine (HCu.out _).mono ?_
              rintro r4 w4 ⟨rfl, hb4⟩
              replace hb := hb.trans (hb4.mono hb.size)
              go_wp2_with fail
              have hb34 := hb4.drew
              have hbd := hb.drew
              have hx0 : W[0]? = some (cutTo acc p) := by rw [HW0.out]; rfl
              have hdr : W.drop 1 = r := by rw [HW0.out]; rfl
              have hwl : r.length < W.length := by rw [HW0.out, List.length_cons]; omega
              obtain ⟨b6, o6, rfl, _, x6⟩ := strs_at (HR6.out _ hb34) hx0
              have HX0 : Hid (∀ w' : World, Below w3.heap.size w3 w' → w'.cell? ⟨b6, o6, none⟩ = some (.string (cutTo acc p))) := hidden (fun w' hw => by
                obtain ⟨b, o, e, _, h⟩ := strs_at (HR6.out _ hw) hx0
                simp only [Option.some.injEq, Addr.mk.injEq] at e
                obtain ⟨rfl, rfl, _⟩ := e
                exact h)
              have HD6 : Hid (∀ w' : World, Below w3.heap.size w3 w' → Strs w' (Old w') (.slice (if c6 = 1 then some ⟨b6, o6, none⟩ else some ⟨b6, o6 + 1, none⟩) (W.length - 1) (c6 - 1)) r) := hidden (fun w' hw => by rw [← hdr]; exact strs_tail (HR6.out _ hw) (by omega))
              have q10 : (eqB W W) = true := eqB_iff.2 rfl
              have q11 : (eqB r r) = true := eqB_iff.2 rfl
              have q12 : ((cutTo acc p).toList == (cutTo acc p).toList) = true := by rw [strs_eql]; exact eqB_iff.2 rfl
              have q13 : (1 : Int) ≤ (W.length : Int) := by omega
              have q14 : (W.length : Int) ≤ (c6 : Int) := by omega
              have q15 : 0 < W.length := by omega
              have q16 : (0 : Int) < (W.length : Int) := by omega
              clear hx0 hdr
              clear hb4 hb
              by_cases hc6 : c6 = 1
              · subst hc6
                replace HD6 : Hid (∀ w' : World, Below w3.heap.size w3 w' → Strs w' (Old w') (.slice (some ⟨b6, o6, none⟩) 0 0) r) := hidden (fun w' hw => by have := HD6.out w' hw; rw [if_pos rfl, show W.length - 1 = 0 by omega] at this; exact this)
                go_region_with (first
                  | (go_at_call_of 21 (Value.string ln); refine (HWl.out _).mono ?_; rintro rr w5 ⟨⟨u82, rfl, M82⟩, hb5⟩; have S82 := StrsM.rd M82.out; clear M82; obtain ⟨A82, c82, rfl, _, _⟩ := S82.val; have HS82 := hidden S82; clear S82; have hb35 := hb34.trans (hb5.mono hb34.size); have hbe := hbd.trans (hb5.mono hbd.size); have x5 := HX0.out _ hb35)
                  | (go_at_call_of 18 (Value.slice (some ⟨b6, o6, none⟩) W.length 1); refine (same_strs _ _ W W _ HS82.out (HR6.out _ hb35)).mono ?_; rintro rr w6 ⟨rfl, hb6⟩; have hb36 := hb35.trans (hb6.mono hb35.size); have hbf := hbe.trans (hb6.mono hbe.size); have x7 := HX0.out _ hb36; rw [show eqB W W = true from eqB_iff.2 rfl])
                  | (go_at_call_of 21 (Value.string (behind acc p)); refine (HWb.out _).mono ?_; rintro rr w7 ⟨⟨u94, rfl, M94⟩, hb7⟩; have S94 := StrsM.rd M94.out; clear M94; obtain ⟨A94, c94, rfl, _, _⟩ := S94.val; have HS94 := hidden S94; clear S94; have hb37 := hb36.trans (hb7.mono hb36.size); have hbh := hbf.trans (hb7.mono hbf.size))
                  | (go_at_call_of 18 (Value.slice A94 r.length c94); refine (same_strs _ _ r r _ HS94.out (HD6.out _ hb37)).mono ?_; rintro rr w8 ⟨rfl, hb8⟩; have hbi := hbh.trans (hb8.mono hbh.size); rw [show eqB r r = true from eqB_iff.2 rfl])
                  | (go_at_call 15; refine (knows06 _).mono ?_; rintro rr w9 ⟨rfl, hb9⟩; have hbj := hbi.trans (hb9.mono hbi.size)))
                go_wp2
                go_ret
                exact ⟨rfl, hbj⟩
              · replace HD6 : Hid (∀ w' : World, Below w3.heap.size w3 w' → Strs w' (Old w') (.slice (some ⟨b6, o6 + 1, none⟩) (W.length - 1) (c6 - 1)) r) := hidden (fun w' hw => by have := HD6.out w' hw; rwa [if_neg hc6] at this)
                go_region_with (first
                  | (go_at_call_of 21 (Value.string ln); refine (HWl.out _).mono ?_; rintro rr w5 ⟨⟨u82, rfl, M82⟩, hb5⟩; have S82 := StrsM.rd M82.out; clear M82; obtain ⟨A82, c82, rfl, _, _⟩ := S82.val; have HS82 := hidden S82; clear S82; have hb35 := hb34.trans (hb5.mono hb34.size); have hbe := hbd.trans (hb5.mono hbd.size); have x5 := HX0.out _ hb35)
                  | (go_at_call_of 18 (Value.slice (some ⟨b6, o6, none⟩) W.length c6); refine (same_strs _ _ W W _ HS82.out (HR6.out _ hb35)).mono ?_; rintro rr w6 ⟨rfl, hb6⟩; have hb36 := hb35.trans (hb6.mono hb35.size); have hbf := hbe.trans (hb6.mono hbe.size); have x7 := HX0.out _ hb36; rw [show eqB W W = true from eqB_iff.2 rfl])
                  | (go_at_call_of 21 (Value.string (behind acc p)); refine (HWb.out _).mono ?_; rintro rr w7 ⟨⟨u94, rfl, M94⟩, hb7⟩; have S94 := StrsM.rd M94.out; clear M94; obtain ⟨A94, c94, rfl, _, _⟩ := S94.val; have HS94 := hidden S94; clear S94; have hb37 := hb36.trans (hb7.mono hb36.size); have hbh := hbf.trans (hb7.mono hbf.size))
                  | (go_at_call_of 18 (Value.slice A94 r.length c94); refine (same_strs _ _ r r _ HS94.out (HD6.out _ hb37)).mono ?_; rintro rr w8 ⟨rfl, hb8⟩; have hbi := hbh.trans (hb8.mono hbh.size); rw [show eqB r r = true from eqB_iff.2 rfl])
                  | (go_at_call 15; refine (knows06 _).mono ?_; rintro rr w9 ⟨rfl, hb9⟩; have hbj := hbi.trans (hb9.mono hbi.size)))
                go_wp2
                go_ret
                exact ⟨rfl, hbj⟩
end Go.Proofs.Ytaagkbgbghleiaa
