/-
  num.Show, and the document's Show: a number's digits.
-/
import Derived.Test.YtfmdmeokbbpmlaaGreatNumP
import Derived.Laws.IdiomStrings
namespace Go.Proofs.YtfmdmeokbbpmlaaGreat
open Go.RowKit Go.Shelf

def byteV (c : UInt8) : Value := .int .u8 (c.toNat : Int)
/-- The array of a number's digits, filled from behind. -/
def digArr (k : Nat) (tl : List UInt8) : Array Value := (List.replicate k (Value.int .u8 0) ++ tl.map byteV).toArray
theorem digArr_set (k : Nat) (c : UInt8) (tl : List UInt8) : (digArr (k + 1) tl).setIfInBounds k (byteV c) = digArr k (c :: tl) := by
  unfold digArr
  rw [List.setIfInBounds_toArray, List.replicate_succ', List.append_assoc]
  congr 1
  rw [List.set_append_right _ _ (by simp)]
  simp
theorem digArr_at {k : Nat} {tl : List UInt8} {j : Nat} (h : j < tl.length) : (digArr k tl)[k + j]? = some (.int .u8 ((tl[j]).toNat : Int)) := by
  unfold digArr
  rw [List.getElem?_toArray, List.getElem?_append_right (by simp), List.length_replicate, Nat.add_sub_cancel_left, List.getElem?_map, List.getElem?_eq_getElem h]
  rfl
theorem digArr_zero : digArr 20 [] = #[.int .u8 0, .int .u8 0, .int .u8 0, .int .u8 0, .int .u8 0, .int .u8 0, .int .u8 0, .int .u8 0, .int .u8 0, .int .u8 0, .int .u8 0, .int .u8 0, .int .u8 0, .int .u8 0, .int .u8 0, .int .u8 0, .int .u8 0, .int .u8 0, .int .u8 0, .int .u8 0] := rfl

theorem bytes_cons (c : UInt8) (l : List UInt8) : (⟨#[c]⟩ : ByteArray) ++ ⟨l.toArray⟩ = ⟨(c :: l).toArray⟩ := by
  apply ByteArray.ext
  rw [ByteArray.data_append]
  simp
theorem bytes_app (a b : List UInt8) : (⟨a.toArray⟩ : ByteArray) ++ ⟨b.toArray⟩ = ⟨(a ++ b).toArray⟩ := by
  apply ByteArray.ext
  rw [ByteArray.data_append]
  simp
theorem bytes_size (l : List UInt8) : (⟨l.toArray⟩ : ByteArray).size = l.length := by
  show l.toArray.size = l.length
  simp
/-- A text of one byte, out of a slice of it that was made just now. -/
theorem conv_one (W : World) (d : Nat) (hd : d < 10) (c : Nat) : (convert 95 9 (.slice (some ⟨W.heap.size, 0, none⟩) 1 c)).run Tryz.prog (W.alloc (.cells #[.int .u8 (48 + (d : Int))] 5)) = .ok (.string ⟨[digC d].toArray⟩) (W.alloc (.cells #[.int .u8 (48 + (d : Int))] 5)) :=
  run_convert_bytes_back _ 95 9 5 ⟨W.heap.size, 0, none⟩ c [digC d] Tryz.underlying95 Tryz.underlying5 Tryz.underlying9 (fun j hj => by
    obtain rfl : j = 0 := by simp at hj; omega
    rw [addr_add, Nat.zero_add, (Holds.new W 5 #[.int .u8 (48 + (d : Int))]).cell]
    show some (Value.int .u8 (48 + (d : Int))) = some (.int .u8 ((digC d).toNat : Int))
    rw [digC_nat hd]
    push_cast
    rfl)

set_option maxRecDepth 20000 in
set_option maxHeartbeats 8000000 in
theorem ref_Show01 (n : Int) (w : World) (hn : n ≤ 9223372036854775807) :
    Calls Tryz.prog 32 #[.int .i64 n] w fun r w' => r = .returned (.string ⟨(showI n).toArray⟩) ∧ Below w.heap.size w w' := by
  by_cases h0 : n < 0
  · have d0 : decide (n < 0) = true := decide_eq_true h0
    have HE : Hid (showI n = []) := hidden (if_pos h0)
    clear h0 hn
    generalize showI n = res at *
    go_enter Tryz.func32, Tryz.ntmps32
    go_wp2
    go_ret
    exact ⟨by rw [HE.out]; rfl, Below.refl _ _⟩
  · obtain ⟨N, rfl⟩ : ∃ N : Nat, n = (N : Int) := ⟨n.toNat, by omega⟩
    have d0 : decide ((N : Int) < 0) = false := decide_eq_false h0
    rw [showI_nat]
    obtain ⟨RS, hRS⟩ : ∃ RS, RS = digs N := ⟨_, rfl⟩
    rw [← hRS]
    have hmr := Nat.mod_lt N (show 10 > 0 by omega)
    have hD0 : Hid ((N / 10 = 0 → RS = [digC (N % 10)]) ∧ (0 < N / 10 → RS = digs (N / 10) ++ [digC (N % 10)])) := hidden ⟨fun h => by rw [hRS, digs_lt (by omega), Nat.mod_eq_of_lt (by omega)], fun h => by rw [hRS, digs_ge (by omega)]⟩
    clear hRS h0
    have hcv := conv_one w (N % 10) hmr
    have hb0 := (Below.refl w.heap.size w).alloc (Nat.le_refl _) (.cells #[.int .u8 (48 + ((N % 10 : Nat) : Int))] 5)
    have hq : ((N % 10 : Nat) : Int) = (N : Int) % 10 := by omega
    rw [hq] at hcv hb0
    have hN20 : N / 10 < 10 ^ 19 := by omega
    clear hq
    go_enter Tryz.func32, Tryz.ntmps32
    go_wp2
    clear hcv
    go_loopg [0, 3] 20 (fun a mm ss wr => ∃ (m : Nat) (tl : List UInt8), mm = .int .i64 m ∧ ss = .string ⟨tl.toArray⟩ ∧ a + tl.length = 21 ∧ m < 10 ^ (a - 1) ∧ 1 ≤ a ∧ m ≤ 9223372036854775807 ∧ Hid ((m = 0 → RS = tl) ∧ (0 < m → RS = digs m ++ tl)) ∧ Below w.heap.size w wr)
    case atStart => exact ⟨N / 10, [digC (N % 10)], by go_num, rfl, rfl, hN20, by omega, by omega, hD0, hb0⟩
    case round =>
      clear hb0 hD0
      obtain ⟨m, tl, rfl, rfl, hal, hma, ha1, hm6, HD, hb⟩ := hrel
      obtain ⟨k, rfl⟩ : ∃ k, gk = k + 1 := ⟨gk - 1, by omega⟩
      rw [Nat.add_sub_cancel] at hma
      by_cases hz : m = 0
      · have q0 : decide (0 < (m : Int)) = false := decide_eq_false (by omega)
        have HE := hidden (HD.out.1 hz)
        clear HD
        go_wp2
        go_ret
        exact ⟨by rw [HE.out]; rfl, hb⟩
      · have q0 : decide (0 < (m : Int)) = true := decide_eq_true (by omega)
        have hk1 : 1 ≤ k := by
          rcases Nat.eq_zero_or_pos k with h | h
          · subst h; simp at hma; omega
          · exact h
        have hmr2 := Nat.mod_lt m (show 10 > 0 by omega)
        have hmd : m / 10 < 10 ^ (k - 1) := by
          obtain ⟨k', rfl⟩ : ∃ k', k = k' + 1 := ⟨k - 1, by omega⟩
          rw [Nat.add_sub_cancel, Nat.div_lt_iff_lt_mul (by omega)]; rw [Nat.pow_succ] at hma; exact hma
        have hcv := conv_one wr (m % 10) hmr2
        have hb2 := hb.alloc hb.size (.cells #[.int .u8 (48 + ((m % 10 : Nat) : Int))] 5)
        have hq : ((m % 10 : Nat) : Int) = (m : Int) % 10 := by omega
        rw [hq] at hcv hb2
        have HD2 : Hid ((m / 10 = 0 → RS = digC (m % 10) :: tl) ∧ (0 < m / 10 → RS = digs (m / 10) ++ digC (m % 10) :: tl)) := hidden ⟨fun h => by
          rw [HD.out.2 (by omega), digs_lt (by omega), Nat.mod_eq_of_lt (by omega)]; rfl, fun h => by
          rw [HD.out.2 (by omega), digs_ge (by omega), List.append_assoc]; rfl⟩
        have hs1 := bytes_size [digC (m % 10)]
        have hs2 := bytes_size tl
        have htl : tl.length ≤ 20 := by omega
        clear HD hq hmr2 hb
        go_wp2
        rw [bytes_cons]
        go_roundg k
        case measure => omega
        case rel => exact ⟨m / 10, digC (m % 10) :: tl, by go_num, rfl, by simp; omega, by first | exact hmd | simpa using hmd, by omega, by omega, HD2, hb2⟩

/-! ### Reading -/
theorem badN_cons (c : UInt8) (r : List UInt8) (h : ¬ (c.toNat = 48 ∧ r ≠ [])) : badN (c :: r) = !((c :: r).all digitB) := by
  show (decide (c.toNat = 48) && !r.isEmpty || !(c :: r).all digitB) = _
  have : (decide (c.toNat = 48) && !r.isEmpty) = false := by
    rw [Bool.eq_false_iff]
    intro e
    simp only [Bool.and_eq_true, decide_eq_true_eq, Bool.not_eq_true'] at e
    exact h ⟨e.1, by intro e2; rw [e2] at e; simp at e⟩
  rw [this, Bool.false_or]
theorem badN_lead (c : UInt8) (r : List UInt8) (h : c.toNat = 48) (hr : r ≠ []) : badN (c :: r) = true := by
  show (decide (c.toNat = 48) && !r.isEmpty || !(c :: r).all digitB) = true
  have : r.isEmpty = false := by cases r <;> simp_all
  rw [h, this]
  simp
theorem fold_none (most : Int) (l : List UInt8) : l.foldl (stepN most) none = none := by
  induction l with
  | nil => rfl
  | cons c l ih => rw [List.foldl_cons]; exact ih
theorem step_some (most n : Int) (c : UInt8) : stepN most (some n) c = if most < (c.toNat : Int) - 48 ∨ (most - ((c.toNat : Int) - 48)) / 10 < n then none else some (n * 10 + ((c.toNat : Int) - 48)) := rfl
theorem fold_bounds (most : Int) (l : List UInt8) (hl : ∀ c ∈ l, digitB c = true) : ∀ n, 0 ≤ n → n ≤ most → ∀ z, l.foldl (stepN most) (some n) = some z → 0 ≤ z ∧ z ≤ most := by
  induction l with
  | nil => intro n h1 h2 z hz; simp at hz; subst hz; exact ⟨h1, h2⟩
  | cons c l ih =>
    intro n h1 h2 z hz
    have hc := hl c List.mem_cons_self
    simp only [digitB, Bool.and_eq_true, decide_eq_true_eq] at hc
    rw [List.foldl_cons, step_some] at hz
    split at hz
    · rw [fold_none most l] at hz
      cases hz
    · rename_i hs
      exact ih (fun x hx => hl x (List.mem_cons_of_mem _ hx)) _ (by omega) (by omega) z hz

theorem data_get (s : ByteArray) {k : Nat} (h : k < s.size) : s.data.toList[k]? = some (s[k]'h) := by
  rw [Array.getElem?_toList, Array.getElem?_eq_getElem (show k < s.data.size from h)]
  rfl
theorem data_len (s : ByteArray) : s.data.toList.length = s.size := by
  rw [Array.length_toList]; rfl

theorem list_isEmpty (s : ByteArray) : s.toList.isEmpty = decide (s.size = 0) := by
  rw [ByteArray.toList_eq, ← data_len]
  cases s.data.toList <;> simp
theorem take_next (s : ByteArray) {k : Nat} (h : k < s.size) : s.data.toList.take (k + 1) = s.data.toList.take k ++ [s[k]'h] := by
  have h2 : k < s.data.toList.length := by rw [data_len]; exact h
  rw [List.take_succ_eq_append_getElem h2]
  rfl
theorem fold_next (s : ByteArray) (most : Int) {k : Nat} (h : k < s.size) : (s.data.toList.take (k + 1)).foldl (stepN most) (some 0) = stepN most ((s.data.toList.take k).foldl (stepN most) (some 0)) (s[k]'h) := by
  rw [take_next s h, List.foldl_append]; rfl
/-- The ways a text may be read as a number. -/
theorem readN_empty {s : ByteArray} (h : s.size = 0) (most : Int) : readN s.data.toList most = (0, 3) := by
  have : s.data.toList = [] := List.length_eq_zero_iff.1 (by rw [data_len]; exact h)
  rw [this]; rfl
theorem data_head (s : ByteArray) (h : 0 < s.size) : ∃ r, s.data.toList = (s[0]'h) :: r ∧ r.length + 1 = s.size := by
  have h1 := data_get s h
  have h2 := data_len s
  cases e : s.data.toList with
  | nil => rw [e] at h1; simp at h1
  | cons c r =>
    rw [e] at h1 h2
    simp at h1 h2
    exact ⟨r, by rw [h1], h2⟩
theorem readN_lead {s : ByteArray} (h : 1 < s.size) (h0 : (s[0]'(by omega)).toNat = 48) (most : Int) : readN s.data.toList most = (0, 3) := by
  obtain ⟨r, e, hl⟩ := data_head s (by omega)
  unfold readN
  rw [e, badN_lead _ _ h0 (by intro e2; subst e2; simp at hl; omega), if_pos rfl]
theorem readN_bad (s : ByteArray) (k : Nat) (h : k < s.size) (hd : digitB (s[k]'h) = false) (most : Int) : readN s.data.toList most = (0, 3) := by
  have hall : s.data.toList.all digitB = false := by
    rw [Bool.eq_false_iff]
    intro e
    have := List.all_eq_true.1 e _ (List.mem_of_getElem? (data_get s h))
    rw [hd] at this; cases this
  have hb : badN s.data.toList = true := by
    cases e : s.data.toList with
    | nil => rfl
    | cons c r =>
      rw [e] at hall
      show (decide (c.toNat = 48) && !r.isEmpty || !(c :: r).all digitB) = true
      rw [hall]; simp
  unfold readN
  rw [hb, if_pos rfl]
theorem readN_good {s : ByteArray} (h : 0 < s.size) (h0 : (s[0]'h).toNat = 48 → s.size = 1) (hall : ∀ (i : Nat) (hi : i < s.size), digitB (s[i]'hi) = true) (most : Int) : readN s.data.toList most = match s.data.toList.foldl (stepN most) (some 0) with | none => (0, 2) | some n => (n, 0) := by
  obtain ⟨r, e, hl⟩ := data_head s h
  have hg : badN s.data.toList = false := by
    rw [e, badN_cons _ _ (fun ⟨h1, h2⟩ => h2 (List.length_eq_zero_iff.1 (by have := h0 h1; omega))), ← e]
    have : s.data.toList.all digitB = true := List.all_eq_true.2 fun x hx => by
      obtain ⟨i, hi, ex⟩ := List.mem_iff_getElem.1 hx
      rw [data_len] at hi
      have h2 := data_get s hi
      rw [List.getElem?_eq_getElem (by rw [data_len]; exact hi)] at h2
      rw [← ex, Option.some.inj h2]
      exact hall i hi
    rw [this]; rfl
  unfold readN
  rw [hg, if_neg (by decide)]
  cases s.data.toList.foldl (stepN most) (some 0) <;> rfl

set_option maxRecDepth 20000 in
set_option maxHeartbeats 8000000 in
theorem num_Read (s : ByteArray) (most : Int) (w : World) (hm : 0 ≤ most) (hm2 : most ≤ 1000000000000) (hs : s.size ≤ maxLen) :
    Calls Tryz.prog 61 #[.string s, .int .i64 most] w fun r w' => r = .returned (.tuple #[.int .i64 (readN s.data.toList most).1, .int .i64 (readN s.data.toList most).2]) ∧ w = w' := by
  unfold maxLen at hs
  have HE0 := hidden (@readN_empty s)
  have HE1 := hidden (@readN_lead s)
  have HE2 := hidden (readN_bad s)
  have HE3 := hidden (@readN_good s)
  have HF0 := hidden (fun k (h : k < s.size) => fold_next s most h)
  have HFb := hidden (fun n h1 h2 c (hc : digitB c = true) z (hz : stepN most (some n) c = some z) => fold_bounds most [c] (fun x hx => by simp at hx; subst hx; exact hc) n h1 h2 z hz)
  have HTl : Hid (s.data.toList.take s.size = s.data.toList) := hidden (by rw [← data_len, List.take_length])
  have HT0 : Hid ((s.data.toList.take 0).foldl (stepN most) (some 0) = some 0) := hidden rfl
  have hie := list_isEmpty s
  by_cases h0 : s.size = 0
  · have HE := hidden (HE0.out h0 most)
    rw [h0] at hie
    have hie2 : s.toList.isEmpty = true := hie
    clear hie
    generalize readN s.data.toList most = res at *
    go_enter Tryz.func61, Tryz.ntmps61
    go_wp2
    go_ret2
    exact ⟨by rw [HE.out]; rfl, rfl⟩
  · have h1 : 0 < s.size := by omega
    have hie2 : s.toList.isEmpty = false := by rw [hie, decide_eq_false h0]
    clear hie
    have d1 : (s[0]'h1).toNat < 256 := (s[0]'h1).toNat_lt
    by_cases hl : (s[0]'h1).toNat = 48 ∧ s.size ≠ 1
    · have HE := hidden (HE1.out (by omega) hl.1 most)
      have q1 : (((s[0]'h1).toNat : Int) == 48) = true := by rw [hl.1]; rfl
      have q2 : (s.toList == [48]) = false := by
        rw [beq_eq_false_iff_ne]
        intro e
        have := congrArg List.length e
        rw [ByteArray.toList_eq, data_len] at this
        exact hl.2 this
      generalize readN s.data.toList most = res at *
      clear hl
      go_enter Tryz.func61, Tryz.ntmps61
      go_wp2
      go_ret2
      exact ⟨by rw [HE.out]; rfl, rfl⟩
    · have hor : (((s[0]'h1).toNat : Int) == 48) = false ∨ ((((s[0]'h1).toNat : Int) == 48) = true ∧ (s.toList == [48]) = true) := by
        by_cases h48 : (s[0]'h1).toNat = 48
        · right
          refine ⟨by rw [h48]; rfl, ?_⟩
          have hs1 : s.size = 1 := by
            apply Classical.byContradiction
            exact fun h => hl ⟨h48, h⟩
          obtain ⟨r, e, hr⟩ := data_head s h1
          obtain rfl : r = [] := List.length_eq_zero_iff.1 (by omega)
          rw [ByteArray.toList_eq, e, beq_iff_eq]
          congr 1
          exact UInt8.toNat_inj.1 h48
        · left; rw [beq_eq_false_iff_ne]; omega
      have HG := hidden (fun hall => HE3.out h1 (fun h => by
        apply Classical.byContradiction
        exact fun h' => hl ⟨h, h'⟩) hall most)
      clear hl HE0 HE1 HE3
      have HE2' := hidden (fun k h hd => HE2.out k h hd most)
      clear HE2
      generalize readN s.data.toList most = res at *
      rcases hor with q1 | ⟨q1, q2⟩
      all_goals
        go_enter Tryz.func61, Tryz.ntmps61
        go_wp2
        go_loopg [6, 7, 24] s.size (fun gh nn oo ii wr => ∃ (k : Nat) (n : Int) (ov : Bool), gh = s.size - k ∧ k ≤ s.size ∧ nn = .int .i64 n ∧ oo = .bool ov ∧ ii = .int .i64 k ∧ 0 ≤ n ∧ n ≤ most ∧ Hid (∀ (i : Nat) (hi : i < s.size), i < k → digitB (s[i]'hi) = true) ∧ Hid (ov = false → (s.data.toList.take k).foldl (stepN most) (some 0) = some n) ∧ Hid (ov = true → (s.data.toList.take k).foldl (stepN most) (some 0) = none) ∧ w = wr)
        case atStart => exact ⟨0, 0, false, by omega, by omega, rfl, rfl, rfl, by omega, hm, hidden (fun i hi h => by omega), hidden (fun _ => HT0.out), hidden (fun h => by cases h), rfl⟩
        case round =>
          obtain ⟨k, n, ov, rfl, hk, rfl, rfl, rfl, hn0, hnm, HA, HF, HN, rfl⟩ := hrel
          by_cases hlt : k < s.size
          · have hc := (s[k]'hlt).toNat_lt
            have HK := hidden (HF0.out k hlt)
            have HB := hidden (HE2'.out k hlt)
            have HAn : Hid (digitB (s[k]'hlt) = true → ∀ (i : Nat) (hi : i < s.size), i < k + 1 → digitB (s[i]'hi) = true) := hidden (fun h i hi hik => by
              by_cases e : i = k
              · subst e; exact h
              · exact HA.out i hi (by omega))
            have HD : Hid (digitB (s[k]'hlt) = (decide (48 ≤ (s[k]'hlt).toNat) && decide ((s[k]'hlt).toNat ≤ 57))) := hidden rfl
            have hcell := data_get s hlt
            by_cases hlow : (s[k]'hlt).toNat < 48
            · have q3 : decide (((s[k]'hlt).toNat : Int) < 48) = true := decide_eq_true (by omega)
              have HE := hidden (HB.out (by rw [HD.out, decide_eq_false (by omega)]; rfl))
              go_wp2
              go_ret2
              exact ⟨by rw [HE.out]; rfl, rfl⟩
            · have q3 : decide (((s[k]'hlt).toNat : Int) < 48) = false := decide_eq_false (by omega)
              by_cases hhigh : 57 < (s[k]'hlt).toNat
              · have q4 : decide (57 < ((s[k]'hlt).toNat : Int)) = true := decide_eq_true (by omega)
                have HE := hidden (HB.out (by rw [HD.out, decide_eq_false (show ¬ (s[k]'hlt).toNat ≤ 57 by omega), Bool.and_false]))
                go_wp2
                go_ret2
                exact ⟨by rw [HE.out]; rfl, rfl⟩
              · have q4 : decide (57 < ((s[k]'hlt).toNat : Int)) = false := decide_eq_false (by omega)
                have hdg : digitB (s[k]'hlt) = true := by rw [HD.out, decide_eq_true (by omega), decide_eq_true (by omega)]; rfl
                have HA2 := hidden (HAn.out hdg)
                have HS := hidden (fun n => step_some most n (s[k]'hlt))
                have HFc := hidden (fun n h1 h2 z hz => HFb.out n h1 h2 (s[k]'hlt) hdg z hz)
                clear HAn HB HD HA
                cases ov with
                | true =>
                  have HN2 : Hid (true = true → (s.data.toList.take (k + 1)).foldl (stepN most) (some 0) = none) := hidden (fun _ => by rw [HK.out, HN.out rfl]; rfl)
                  have HF2 : Hid (true = false → (s.data.toList.take (k + 1)).foldl (stepN most) (some 0) = some n) := hidden (fun h => by cases h)
                  clear HN HF HK HFc HS
                  go_wp2
                  go_roundg (s.size - (k + 1))
                  case measure => omega
                  case rel => exact ⟨k + 1, n, true, rfl, by omega, rfl, rfl, by go_num, hn0, hnm, HA2, hidden (fun h => by cases h), hidden (fun _ => HN2.out trivial), rfl⟩
                | false =>
                  have hFn := HF.out rfl
                  by_cases hbig : most < ((s[k]'hlt).toNat : Int) - 48
                  · have q5 : decide (most < ((s[k]'hlt).toNat : Int) - 48) = true := decide_eq_true hbig
                    have HN2 : Hid (true = true → (s.data.toList.take (k + 1)).foldl (stepN most) (some 0) = none) := hidden (fun _ => by rw [HK.out, hFn, HS.out, if_pos (.inl hbig)])
                    have HF2 : Hid (true = false → (s.data.toList.take (k + 1)).foldl (stepN most) (some 0) = some n) := hidden (fun h => by cases h)
                    clear HN HF HK HFc HS hFn
                    go_wp2
                    go_roundg (s.size - (k + 1))
                    case measure => omega
                    case rel => exact ⟨k + 1, n, true, rfl, by omega, rfl, rfl, by go_num, hn0, hnm, HA2, hidden (fun h => by cases h), hidden (fun _ => HN2.out trivial), rfl⟩
                  · have q5 : decide (most < ((s[k]'hlt).toNat : Int) - 48) = false := decide_eq_false hbig
                    have ht : (most - (((s[k]'hlt).toNat : Int) - 48)).tdiv 10 = (most - (((s[k]'hlt).toNat : Int) - 48)) / 10 := Int.tdiv_eq_ediv_of_nonneg (by omega)
                    by_cases hov : (most - (((s[k]'hlt).toNat : Int) - 48)) / 10 < n
                    · have q6 : decide ((most - (((s[k]'hlt).toNat : Int) - 48)) / 10 < n) = true := decide_eq_true hov
                      have HN2 : Hid (true = true → (s.data.toList.take (k + 1)).foldl (stepN most) (some 0) = none) := hidden (fun _ => by rw [HK.out, hFn, HS.out, if_pos (.inr hov)])
                      have HF2 : Hid (true = false → (s.data.toList.take (k + 1)).foldl (stepN most) (some 0) = some n) := hidden (fun h => by cases h)
                      clear HN HF HK HFc HS hFn
                      go_wp2
                      go_roundg (s.size - (k + 1))
                      case measure => omega
                      case rel => exact ⟨k + 1, n, true, rfl, by omega, rfl, rfl, by go_num, hn0, hnm, HA2, hidden (fun h => by cases h), hidden (fun _ => HN2.out trivial), rfl⟩
                    · have q6 : decide ((most - (((s[k]'hlt).toNat : Int) - 48)) / 10 < n) = false := decide_eq_false hov
                      have hst : stepN most (some n) (s[k]'hlt) = some (n * 10 + (((s[k]'hlt).toNat : Int) - 48)) := by rw [HS.out, if_neg (by omega)]
                      have hbd := HFc.out n hn0 hnm _ hst
                      have HF2 : Hid (false = false → (s.data.toList.take (k + 1)).foldl (stepN most) (some 0) = some (n * 10 + (((s[k]'hlt).toNat : Int) - 48))) := hidden (fun _ => by rw [HK.out, hFn, hst])
                      have HN2 : Hid (false = true → (s.data.toList.take (k + 1)).foldl (stepN most) (some 0) = none) := hidden (fun h => by cases h)
                      clear HN HF HK HFc HS hFn hst
                      go_wp2
                      go_roundg (s.size - (k + 1))
                      case measure => omega
                      case rel => exact ⟨k + 1, _, false, rfl, by omega, rfl, rfl, by go_num, hbd.1, hbd.2, HA2, hidden (fun _ => HF2.out trivial), hidden (fun h => by cases h), rfl⟩
          · obtain rfl : k = s.size := by omega
            have HE := hidden (HG.out (fun i hi => HA.out i hi hi))
            rw [HTl.out] at HF HN
            cases ov with
            | true =>
              have hN := HN.out rfl
              have HE2 : Hid (res = (0, 2)) := hidden (by rw [HE.out, hN])
              clear HE HF HN hN
              go_wp2
              go_ret2
              exact ⟨by rw [HE2.out]; rfl, rfl⟩
            | false =>
              have hN := HF.out rfl
              have HE2 : Hid (res = (n, 0)) := hidden (by rw [HE.out, hN])
              clear HE HF HN hN
              go_wp2
              go_ret2
              exact ⟨by rw [HE2.out]; rfl, rfl⟩

theorem fold_stays (most : Int) (l : List UInt8) (k : Nat) (h : (l.take k).foldl (stepN most) (some 0) = none) : l.foldl (stepN most) (some 0) = none := by
  conv => lhs; rw [← List.take_append_drop k l]
  rw [List.foldl_append, h, fold_none]

set_option maxRecDepth 20000 in
set_option maxHeartbeats 8000000 in
theorem ref_Read01 (s : ByteArray) (most : Int) (w : World) (hm : 0 ≤ most) (hm2 : most ≤ 1000000000000) (hs : s.size ≤ maxLen) :
    Calls Tryz.prog 75 #[.string s, .int .i64 most] w fun r w' => r = .returned (.tuple #[.int .i64 (readN s.data.toList most).1, .int .i64 (readN s.data.toList most).2]) ∧ w = w' := by
  unfold maxLen at hs
  have HE0 := hidden (@readN_empty s)
  have HE1 := hidden (@readN_lead s)
  have HE2 := hidden (readN_bad s)
  have HE3 := hidden (@readN_good s)
  have HF0 := hidden (fun k (h : k < s.size) => fold_next s most h)
  have HFb := hidden (fun n h1 h2 c (hc : digitB c = true) z (hz : stepN most (some n) c = some z) => fold_bounds most [c] (fun x hx => by simp at hx; subst hx; exact hc) n h1 h2 z hz)
  have HTl : Hid (s.data.toList.take s.size = s.data.toList) := hidden (by rw [← data_len, List.take_length])
  have HT0 : Hid ((s.data.toList.take 0).foldl (stepN most) (some 0) = some 0) := hidden rfl
  have HSt := hidden (fold_stays most s.data.toList)
  by_cases h0 : s.size = 0
  · have HE := hidden (HE0.out h0 most)
    have q0 : ((s.size : Int) == 0) = true := by rw [h0]; rfl
    generalize readN s.data.toList most = res at *
    clear h0
    go_enter Tryz.func75, Tryz.ntmps75
    go_wp2
    go_ret2
    exact ⟨by rw [HE.out]; rfl, rfl⟩
  · have h1 : 0 < s.size := by omega
    have q0 : ((s.size : Int) == 0) = false := by rw [beq_eq_false_iff_ne]; omega
    have d1 : (s[0]'h1).toNat < 256 := (s[0]'h1).toNat_lt
    by_cases hl : (s[0]'h1).toNat = 48 ∧ s.size ≠ 1
    · have HE := hidden (HE1.out (by omega) hl.1 most)
      have q1 : (((s[0]'h1).toNat : Int) == 48) = true := by rw [hl.1]; rfl
      have q2 : decide (1 < (s.size : Int)) = true := decide_eq_true (by omega)
      generalize readN s.data.toList most = res at *
      clear hl
      go_enter Tryz.func75, Tryz.ntmps75
      go_wp2
      go_ret2
      exact ⟨by rw [HE.out]; rfl, rfl⟩
    · have hor : decide (1 < (s.size : Int)) = false ∨ (decide (1 < (s.size : Int)) = true ∧ (((s[0]'h1).toNat : Int) == 48) = false) := by
        by_cases hs1 : s.size = 1
        · left; exact decide_eq_false (by omega)
        · right
          refine ⟨decide_eq_true (by omega), ?_⟩
          rw [beq_eq_false_iff_ne]
          intro e
          exact hl ⟨by omega, hs1⟩
      have HG := hidden (fun hall => HE3.out h1 (fun h => by
        apply Classical.byContradiction
        exact fun h' => hl ⟨h, h'⟩) hall most)
      clear hl HE0 HE1 HE3
      have HE2' := hidden (fun k h hd => HE2.out k h hd most)
      clear HE2
      generalize readN s.data.toList most = res at *
      rcases hor with q1 | ⟨q1, q2⟩
      all_goals
        go_enter Tryz.func75, Tryz.ntmps75
        go_wp2
        go_loopg [6] s.size (fun gh ii wr => ∃ k : Nat, gh = s.size - k ∧ k ≤ s.size ∧ ii = .int .i64 k ∧ Hid (∀ (i : Nat) (hi : i < s.size), i < k → digitB (s[i]'hi) = true) ∧ w = wr)
        case atStart => exact ⟨0, by omega, by omega, rfl, hidden (fun i hi h => by omega), rfl⟩
        case round =>
          obtain ⟨k, rfl, hk, rfl, HA, rfl⟩ := hrel
          by_cases hlt : k < s.size
          · have hc := (s[k]'hlt).toNat_lt
            have HB := hidden (HE2'.out k hlt)
            have HAn : Hid (digitB (s[k]'hlt) = true → ∀ (i : Nat) (hi : i < s.size), i < k + 1 → digitB (s[i]'hi) = true) := hidden (fun h i hi hik => by
              by_cases e : i = k
              · subst e; exact h
              · exact HA.out i hi (by omega))
            have HD : Hid (digitB (s[k]'hlt) = (decide (48 ≤ (s[k]'hlt).toNat) && decide ((s[k]'hlt).toNat ≤ 57))) := hidden rfl
            have q9 : decide ((k : Int) < (s.size : Int)) = true := decide_eq_true (by omega)
            by_cases hlow : (s[k]'hlt).toNat < 48
            · have q3 : decide (((s[k]'hlt).toNat : Int) < 48) = true := decide_eq_true (by omega)
              have HE := hidden (HB.out (by rw [HD.out, decide_eq_false (by omega)]; rfl))
              go_wp2
              go_ret2
              exact ⟨by rw [HE.out]; rfl, rfl⟩
            · have q3 : decide (((s[k]'hlt).toNat : Int) < 48) = false := decide_eq_false (by omega)
              by_cases hhigh : 57 < (s[k]'hlt).toNat
              · have q4 : decide (57 < ((s[k]'hlt).toNat : Int)) = true := decide_eq_true (by omega)
                have HE := hidden (HB.out (by rw [HD.out, decide_eq_false (show ¬ (s[k]'hlt).toNat ≤ 57 by omega), Bool.and_false]))
                go_wp2
                go_ret2
                exact ⟨by rw [HE.out]; rfl, rfl⟩
              · have q4 : decide (57 < ((s[k]'hlt).toNat : Int)) = false := decide_eq_false (by omega)
                have HA2 := hidden (HAn.out (by rw [HD.out, decide_eq_true (by omega), decide_eq_true (by omega)]; rfl))
                clear HAn HB HD HA
                go_wp2
                go_roundg (s.size - (k + 1))
                case measure => omega
                case rel => exact ⟨k + 1, rfl, by omega, by go_num, HA2, rfl⟩
          · obtain rfl : k = s.size := by omega
            have HAll := hidden (fun i hi => HA.out i hi hi)
            have HE := hidden (HG.out HAll.out)
            clear HA HE2' HG
            go_wp2
            go_loopg [7, 8] s.size (fun gh nn ii wr => ∃ (k : Nat) (n : Int), gh = s.size - k ∧ k ≤ s.size ∧ nn = .int .i64 n ∧ ii = .int .i64 k ∧ 0 ≤ n ∧ n ≤ most ∧ Hid ((s.data.toList.take k).foldl (stepN most) (some 0) = some n) ∧ w = wr)
            case atStart => exact ⟨0, 0, by omega, by omega, rfl, rfl, by omega, hm, HT0, rfl⟩
            case round =>
              obtain ⟨k, n, rfl, hk, rfl, rfl, hn0, hnm, HF, rfl⟩ := hrel
              by_cases hlt : k < s.size
              · have hc := (s[k]'hlt).toNat_lt
                have HK := hidden (HF0.out k hlt)
                have hdg := HAll.out k hlt
                have HS := hidden (fun n => step_some most n (s[k]'hlt))
                have HFc := hidden (fun n h1 h2 z hz => HFb.out n h1 h2 (s[k]'hlt) hdg z hz)
                have hdg2 : 48 ≤ (s[k]'hlt).toNat ∧ (s[k]'hlt).toNat ≤ 57 := by
                  simp only [digitB, Bool.and_eq_true, decide_eq_true_eq] at hdg
                  exact hdg
                by_cases hbig : most < ((s[k]'hlt).toNat : Int) - 48
                · have q5 : decide (most < ((s[k]'hlt).toNat : Int) - 48) = true := decide_eq_true hbig
                  have HE2 : Hid (res = (0, 2)) := hidden (by rw [HE.out, HSt.out (k + 1) (by rw [HK.out, HF.out, HS.out, if_pos (.inl hbig)])])
                  clear HE HF HK HFc HS
                  go_wp2
                  go_ret2
                  exact ⟨by rw [HE2.out]; rfl, rfl⟩
                · have q5 : decide (most < ((s[k]'hlt).toNat : Int) - 48) = false := decide_eq_false hbig
                  have ht : (most - (((s[k]'hlt).toNat : Int) - 48)).tdiv 10 = (most - (((s[k]'hlt).toNat : Int) - 48)) / 10 := Int.tdiv_eq_ediv_of_nonneg (by omega)
                  by_cases hov : (most - (((s[k]'hlt).toNat : Int) - 48)) / 10 < n
                  · have q6 : decide ((most - (((s[k]'hlt).toNat : Int) - 48)) / 10 < n) = true := decide_eq_true hov
                    have HE2 : Hid (res = (0, 2)) := hidden (by rw [HE.out, HSt.out (k + 1) (by rw [HK.out, HF.out, HS.out, if_pos (.inr hov)])])
                    clear HE HF HK HFc HS
                    go_wp2
                    go_ret2
                    exact ⟨by rw [HE2.out]; rfl, rfl⟩
                  · have q6 : decide ((most - (((s[k]'hlt).toNat : Int) - 48)) / 10 < n) = false := decide_eq_false hov
                    have hst : stepN most (some n) (s[k]'hlt) = some (n * 10 + (((s[k]'hlt).toNat : Int) - 48)) := by rw [HS.out, if_neg (by omega)]
                    have hbd := HFc.out n hn0 hnm _ hst
                    have HF2 : Hid ((s.data.toList.take (k + 1)).foldl (stepN most) (some 0) = some (n * 10 + (((s[k]'hlt).toNat : Int) - 48))) := hidden (by rw [HK.out, HF.out, hst])
                    clear HF HK HFc HS hst
                    go_wp2
                    go_roundg (s.size - (k + 1))
                    case measure => omega
                    case rel => exact ⟨k + 1, _, rfl, by omega, by rw [Int.mul_comm 10 n], by go_num, hbd.1, hbd.2, HF2, rfl⟩
              · obtain rfl : k = s.size := by omega
                rw [HTl.out] at HF
                have HE2 : Hid (res = (n, 0)) := hidden (by rw [HE.out, HF.out])
                clear HE HF
                go_wp2
                go_ret2
                exact ⟨by rw [HE2.out]; rfl, rfl⟩
end Go.Proofs.YtfmdmeokbbpmlaaGreat
