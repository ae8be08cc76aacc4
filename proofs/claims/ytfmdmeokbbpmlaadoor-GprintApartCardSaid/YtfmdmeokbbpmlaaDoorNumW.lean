/-
  num.Show, and the document's Show: a number's digits.
-/
import Derived.Test.YtfmdmeokbbpmlaaDoorNumP
import Derived.Laws.IdiomStrings
namespace Go.Proofs.YtfmdmeokbbpmlaaDoor
open Go.RowKit Go.Shelf

def byteV (c : UInt8) : Value := .int .u8 (c.toNat : Int)
/-- The array of a number's digits, filled from behind. -/
def digArr (k : Nat) (tl : List UInt8) : Array Value := (List.replicate k (Value.int .u8 0) ++ tl.map byteV).toArray
theorem digArr_set (k : Nat) (c : UInt8) (tl : List UInt8) : (digArr (k + 1) tl).setIfInBounds k (byteV c) = digArr k (c :: tl) := by
  unfold digArr
  rw [List.setIfInBounds_toArray, List.replicate_succ', List.append_assoc]
  congr 1
  rw [List.set_append_right _ _ (by simp)]
  simp
theorem digArr_at {k : Nat} {tl : List UInt8} {j : Nat} (h : j < tl.length) : (digArr k tl)[k + j]? = some (.int .u8 ((tl[j]).toNat : Int)) := by
  unfold digArr
  rw [List.getElem?_toArray, List.getElem?_append_right (by simp), List.length_replicate, Nat.add_sub_cancel_left, List.getElem?_map, List.getElem?_eq_getElem h]
  rfl
theorem digArr_zero : digArr 20 [] = #[.int .u8 0, .int .u8 0, .int .u8 0, .int .u8 0, .int .u8 0, .int .u8 0, .int .u8 0, .int .u8 0, .int .u8 0, .int .u8 0, .int .u8 0, .int .u8 0, .int .u8 0, .int .u8 0, .int .u8 0, .int .u8 0, .int .u8 0, .int .u8 0, .int .u8 0, .int .u8 0] := rfl

set_option maxRecDepth 20000 in
set_option maxHeartbeats 8000000 in
theorem num_Show (n : Int) (w : World) (hn : n ≤ 9223372036854775807) :
    Calls Tryd.prog 57 #[.int .i64 n] w fun r w' => r = .returned (.string ⟨(showI n).toArray⟩) ∧ Below w.heap.size w w' := by
  by_cases h0 : n < 0
  · have d0 : decide (n < 0) = true := decide_eq_true h0
    have HE : Hid (showI n = []) := hidden (if_pos h0)
    clear h0 hn
    generalize showI n = res at *
    go_enter Tryd.func57, Tryd.ntmps57
    go_wp2
    go_ret
    exact ⟨by rw [HE.out]; rfl, Below.refl _ _⟩
  · obtain ⟨N, rfl⟩ : ∃ N : Nat, n = (N : Int) := ⟨n.toNat, by omega⟩
    have d0 : decide ((N : Int) < 0) = false := decide_eq_false h0
    rw [showI_nat]
    have hN : N < 10 ^ 20 := by omega
    have HA0 := hidden (Holds.new w 128 (digArr 20 []))
    have hb0 := (Below.refl w.heap.size w).alloc (Nat.le_refl _) (.cells (digArr 20 []) 128)
    obtain ⟨RS, hRS⟩ : ∃ RS, RS = digs N := ⟨_, rfl⟩
    rw [← hRS]
    have hD0 : Hid (RS = digs N ++ []) := hidden (by rw [hRS, List.append_nil])
    clear hRS
    rw [digArr_zero] at HA0 hb0
    clear h0
    have hcv : Hid (∀ (W : World) (k : Nat) (tl : List UInt8) (c : Nat), Holds W w.heap.size 128 (digArr k tl) → (convert 76 9 (.slice (some ⟨w.heap.size, k, none⟩) tl.length c)).run Tryd.prog W = .ok (.string ⟨tl.toArray⟩) W) := hidden (fun W k tl c h => run_convert_bytes_back W 76 9 5 ⟨w.heap.size, k, none⟩ c tl Tryd.underlying76 Tryd.underlying5 Tryd.underlying9 (fun j hj => by rw [addr_add, h.cell, digArr_at hj]))
    go_enter Tryd.func57, Tryd.ntmps57
    go_wp2
    go_loopg [0, 4] 20 (fun a mm aa wr => ∃ (m : Nat) (tl : List UInt8), mm = .int .i64 m ∧ aa = .int .i64 a ∧ a + tl.length = 20 ∧ m < 10 ^ a ∧ m ≤ 9223372036854775807 ∧ (tl = [] ∨ 0 < m) ∧ Hid (RS = digs m ++ tl) ∧ Hid (Holds wr w.heap.size 128 (digArr a tl)) ∧ Below w.heap.size w wr)
    case atStart => exact ⟨N, [], rfl, rfl, rfl, hN, by omega, .inl rfl, hD0, HA0, hb0⟩
    case round =>
      clear HA0 hb0 hD0
      obtain ⟨m, tl, rfl, rfl, hal, hma, hm6, htm, HD, HA, hb⟩ := hrel

      obtain ⟨k, rfl⟩ : ∃ k, gk = k + 1 := ⟨gk - 1, by
        rcases Nat.eq_zero_or_pos gk with h | h
        · subst h
          rcases htm with h2 | h2
          · subst h2; simp at hal
          · simp at hma; omega
        · omega⟩
      have hmr := Nat.mod_lt m (show 10 > 0 by omega)
      have hmd : m / 10 < 10 ^ k := by rw [Nat.div_lt_iff_lt_mul (by omega)]; rw [Nat.pow_succ] at hma; exact hma
      have hfr := HA.out.frozen k
      have hlt := HA.out.lt
      have hck : wr.cell? ⟨w.heap.size, k, none⟩ = some (.int .u8 0) := by
        rw [HA.out.cell]
        unfold digArr
        rw [List.getElem?_toArray, List.getElem?_append_left (by simp), List.getElem?_replicate, if_pos (by omega)]
      have HA2 : Hid (Holds (wr.setCell ⟨w.heap.size, k, none⟩ (byteV (digC (m % 10)))) w.heap.size 128 (digArr k (digC (m % 10) :: tl))) := hidden (by
        have := holds_set (i := k) (u := byteV (digC (m % 10))) HA.out
        rw [digArr_set] at this
        exact this)
      have hb2 := below_set (i := k) (s := none) (u := byteV (digC (m % 10))) (Nat.le_refl w.heap.size) hb
      have hbv : byteV (digC (m % 10)) = .int .u8 (48 + (m : Int) % 10) := by unfold byteV; rw [digC_nat hmr]; push_cast; rfl
      have hcv2 := hidden (fun c => hcv.out _ k (digC (m % 10) :: tl) c HA2.out)
      rw [hbv] at HA2 hb2 hcv2
      by_cases hz : m / 10 = 0
      · have q0 : ((m : Int) / 10 == 0) = true := by rw [beq_iff_eq]; omega
        have HE : Hid (RS = digC (m % 10) :: tl) := hidden (by
          rw [HD.out, digs_lt (by omega), Nat.mod_eq_of_lt (by omega)]
          rfl)
        have hcl : tl.length + 1 = 20 - k := by omega
        clear HD HA hbv htm hz
        have hsl : ∀ W, (Instr.sliceAt 128 (.pointer (some ⟨w.heap.size, 0, none⟩)) (some (.int .i64 (k : Int))) none none).run Tryd.prog W = .ok (.slice (some ⟨w.heap.size, k, none⟩) (20 - k) (20 - k)) W := fun W => by
          rw [run_sliceAt_array_l W 128 ⟨w.heap.size, 0, none⟩ (by kernel_rfl) .i64 (k : Int) (by omega) (by rw [show Tryd.prog.arrayLen 128 = 20 by kernel_rfl]; omega)]
          rw [show Tryd.prog.arrayLen 128 = 20 by kernel_rfl]
          unfold slicedAt
          rw [Int.toNat_natCast, show Tryd.prog.elem 128 = 5 by kernel_rfl, Tryd.sizeOf5]
          show Result.ok (Value.slice (some (if 20 = k then (⟨w.heap.size, 0, none⟩ : Addr) else (⟨w.heap.size, 0, none⟩ : Addr).add (k * 1))) (20 - k) (20 - k)) W = _
          rw [if_neg (by omega), Nat.mul_one, addr_add, Nat.zero_add]
        have hcv3 := hcv2.out (20 - k)
        rw [List.length_cons, hcl] at hcv3
        go_wp2
        go_ret
        exact ⟨by rw [HE.out]; rfl, hb2⟩
      · have q0 : ((m : Int) / 10 == 0) = false := by rw [beq_eq_false_iff_ne]; omega
        have HD2 : Hid (RS = digs (m / 10) ++ digC (m % 10) :: tl) := hidden (by
          rw [HD.out, digs_ge (by omega), List.append_assoc]
          rfl)
        clear HD htm hcv2
        go_wp2
        go_roundg k
        case measure => omega
        case rel => exact ⟨m / 10, digC (m % 10) :: tl, by go_num, by go_num, by simp; omega, hmd, by omega, .inr (by omega), HD2, HA2, hb2⟩

theorem bytes_cons (c : UInt8) (l : List UInt8) : (⟨#[c]⟩ : ByteArray) ++ ⟨l.toArray⟩ = ⟨(c :: l).toArray⟩ := by
  apply ByteArray.ext
  rw [ByteArray.data_append]
  simp
theorem bytes_app (a b : List UInt8) : (⟨a.toArray⟩ : ByteArray) ++ ⟨b.toArray⟩ = ⟨(a ++ b).toArray⟩ := by
  apply ByteArray.ext
  rw [ByteArray.data_append]
  simp
theorem bytes_size (l : List UInt8) : (⟨l.toArray⟩ : ByteArray).size = l.length := by
  show l.toArray.size = l.length
  simp
/-- A text of one byte, out of a slice of it that was made just now. -/
theorem conv_one (W : World) (d : Nat) (hd : d < 10) (c : Nat) : (convert 76 9 (.slice (some ⟨W.heap.size, 0, none⟩) 1 c)).run Tryd.prog (W.alloc (.cells #[.int .u8 (48 + (d : Int))] 5)) = .ok (.string ⟨[digC d].toArray⟩) (W.alloc (.cells #[.int .u8 (48 + (d : Int))] 5)) :=
  run_convert_bytes_back _ 76 9 5 ⟨W.heap.size, 0, none⟩ c [digC d] Tryd.underlying76 Tryd.underlying5 Tryd.underlying9 (fun j hj => by
    obtain rfl : j = 0 := by simp at hj; omega
    rw [addr_add, Nat.zero_add, (Holds.new W 5 #[.int .u8 (48 + (d : Int))]).cell]
    show some (Value.int .u8 (48 + (d : Int))) = some (.int .u8 ((digC d).toNat : Int))
    rw [digC_nat hd]
    push_cast
    rfl)

set_option maxRecDepth 20000 in
set_option maxHeartbeats 8000000 in
theorem ref_Show01 (n : Int) (w : World) (hn : n ≤ 9223372036854775807) :
    Calls Tryd.prog 51 #[.int .i64 n] w fun r w' => r = .returned (.string ⟨(showI n).toArray⟩) ∧ Below w.heap.size w w' := by
  by_cases h0 : n < 0
  · have d0 : decide (n < 0) = true := decide_eq_true h0
    have HE : Hid (showI n = []) := hidden (if_pos h0)
    clear h0 hn
    generalize showI n = res at *
    go_enter Tryd.func51, Tryd.ntmps51
    go_wp2
    go_ret
    exact ⟨by rw [HE.out]; rfl, Below.refl _ _⟩
  · obtain ⟨N, rfl⟩ : ∃ N : Nat, n = (N : Int) := ⟨n.toNat, by omega⟩
    have d0 : decide ((N : Int) < 0) = false := decide_eq_false h0
    rw [showI_nat]
    obtain ⟨RS, hRS⟩ : ∃ RS, RS = digs N := ⟨_, rfl⟩
    rw [← hRS]
    have hmr := Nat.mod_lt N (show 10 > 0 by omega)
    have hD0 : Hid ((N / 10 = 0 → RS = [digC (N % 10)]) ∧ (0 < N / 10 → RS = digs (N / 10) ++ [digC (N % 10)])) := hidden ⟨fun h => by rw [hRS, digs_lt (by omega), Nat.mod_eq_of_lt (by omega)], fun h => by rw [hRS, digs_ge (by omega)]⟩
    clear hRS h0
    have hcv := conv_one w (N % 10) hmr
    have hb0 := (Below.refl w.heap.size w).alloc (Nat.le_refl _) (.cells #[.int .u8 (48 + ((N % 10 : Nat) : Int))] 5)
    have hq : ((N % 10 : Nat) : Int) = (N : Int) % 10 := by omega
    rw [hq] at hcv hb0
    have hN20 : N / 10 < 10 ^ 19 := by omega
    clear hq
    go_enter Tryd.func51, Tryd.ntmps51
    go_wp2
    clear hcv
    go_loopg [0, 3] 20 (fun a mm ss wr => ∃ (m : Nat) (tl : List UInt8), mm = .int .i64 m ∧ ss = .string ⟨tl.toArray⟩ ∧ a + tl.length = 21 ∧ m < 10 ^ (a - 1) ∧ 1 ≤ a ∧ m ≤ 9223372036854775807 ∧ Hid ((m = 0 → RS = tl) ∧ (0 < m → RS = digs m ++ tl)) ∧ Below w.heap.size w wr)
    case atStart => exact ⟨N / 10, [digC (N % 10)], by go_num, rfl, rfl, hN20, by omega, by omega, hD0, hb0⟩
    case round =>
      clear hb0 hD0
      obtain ⟨m, tl, rfl, rfl, hal, hma, ha1, hm6, HD, hb⟩ := hrel
      obtain ⟨k, rfl⟩ : ∃ k, gk = k + 1 := ⟨gk - 1, by omega⟩
      rw [Nat.add_sub_cancel] at hma
      by_cases hz : m = 0
      · have q0 : decide (0 < (m : Int)) = false := decide_eq_false (by omega)
        have HE := hidden (HD.out.1 hz)
        clear HD
        go_wp2
        go_ret
        exact ⟨by rw [HE.out]; rfl, hb⟩
      · have q0 : decide (0 < (m : Int)) = true := decide_eq_true (by omega)
        have hk1 : 1 ≤ k := by
          rcases Nat.eq_zero_or_pos k with h | h
          · subst h; simp at hma; omega
          · exact h
        have hmr2 := Nat.mod_lt m (show 10 > 0 by omega)
        have hmd : m / 10 < 10 ^ (k - 1) := by
          obtain ⟨k', rfl⟩ : ∃ k', k = k' + 1 := ⟨k - 1, by omega⟩
          rw [Nat.add_sub_cancel, Nat.div_lt_iff_lt_mul (by omega)]; rw [Nat.pow_succ] at hma; exact hma
        have hcv := conv_one wr (m % 10) hmr2
        have hb2 := hb.alloc hb.size (.cells #[.int .u8 (48 + ((m % 10 : Nat) : Int))] 5)
        have hq : ((m % 10 : Nat) : Int) = (m : Int) % 10 := by omega
        rw [hq] at hcv hb2
        have HD2 : Hid ((m / 10 = 0 → RS = digC (m % 10) :: tl) ∧ (0 < m / 10 → RS = digs (m / 10) ++ digC (m % 10) :: tl)) := hidden ⟨fun h => by
          rw [HD.out.2 (by omega), digs_lt (by omega), Nat.mod_eq_of_lt (by omega)]; rfl, fun h => by
          rw [HD.out.2 (by omega), digs_ge (by omega), List.append_assoc]; rfl⟩
        have hs1 := bytes_size [digC (m % 10)]
        have hs2 := bytes_size tl
        have htl : tl.length ≤ 20 := by omega
        clear HD hq hmr2 hb
        go_wp2
        rw [bytes_cons]
        go_roundg k
        case measure => omega
        case rel => exact ⟨m / 10, digC (m % 10) :: tl, by go_num, rfl, by simp; omega, by first | exact hmd | simpa using hmd, by omega, by omega, HD2, hb2⟩

/-! ### Reading -/
theorem badN_cons (c : UInt8) (r : List UInt8) (h : ¬ (c.toNat = 48 ∧ r ≠ [])) : badN (c :: r) = !((c :: r).all digitB) := by
  show (decide (c.toNat = 48) && !r.isEmpty || !(c :: r).all digitB) = _
  have : (decide (c.toNat = 48) && !r.isEmpty) = false := by
    rw [Bool.eq_false_iff]
    intro e
    simp only [Bool.and_eq_true, decide_eq_true_eq, Bool.not_eq_true'] at e
    exact h ⟨e.1, by intro e2; rw [e2] at e; simp at e⟩
  rw [this, Bool.false_or]
theorem badN_lead (c : UInt8) (r : List UInt8) (h : c.toNat = 48) (hr : r ≠ []) : badN (c :: r) = true := by
  show (decide (c.toNat = 48) && !r.isEmpty || !(c :: r).all digitB) = true
  have : r.isEmpty = false := by cases r <;> simp_all
  rw [h, this]
  simp
theorem fold_none (most : Int) (l : List UInt8) : l.foldl (stepN most) none = none := by
  induction l with
  | nil => rfl
  | cons c l ih => rw [List.foldl_cons]; exact ih
theorem step_some (most n : Int) (c : UInt8) : stepN most (some n) c = if most < (c.toNat : Int) - 48 ∨ (most - ((c.toNat : Int) - 48)) / 10 < n then none else some (n * 10 + ((c.toNat : Int) - 48)) := rfl
theorem fold_bounds (most : Int) (l : List UInt8) (hl : ∀ c ∈ l, digitB c = true) : ∀ n, 0 ≤ n → n ≤ most → ∀ z, l.foldl (stepN most) (some n) = some z → 0 ≤ z ∧ z ≤ most := by
  induction l with
  | nil => intro n h1 h2 z hz; simp at hz; subst hz; exact ⟨h1, h2⟩
  | cons c l ih =>
    intro n h1 h2 z hz
    have hc := hl c List.mem_cons_self
    simp only [digitB, Bool.and_eq_true, decide_eq_true_eq] at hc
    rw [List.foldl_cons, step_some] at hz
    split at hz
    · rw [fold_none most l] at hz
      cases hz
    · rename_i hs
      exact ih (fun x hx => hl x (List.mem_cons_of_mem _ hx)) _ (by omega) (by omega) z hz

theorem data_get (s : ByteArray) {k : Nat} (h : k < s.size) : s.data.toList[k]? = some (s[k]'h) := by
  rw [Array.getElem?_toList, Array.getElem?_eq_getElem (show k < s.data.size from h)]
  rfl
theorem data_len (s : ByteArray) : s.data.toList.length = s.size := by
  rw [Array.length_toList]; rfl

theorem list_isEmpty (s : ByteArray) : s.toList.isEmpty = decide (s.size = 0) := by
  rw [ByteArray.toList_eq, ← data_len]
  cases s.data.toList <;> simp
theorem take_next (s : ByteArray) {k : Nat} (h : k < s.size) : s.data.toList.take (k + 1) = s.data.toList.take k ++ [s[k]'h] := by
  have h2 : k < s.data.toList.length := by rw [data_len]; exact h
  rw [List.take_succ_eq_append_getElem h2]
  rfl
theorem fold_next (s : ByteArray) (most : Int) {k : Nat} (h : k < s.size) : (s.data.toList.take (k + 1)).foldl (stepN most) (some 0) = stepN most ((s.data.toList.take k).foldl (stepN most) (some 0)) (s[k]'h) := by
  rw [take_next s h, List.foldl_append]; rfl
/-- The ways a text may be read as a number. -/
theorem readN_empty {s : ByteArray} (h : s.size = 0) (most : Int) : readN s.data.toList most = (0, 3) := by
  have : s.data.toList = [] := List.length_eq_zero_iff.1 (by rw [data_len]; exact h)
  rw [this]; rfl
theorem data_head (s : ByteArray) (h : 0 < s.size) : ∃ r, s.data.toList = (s[0]'h) :: r ∧ r.length + 1 = s.size := by
  have h1 := data_get s h
  have h2 := data_len s
  cases e : s.data.toList with
  | nil => rw [e] at h1; simp at h1
  | cons c r =>
    rw [e] at h1 h2
    simp at h1 h2
    exact ⟨r, by rw [h1], h2⟩
theorem readN_lead {s : ByteArray} (h : 1 < s.size) (h0 : (s[0]'(by omega)).toNat = 48) (most : Int) : readN s.data.toList most = (0, 3) := by
  obtain ⟨r, e, hl⟩ := data_head s (by omega)
  unfold readN
  rw [e, badN_lead _ _ h0 (by intro e2; subst e2; simp at hl; omega), if_pos rfl]
theorem readN_bad (s : ByteArray) (k : Nat) (h : k < s.size) (hd : digitB (s[k]'h) = false) (most : Int) : readN s.data.toList most = (0, 3) := by
  have hall : s.data.toList.all digitB = false := by
    rw [Bool.eq_false_iff]
    intro e
    have := List.all_eq_true.1 e _ (List.mem_of_getElem? (data_get s h))
    rw [hd] at this; cases this
  have hb : badN s.data.toList = true := by
    cases e : s.data.toList with
    | nil => rfl
    | cons c r =>
      rw [e] at hall
      show (decide (c.toNat = 48) && !r.isEmpty || !(c :: r).all digitB) = true
      rw [hall]; simp
  unfold readN
  rw [hb, if_pos rfl]
theorem readN_good {s : ByteArray} (h : 0 < s.size) (h0 : (s[0]'h).toNat = 48 → s.size = 1) (hall : ∀ (i : Nat) (hi : i < s.size), digitB (s[i]'hi) = true) (most : Int) : readN s.data.toList most = match s.data.toList.foldl (stepN most) (some 0) with | none => (0, 2) | some n => (n, 0) := by
  obtain ⟨r, e, hl⟩ := data_head s h
  have hg : badN s.data.toList = false := by
    rw [e, badN_cons _ _ (fun ⟨h1, h2⟩ => h2 (List.length_eq_zero_iff.1 (by have := h0 h1; omega))), ← e]
    have : s.data.toList.all digitB = true := List.all_eq_true.2 fun x hx => by
      obtain ⟨i, hi, ex⟩ := List.mem_iff_getElem.1 hx
      rw [data_len] at hi
      have h2 := data_get s hi
      rw [List.getElem?_eq_getElem (by rw [data_len]; exact hi)] at h2
      rw [← ex, Option.some.inj h2]
      exact hall i hi
    rw [this]; rfl
  unfold readN
  rw [hg, if_neg (by decide)]
  cases s.data.toList.foldl (stepN most) (some 0) <;> rfl

theorem fold_stays (most : Int) (l : List UInt8) (k : Nat) (h : (l.take k).foldl (stepN most) (some 0) = none) : l.foldl (stepN most) (some 0) = none := by
  conv => lhs; rw [← List.take_append_drop k l]
  rw [List.foldl_append, h, fold_none]

end Go.Proofs.YtfmdmeokbbpmlaaDoor
