/-
  Layer 6: where texts stand among others.
-/
import Derived.Test.YtaagkbgbghleiaaStrs2
namespace Go.Proofs.Ytaagkbgbghleiaa
open Go.RowKit Go.Shelf

/-- The first place from k on, of n places, at which p holds. -/
noncomputable def firstFrom (p : Nat → Prop) : Nat → Nat → Int
  | _, 0 => -1
  | k, n + 1 => if holdsB (p k) = true then (k : Int) else firstFrom p (k + 1) n
noncomputable def firstOf (p : Nat → Prop) (n : Nat) : Int := firstFrom p 0 n
theorem firstFrom_hit {p : Nat → Prop} : ∀ (n k j : Nat), j < n → p (k + j) → (∀ m, m < j → ¬ p (k + m)) → firstFrom p k n = ((k + j : Nat) : Int) := by
  intro n
  induction n with
  | zero => intro k j h; omega
  | succ n ih =>
    intro k j h hp hn
    unfold firstFrom
    cases j with
    | zero => rw [Nat.add_zero] at hp; rw [if_pos (holdsB_true hp)]; rfl
    | succ j =>
      rw [if_neg (by rw [holdsB_false (p := p k) (hn 0 (by omega))]; decide), ih (k + 1) j (by omega) (by rw [show k + 1 + j = k + (j + 1) by omega]; exact hp) (fun m hm => by
        have := hn (m + 1) (by omega)
        rwa [show k + 1 + m = k + (m + 1) by omega])]
      congr 1; omega
theorem firstFrom_miss {p : Nat → Prop} : ∀ (n k : Nat), (∀ m, m < n → ¬ p (k + m)) → firstFrom p k n = -1 := by
  intro n
  induction n with
  | zero => intro k _; rfl
  | succ n ih =>
    intro k hn
    unfold firstFrom
    rw [if_neg (by rw [holdsB_false (p := p k) (hn 0 (by omega))]; decide)]
    exact ih (k + 1) (fun m hm => by
      have := hn (m + 1) (by omega)
      rwa [show k + 1 + m = k + (m + 1) by omega])
theorem first_hit {p : Nat → Prop} {n j : Nat} (h : j < n) (hp : p j) (hn : ∀ m, m < j → ¬ p m) : firstOf p n = (j : Int) := by
  have := firstFrom_hit (p := p) n 0 j h (by rwa [Nat.zero_add]) (fun m hm => by rw [Nat.zero_add]; exact hn m hm)
  rwa [Nat.zero_add] at this
theorem first_miss {p : Nat → Prop} {n : Nat} (hn : ∀ m, m < n → ¬ p m) : firstOf p n = -1 := firstFrom_miss n 0 (fun m hm => by rw [Nat.zero_add]; exact hn m hm)
theorem first_cases (p : Nat → Prop) (n : Nat) : (firstOf p n = -1 ∧ ∀ m, m < n → ¬ p m) ∨ ∃ j, j < n ∧ firstOf p n = (j : Int) ∧ p j ∧ ∀ m, m < j → ¬ p m := by
  by_cases h : ∃ j, j < n ∧ p j
  · obtain ⟨j, hj, hp⟩ := h
    have key : ∀ b, ∀ j, j ≤ b → j < n → p j → ∃ i, i < n ∧ p i ∧ ∀ m, m < i → ¬ p m := by
      intro b
      induction b with
      | zero => intro j h1 h2 h3; exact ⟨j, h2, h3, fun m hm => by omega⟩
      | succ b ih =>
        intro j h1 h2 h3
        by_cases hl : ∃ m, m < j ∧ p m
        · obtain ⟨m, hm, hpm⟩ := hl
          exact ih m (by omega) (by omega) hpm
        · exact ⟨j, h2, h3, fun m hm hpm => hl ⟨m, hm, hpm⟩⟩
    obtain ⟨i, h1, h2, h3⟩ := key j j (Nat.le_refl _) hj hp
    exact .inr ⟨i, h1, first_hit h1 h2 h3, h2, h3⟩
  · exact .inl ⟨first_miss (fun m hm hp => h ⟨m, hm, hp⟩), fun m hm hp => h ⟨m, hm, hp⟩⟩

/-- Where a thing stands in a list. -/
noncomputable def findOf {α : Type} (l : List α) (s : α) : Int := firstOf (fun k => l[k]? = some s) l.length
theorem find_hit {α : Type} {l : List α} {s : α} {j : Nat} (h : l[j]? = some s) (hn : ∀ m, m < j → l[m]? ≠ some s) : findOf l s = (j : Int) := first_hit (List.getElem?_eq_some_iff.1 h).1 h hn
theorem find_miss {α : Type} {l : List α} {s : α} (hn : ∀ m, m < l.length → l[m]? ≠ some s) : findOf l s = -1 := first_miss hn
theorem find_mem {α : Type} (l : List α) (s : α) : 0 ≤ findOf l s ↔ s ∈ l := by
  rcases first_cases (fun k => l[k]? = some s) l.length with ⟨h1, h2⟩ | ⟨j, h1, h2, h3, _⟩
  · unfold findOf
    rw [h1]
    constructor
    · intro h; omega
    · intro h
      obtain ⟨i, hi, e⟩ := List.mem_iff_getElem.1 h
      exact absurd (by rw [List.getElem?_eq_getElem hi, e]) (h2 i hi)
  · unfold findOf
    rw [h2]
    exact ⟨fun _ => List.mem_of_getElem? h3, fun _ => by omega⟩
theorem find_bounds {α : Type} (l : List α) (s : α) : -1 ≤ findOf l s ∧ findOf l s < l.length := by
  rcases first_cases (fun k => l[k]? = some s) l.length with ⟨h1, h2⟩ | ⟨j, h1, h2, h3, _⟩
  · unfold findOf; rw [h1]; omega
  · unfold findOf; rw [h2]; omega

def strC (s : ByteArray) : List Value := [.string s]
/-- v reads as the texts. -/
abbrev Strs (w : World) (T : Nat → Prop) (v : Value) (l : List ByteArray) : Prop := Rd w T 1 v l.length (l.flatMap strC)
theorem strs_at {w : World} {T : Nat → Prop} {A : Option Addr} {c : Nat} {l : List ByteArray} (h : Strs w T (.slice A l.length c) l) {i : Nat} {x : ByteArray} (hx : l[i]? = some x) : ∃ b off, A = some ⟨b, off, none⟩ ∧ T b ∧ w.cell? ⟨b, off + i, none⟩ = some (.string x) := by
  obtain ⟨b, off, e, hT, hc⟩ := Rd.flat_at (f := strC) h (fun _ => rfl) (by decide) hx
  have := hc 0 _ rfl
  rw [Nat.mul_one, Nat.add_zero] at this
  exact ⟨b, off, e, hT, this⟩

set_option maxRecDepth 20000 in
set_option maxHeartbeats 2000000 in
theorem strs_index (v : Value) (l : List ByteArray) (s : ByteArray) (T : Nat → Prop) (w : World) (hR : Strs w T v l) :
    Calls Try.prog 66 #[v, .string s] w fun r w' => r = .returned (.int .i64 (findOf l s)) ∧ w = w' := by
  obtain ⟨A, c, rfl, hc1, hc2⟩ := hR.val
  unfold maxLen at hc2
  have HR := hidden hR
  have HH := hidden (fun (j : Nat) => @find_hit _ l s j)
  have HM := hidden (@find_miss _ l s)
  generalize findOf l s = r at *
  clear hR
  go_enter Try.func66, Try.ntmps66
  go_wp2
  go_loop [8] (fun ii => ∃ k : Nat, k ≤ l.length ∧ ii = .int .i64 k ∧ Hid (∀ m, m < k → l[m]? ≠ some s)) (fun ii => l.length - (intOf ii).toNat)
  case atStart => exact ⟨0, by omega, rfl, hidden (fun m h => by omega)⟩
  case round =>
    obtain ⟨k, hk, rfl, HN⟩ := hrel
    by_cases hlt : k < l.length
    · have hx := List.getElem?_eq_getElem hlt
      generalize l[k] = x at *
      obtain ⟨b, off, rfl, _, x0⟩ := strs_at HR.out hx
      have HX := hidden hx
      have hs := strs_eql s x
      clear hx
      by_cases e : s = x
      · rw [eqB_true e] at hs
        have HE := hidden (HH.out k (by rw [HX.out, e]) HN.out)
        clear e HX
        go_wp2
        go_ret
        exact ⟨by rw [HE.out]; rfl, rfl⟩
      · rw [eqB_false e] at hs
        have HN2 : Hid (∀ m, m < k + 1 → l[m]? ≠ some s) := hidden (fun m hm => by
          by_cases em : m = k
          · subst em; rw [HX.out]; intro h; exact e (Option.some.inj h).symm
          · exact HN.out m (by omega))
        clear e HX
        go_wp2
        go_round
        case rel => exact ⟨k + 1, by omega, by go_num, HN2⟩
        case measure => simp [intOf]; omega
    · obtain rfl : k = l.length := by omega
      have HE := hidden (HM.out HN.out)
      go_wp2
      go_ret
      exact ⟨by rw [HE.out]; rfl, rfl⟩

theorem word_find (v : Value) (l : List ByteArray) (s : ByteArray) (T : Nat → Prop) (w : World) (hR : Strs w T v l) :
    Calls Try.prog 28 #[v, .string s] w fun r w' => r = .returned (.int .i64 (findOf l s)) ∧ w = w' := by
  have H := hidden (strs_index v l s T w hR)
  obtain ⟨A, c, rfl, hc1, hc2⟩ := hR.val
  clear hR
  go_enter Try.func28, Try.ntmps28
  go_wp2_with fail
  refine H.out.mono ?_
  rintro r w' ⟨rfl, rfl⟩
  go_wp2
  go_ret
  exact ⟨rfl, rfl⟩

set_option maxRecDepth 20000 in
set_option maxHeartbeats 2000000 in
theorem ref_find (v : Value) (l : List ByteArray) (s : ByteArray) (T : Nat → Prop) (w : World) (hR : Strs w T v l) :
    Calls Try.prog 29 #[v, .string s] w fun r w' => r = .returned (.int .i64 (findOf l s)) ∧ w = w' := by
  obtain ⟨A, c, rfl, hc1, hc2⟩ := hR.val
  unfold maxLen at hc2
  have HR := hidden hR
  have HH := hidden (fun (j : Nat) => @find_hit _ l s j)
  have HM := hidden (@find_miss _ l s)
  generalize findOf l s = r at *
  clear hR
  go_enter Try.func29, Try.ntmps29
  go_wp2
  go_loop [5] (fun ii => ∃ k : Nat, k ≤ l.length ∧ ii = .int .i64 k ∧ Hid (∀ m, m < k → l[m]? ≠ some s)) (fun ii => l.length - (intOf ii).toNat)
  case atStart => exact ⟨0, by omega, rfl, hidden (fun m h => by omega)⟩
  case round =>
    obtain ⟨k, hk, rfl, HN⟩ := hrel
    by_cases hlt : k < l.length
    · have hx := List.getElem?_eq_getElem hlt
      generalize l[k] = x at *
      obtain ⟨b, off, rfl, _, x0⟩ := strs_at HR.out hx
      have HX := hidden hx
      have hs := strs_eql x s
      clear hx
      by_cases e : x = s
      · rw [eqB_true e] at hs
        have HE := hidden (HH.out k (by rw [HX.out, e]) HN.out)
        clear e HX
        go_wp2
        go_ret
        exact ⟨by rw [HE.out]; rfl, rfl⟩
      · rw [eqB_false e] at hs
        have HN2 : Hid (∀ m, m < k + 1 → l[m]? ≠ some s) := hidden (fun m hm => by
          by_cases em : m = k
          · subst em; rw [HX.out]; intro h; exact e (Option.some.inj h)
          · exact HN.out m (by omega))
        clear e HX
        go_wp2
        go_round
        case rel => exact ⟨k + 1, by omega, by go_num, HN2⟩
        case measure => simp [intOf]; omega
    · obtain rfl : k = l.length := by omega
      have HE := hidden (HM.out HN.out)
      go_wp2
      go_ret
      exact ⟨by rw [HE.out]; rfl, rfl⟩

theorem strs_contains (v : Value) (l : List ByteArray) (s : ByteArray) (T : Nat → Prop) (w : World) (hR : Strs w T v l) :
    Calls Try.prog 65 #[v, .string s] w fun r w' => r = .returned (.bool (holdsB (s ∈ l))) ∧ w = w' := by
  have H := hidden (strs_index v l s T w hR)
  obtain ⟨A, c, rfl, hc1, hc2⟩ := hR.val
  clear hR
  have HE : Hid (holdsB (s ∈ l) = decide (0 ≤ findOf l s)) := hidden (by rw [Bool.eq_iff_iff, holdsB_iff, decide_eq_true_iff, find_mem])
  have hb := find_bounds l s
  generalize findOf l s = f at *
  generalize holdsB (s ∈ l) = b at *
  go_enter Try.func65, Try.ntmps65
  go_wp2_with fail
  refine H.out.mono ?_
  rintro r w' ⟨rfl, rfl⟩
  go_wp2
  go_ret
  exact ⟨by rw [HE.out]; rfl, rfl⟩

/-- The first one that stands there ahead, too. -/
noncomputable def twiceOf {α : Type} (l : List α) : Int := firstOf (fun k => ∃ x, l[k]? = some x ∧ x ∈ l.take k) l.length
theorem strs_take {w : World} {T : Nat → Prop} {A : Option Addr} {c : Nat} {l : List ByteArray} (h : Strs w T (.slice A l.length c) l) {i : Nat} (hi : i ≤ l.length) : Rd w T 1 (.slice A i c) i ((l.take i).flatMap strC) := by
  obtain ⟨hl, A', c', hv, h1, h2, h3⟩ := h
  simp only [Value.slice.injEq] at hv
  obtain ⟨rfl, _, rfl⟩ := hv
  have hlen : ((l.take i).flatMap strC).length = i := by rw [flat_len strC 1 (fun _ => rfl)]; simp; omega
  refine ⟨by rw [hlen]; omega, A, c, rfl, by omega, h2, fun h0 => ?_⟩
  obtain ⟨b, off, e, hT, hc⟩ := h3 (by rw [flat_len strC 1 (fun _ => rfl)]; rw [hlen] at h0; omega)
  refine ⟨b, off, e, hT, fun j u hj => hc j u ?_⟩
  have hpre : (l.take i).flatMap strC <+: l.flatMap strC := by
    refine ⟨(l.drop i).flatMap strC, ?_⟩
    rw [← List.flatMap_append, List.take_append_drop]
  obtain ⟨r, hr⟩ := hpre
  rw [← hr, List.getElem?_append_left (List.getElem?_eq_some_iff.1 hj).1]
  exact hj

set_option maxRecDepth 20000 in
set_option maxHeartbeats 2000000 in
theorem word_twice (v : Value) (l : List ByteArray) (T : Nat → Prop) (w : World) (hR : Strs w T v l) :
    Calls Try.prog 26 #[v] w fun r w' => r = .returned (.int .i64 (twiceOf l)) ∧ w = w' := by
  obtain ⟨A, c, rfl, hc1, hc2⟩ := hR.val
  unfold maxLen at hc2
  have HR := hidden hR
  have HH : Hid (∀ j : Nat, j < l.length → (∃ x, l[j]? = some x ∧ x ∈ l.take j) → (∀ m, m < j → ¬ ∃ x, l[m]? = some x ∧ x ∈ l.take m) → twiceOf l = (j : Int)) := hidden (fun j h1 h2 h3 => first_hit h1 h2 h3)
  have HM : Hid ((∀ m, m < l.length → ¬ ∃ x, l[m]? = some x ∧ x ∈ l.take m) → twiceOf l = -1) := hidden (fun h => first_miss h)
  generalize twiceOf l = r at *
  clear hR
  go_enter Try.func26, Try.ntmps26
  go_wp2
  go_loop [7] (fun ii => ∃ k : Nat, k ≤ l.length ∧ ii = .int .i64 k ∧ Hid (∀ m, m < k → ¬ ∃ x, l[m]? = some x ∧ x ∈ l.take m)) (fun ii => l.length - (intOf ii).toNat)
  case atStart => exact ⟨0, by omega, rfl, hidden (fun m h => by omega)⟩
  case round =>
    obtain ⟨k, hk, rfl, HN⟩ := hrel
    by_cases hlt : k < l.length
    · have hx := List.getElem?_eq_getElem hlt
      generalize l[k] = x at *
      obtain ⟨b, off, rfl, _, x0⟩ := strs_at HR.out hx
      have HX := hidden hx
      have ht := strs_take HR.out hk
      have HC := hidden (strs_contains (.slice (some ⟨b, off, none⟩) k c) (l.take k) x T w (by unfold Strs; rwa [List.length_take, Nat.min_eq_left hk]))
      clear hx ht
      by_cases e : x ∈ l.take k
      · rw [holdsB_true e] at HC
        have HE := hidden (HH.out k hlt ⟨x, HX.out, e⟩ HN.out)
        clear e HX
        go_wp2_with fail
        refine HC.out.mono ?_
        rintro r w' ⟨rfl, rfl⟩
        go_wp2
        go_ret
        exact ⟨by rw [HE.out]; rfl, rfl⟩
      · rw [holdsB_false e] at HC
        have HN2 : Hid (∀ m, m < k + 1 → ¬ ∃ x, l[m]? = some x ∧ x ∈ l.take m) := hidden (fun m hm => by
          by_cases em : m = k
          · subst em; rw [HX.out]; rintro ⟨y, h1, h2⟩; cases h1; exact e h2
          · exact HN.out m (by omega))
        clear e HX
        go_wp2_with fail
        refine HC.out.mono ?_
        rintro r w' ⟨rfl, rfl⟩
        go_wp2
        go_round
        case rel => exact ⟨k + 1, by omega, by go_num, HN2⟩
        case measure => simp [intOf]; omega
    · obtain rfl : k = l.length := by omega
      have HE := hidden (HM.out HN.out)
      go_wp2
      go_ret
      exact ⟨by rw [HE.out]; rfl, rfl⟩

theorem find_lt {α : Type} {l : List α} {k : Nat} {x : α} (hx : l[k]? = some x) : (findOf l x < k ↔ x ∈ l.take k) ∧ findOf l x ≤ k ∧ -1 ≤ findOf l x := by
  have hk := (List.getElem?_eq_some_iff.1 hx).1
  rcases first_cases (fun k => l[k]? = some x) l.length with ⟨h1, h2⟩ | ⟨j, h1, h2, h3, h4⟩
  · exact absurd hx (h2 k hk)
  · have he : findOf l x = (j : Int) := h2
    have hjk : j ≤ k := by
      rcases Nat.lt_or_ge k j with h | h
      · exact absurd hx (h4 k h)
      · exact h
    rw [he]
    refine ⟨⟨fun h => ?_, fun h => ?_⟩, by omega, by omega⟩
    · exact List.mem_of_getElem? (i := j) (by rw [List.getElem?_take_of_lt (by omega)]; exact h3)
    · obtain ⟨i, hi, e⟩ := List.mem_iff_getElem.1 h
      have hi2 : i < k := by simp at hi; omega
      have : l[i]? = some x := by
        rw [← List.getElem?_take_of_lt hi2, List.getElem?_eq_getElem hi, e]
      rcases Nat.lt_or_ge i j with h' | h'
      · exact absurd this (h4 i h')
      · omega

set_option maxRecDepth 20000 in
set_option maxHeartbeats 2000000 in
theorem ref_twice (v : Value) (l : List ByteArray) (T : Nat → Prop) (w : World) (hR : Strs w T v l) :
    Calls Try.prog 27 #[v] w fun r w' => r = .returned (.int .i64 (twiceOf l)) ∧ w = w' := by
  obtain ⟨A, c, rfl, hc1, hc2⟩ := hR.val
  unfold maxLen at hc2
  have HR := hidden hR
  have HH : Hid (∀ j : Nat, j < l.length → (∃ x, l[j]? = some x ∧ x ∈ l.take j) → (∀ m, m < j → ¬ ∃ x, l[m]? = some x ∧ x ∈ l.take m) → twiceOf l = (j : Int)) := hidden (fun j h1 h2 h3 => first_hit h1 h2 h3)
  have HM : Hid ((∀ m, m < l.length → ¬ ∃ x, l[m]? = some x ∧ x ∈ l.take m) → twiceOf l = -1) := hidden (fun h => first_miss h)
  generalize twiceOf l = r at *
  clear hR
  go_enter Try.func27, Try.ntmps27
  go_wp2
  go_loop [3] (fun ii => ∃ k : Nat, k ≤ l.length ∧ ii = .int .i64 k ∧ Hid (∀ m, m < k → ¬ ∃ x, l[m]? = some x ∧ x ∈ l.take m)) (fun ii => l.length - (intOf ii).toNat)
  case atStart => exact ⟨0, by omega, rfl, hidden (fun m h => by omega)⟩
  case round =>
    obtain ⟨k, hk, rfl, HN⟩ := hrel
    by_cases hlt : k < l.length
    · have hx := List.getElem?_eq_getElem hlt
      generalize l[k] = x at *
      obtain ⟨b, off, rfl, _, x0⟩ := strs_at HR.out hx
      have HX := hidden hx
      have HC := hidden (ref_find (.slice (some ⟨b, off, none⟩) l.length c) l x T w HR.out)
      obtain ⟨f1, f2, f3⟩ := find_lt hx
      have HF := hidden f1
      clear hx f1
      generalize findOf l x = f at *
      by_cases e : f < k
      · have HE := hidden (HH.out k hlt ⟨x, HX.out, HF.out.1 e⟩ HN.out)
        clear HX
        go_wp2_with fail
        refine HC.out.mono ?_
        rintro r w' ⟨rfl, rfl⟩
        go_wp2
        go_ret
        exact ⟨by rw [HE.out]; rfl, rfl⟩
      · have HN2 : Hid (∀ m, m < k + 1 → ¬ ∃ x, l[m]? = some x ∧ x ∈ l.take m) := hidden (fun m hm => by
          by_cases em : m = k
          · subst em; rw [HX.out]; rintro ⟨y, h1, h2⟩; cases h1; exact e (HF.out.2 h2)
          · exact HN.out m (by omega))
        have q : decide (f < (k : Int)) = false := by simp; omega
        clear HX
        go_wp2_with fail
        refine HC.out.mono ?_
        rintro r w' ⟨rfl, rfl⟩
        go_wp2
        go_round
        case rel => exact ⟨k + 1, by omega, by go_num, HN2⟩
        case measure => simp [intOf]; omega
    · obtain rfl : k = l.length := by omega
      have HE := hidden (HM.out HN.out)
      go_wp2
      go_ret
      exact ⟨by rw [HE.out]; rfl, rfl⟩
end Go.Proofs.Ytaagkbgbghleiaa
