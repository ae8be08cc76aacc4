/-
  Step, of both.
-/
import Derived.Test.YtihblifkbljgaaaTreeDeep2
namespace Go.Proofs.Ytihblifkbljgaaa
open Go.RowKit Go.Shelf

theorem texts_nodup (t : List Node) (k : Nat) : (texts t k).Nodup := List.Nodup.sublist List.filter_sublist List.nodup_range
theorem leavesOf_nodup (t : List Node) : (leavesOf t).Nodup := by
  unfold leavesOf leavesTo
  split
  · exact texts_nodup t _
  · exact List.nodup_nil
theorem leavesOf_lt (t : List Node) : ∀ x ∈ leavesOf t, x < t.length := by
  unfold leavesOf leavesTo
  split
  · intro x hx; unfold texts at hx; exact List.mem_range.1 (List.mem_filter.1 hx).1
  · intro x hx; cases hx

/-- Where i stands in L, from k on. -/
def idxFrom (i : Int) : Nat → List Nat → Int
  | _, [] => -1
  | k, x :: r => if (x : Int) = i then (k : Int) else idxFrom i (k + 1) r
def idxOf (L : List Nat) (i : Int) : Int := idxFrom i 0 L
/-- What stands by places behind i in L. -/
def stepL (L : List Nat) (i by_ : Int) : Int := if 0 ≤ idxOf L i ∧ 0 ≤ idxOf L i + by_ ∧ idxOf L i + by_ < L.length then (L.getD (idxOf L i + by_).toNat 0 : Nat) else -1

theorem idxFrom_none {i : Int} : ∀ (L : List Nat) (k : Nat), (∀ x ∈ L, (x : Int) ≠ i) → idxFrom i k L = -1 := by
  intro L
  induction L with
  | nil => intro k _; rfl
  | cons x r ih =>
    intro k h
    unfold idxFrom
    rw [if_neg (h x (by simp))]
    exact ih _ (fun y hy => h y (by simp [hy]))
theorem idxFrom_some {i : Int} : ∀ (L : List Nat) (k j : Nat), (∃ x : Nat, L[j]? = some x ∧ (x : Int) = i) → (∀ m, m < j → ∀ y, L[m]? = some y → (y : Int) ≠ i) → idxFrom i k L = ((k + j : Nat) : Int) := by
  intro L
  induction L with
  | nil => intro k j ⟨x, h, _⟩; simp at h
  | cons y r ih =>
    intro k j ⟨x, h, hx⟩ hn
    unfold idxFrom
    cases j with
    | zero => simp at h; subst h; rw [if_pos hx]; simp
    | succ j =>
      rw [if_neg (hn 0 (by omega) y (by simp))]
      rw [ih (k + 1) j ⟨x, by simpa using h, hx⟩ (fun m hm z hz => hn (m + 1) (by omega) z (by simpa using hz))]
      congr 1; omega
theorem idxOf_cases (L : List Nat) (i : Int) : (idxOf L i = -1 ∧ ∀ x ∈ L, (x : Int) ≠ i) ∨ ∃ (j x : Nat), L[j]? = some x ∧ (x : Int) = i ∧ idxOf L i = (j : Int) ∧ ∀ m, m < j → ∀ y, L[m]? = some y → (y : Int) ≠ i := by
  by_cases h : ∃ x ∈ L, (x : Int) = i
  · right
    have hex : ∃ j : Nat, ∃ x : Nat, L[j]? = some x ∧ (x : Int) = i := by
      obtain ⟨x, hx, hi⟩ := h
      obtain ⟨j, hj, e⟩ := List.mem_iff_getElem.1 hx
      exact ⟨j, x, by rw [List.getElem?_eq_getElem hj, e], hi⟩
    clear h
    obtain ⟨j, hj, hmin⟩ : ∃ j : Nat, (∃ x : Nat, L[j]? = some x ∧ (x : Int) = i) ∧ ∀ m, m < j → ¬ ∃ x, L[m]? = some x ∧ (x : Int) = i := by
      obtain ⟨j0, h0⟩ := hex
      induction j0 using Nat.strongRecOn with
      | _ j0 ih =>
        by_cases hm : ∃ m, m < j0 ∧ ∃ x, L[m]? = some x ∧ (x : Int) = i
        · obtain ⟨m, hlt, hx⟩ := hm
          exact ih m hlt hx
        · exact ⟨j0, h0, fun m hlt hx => hm ⟨m, hlt, hx⟩⟩
    obtain ⟨x, hx, hi⟩ := hj
    have hno : ∀ m, m < j → ∀ y, L[m]? = some y → (y : Int) ≠ i := fun m hm y hy e => hmin m hm ⟨y, hy, e⟩
    refine ⟨j, x, hx, hi, ?_, hno⟩
    have := idxFrom_some L 0 j ⟨x, hx, hi⟩ hno
    rw [Nat.zero_add] at this
    exact this
  · left
    have hn : ∀ x ∈ L, (x : Int) ≠ i := fun x hx e => h ⟨x, hx, e⟩
    exact ⟨idxFrom_none L 0 hn, hn⟩
/-- Two places at which the same stands are one. -/
theorem idx_unique {L : List Nat} (hd : L.Nodup) {i : Int} {k x : Nat} (hk : L[k]? = some x) (hx : (x : Int) = i) : idxOf L i = (k : Int) := by
  rcases idxOf_cases L i with ⟨_, h⟩ | ⟨j, y, hj, hy, he, hno⟩
  · exact absurd hx (h x (List.mem_of_getElem? hk))
  · rw [he]
    have e : x = y := by omega
    subst e
    have h1 := (List.getElem?_eq_some_iff.1 hk)
    have h2 := (List.getElem?_eq_some_iff.1 hj)
    obtain ⟨a1, b1⟩ := h1
    obtain ⟨a2, b2⟩ := h2
    have hp := List.pairwise_iff_getElem.1 hd
    rcases Nat.lt_trichotomy k j with h | h | h
    · exact absurd (by rw [b1, b2]) (hp k j a1 a2 h)
    · rw [h]
    · exact absurd (by rw [b1, b2]) (hp j k a2 a1 h)
theorem step_hit {L : List Nat} (hd : L.Nodup) {i by_ : Int} {k j x y : Nat} (hk : L[k]? = some x) (hx : (x : Int) = i) (hj : L[j]? = some y) (hby : (j : Int) - k = by_) : stepL L i by_ = (y : Int) := by
  have hi := idx_unique hd hk hx
  have hl := (List.getElem?_eq_some_iff.1 hj).1
  unfold stepL
  rw [hi, if_pos (by omega), show ((k : Int) + by_).toNat = j by omega, List.getD_eq_getElem?_getD, hj]
  rfl
theorem step_miss {L : List Nat} {i by_ : Int} (h : ∀ k j : Nat, k < L.length → j < L.length → ((L.getD k 0 : Nat) : Int) = i → (j : Int) - k ≠ by_) : stepL L i by_ = -1 := by
  unfold stepL
  rcases idxOf_cases L i with ⟨he, _⟩ | ⟨k, x, hk, hx, he, _⟩
  · rw [he, if_neg (by omega)]
  · rw [he, if_neg ?_]
    intro ⟨_, h2, h3⟩
    have hl := (List.getElem?_eq_some_iff.1 hk).1
    refine h k ((k : Int) + by_).toNat hl (by omega) ?_ (by omega)
    rw [List.getD_eq_getElem?_getD, hk]
    exact hx

theorem Rd.ints_at {w : World} {T : Nat → Prop} {A : Option Addr} {n c : Nat} {L : List Nat} (h : Rd w T 1 (.slice A n c) L.length (ints L)) {k x : Nat} (hx : L[k]? = some x) : ∃ b off, A = some ⟨b, off, none⟩ ∧ T b ∧ w.cell? ⟨b, off + k, none⟩ = some (.int .i64 x) := by
  obtain ⟨hl, A', c', hv, h1, h2, h3⟩ := h
  simp only [Value.slice.injEq] at hv
  obtain ⟨rfl, rfl, rfl⟩ := hv
  have hk := (List.getElem?_eq_some_iff.1 hx).1
  obtain ⟨b, off, e, hT, hc⟩ := h3 (by rw [ints_len]; omega)
  exact ⟨b, off, e, hT, hc k _ (by unfold ints; rw [List.getElem?_map, hx]; rfl)⟩
theorem Rd.val {w : World} {T : Nat → Prop} {size n : Nat} {v : Value} {cs : List Value} (h : Rd w T size v n cs) : ∃ A c, v = .slice A n c ∧ n ≤ c ∧ c ≤ maxLen := by
  obtain ⟨_, A, c, hv, h1, h2, _⟩ := h
  exact ⟨A, c, hv, h1, h2⟩

set_option maxRecDepth 20000 in
set_option maxHeartbeats 2000000 in
theorem index_law (v : Value) (L : List Nat) (i : Int) (w : World) (T : Nat → Prop) (hR : Rd w T 1 v L.length (ints L)) (hl : L.length ≤ 140737488355) (hL : ∀ x ∈ L, x < 140737488355) :
    Calls Try.prog 73 #[v, .int .i64 i] w fun r w' => r = .returned (.int .i64 (idxOf L i)) ∧ w = w' := by
  obtain ⟨A, c, rfl, hc1, hc2⟩ := hR.val
  unfold maxLen at hc2
  have HR := hidden hR
  have HL := hidden hL
  clear hR hL
  go_enter Try.func73, Try.ntmps73
  go_wp2
  go_loopw [8] (fun kk wr => ∃ k : Nat, k ≤ L.length ∧ kk = .int .i64 k ∧ w = wr ∧ Hid (∀ m, m < k → ∀ y, L[m]? = some y → (y : Int) ≠ i)) (fun kk _ => L.length - (intOf kk).toNat)
  case atStart => exact ⟨0, by omega, rfl, rfl, hidden (fun m hm => by omega)⟩
  case round =>
    obtain ⟨k, hk, rfl, rfl, HN⟩ := hrel
    by_cases hlt : k < L.length
    · have hx := List.getElem?_eq_getElem hlt
      have hxl := HL.out _ (List.getElem_mem hlt)
      generalize L[k] = x at *
      obtain ⟨b, off, rfl, _, x0⟩ := HR.out.ints_at hx
      by_cases hxi : (x : Int) = i
      · have HE : Hid (idxOf L i = (k : Int)) := hidden (by
          have := idxFrom_some L 0 k ⟨x, hx, hxi⟩ HN.out
          rw [Nat.zero_add] at this
          exact this)
        subst hxi
        clear hx
        go_wp2
        go_ret
        exact ⟨by rw [HE.out]; rfl, rfl⟩
      · have HN2 : Hid (∀ m, m < k + 1 → ∀ y, L[m]? = some y → (y : Int) ≠ i) := hidden (fun m hm y hy => by
          by_cases e : m = k
          · subst e; rw [hx] at hy; cases hy; exact hxi
          · exact HN.out m (by omega) y hy)
        have q1 : (i == (x : Int)) = false := by rw [beq_eq_false_iff_ne]; exact fun e => hxi e.symm
        clear hx hxi
        go_wp2
        go_roundw
        case rel => exact ⟨k + 1, by omega, by go_num, by trivial, HN2⟩
        case measure => simp [intOf]; omega
    · have HE : Hid (idxOf L i = -1) := hidden (idxFrom_none L 0 (fun x hx => by
        obtain ⟨j, hj, e⟩ := List.mem_iff_getElem.1 hx
        exact HN.out j (by omega) x (by rw [List.getElem?_eq_getElem hj, e])))
      obtain rfl : k = L.length := by omega
      go_wp2
      go_ret
      exact ⟨by rw [HE.out]; rfl, rfl⟩

set_option maxRecDepth 20000 in
set_option maxHeartbeats 4000000 in
theorem arena_step (v : Value) (t : List Node) (i by_ : Int) (w : World) (h4 : t.length ≤ 140737488355) (hN : Nds w (Old w) v t) (hby : -9223372036854775808 ≤ by_ ∧ by_ ≤ 9223372036854775807) :
    Calls Try.prog 48 #[v, .int .i64 i, .int .i64 by_] w fun r w' => r = .returned (.int .i64 (stepL (leavesOf t) i by_)) ∧ Below w.heap.size w w' := by
  have HA := hidden (arena_leaves v t w h4 hN)
  obtain ⟨A, c, rfl, hc1, hc2⟩ := hN.value
  unfold maxLen at hc2
  have hl : (leavesOf t).length ≤ t.length := leavesTo_len t t.length
  have HL := hidden (leavesOf_lt t)
  clear hN
  generalize leavesOf t = L at *
  have HC := hidden (idxOf_cases L i)
  have HS : Hid (∀ n, idxOf L i = n → stepL L i by_ = if 0 ≤ n ∧ 0 ≤ n + by_ ∧ n + by_ < L.length then ((L.getD (n + by_).toNat 0 : Nat) : Int) else -1) := hidden (fun n hn => by subst hn; rfl)
  generalize stepL L i by_ = s at *
  go_enter Try.func48, Try.ntmps48
  go_wp2_with fail
  refine (HA.out).mono ?_
  rintro r w2 ⟨⟨u, rfl, HM⟩, hb⟩
  have hR := HM.out.rd (T := fun _ => True) (fun _ _ _ _ => trivial)
  have HI := hidden (index_law u L i w2 _ hR (by omega) (fun x hx => by have := HL.out x hx; omega))
  obtain ⟨A2, c2, rfl, hd1, hd2⟩ := hR.val
  unfold maxLen at hd2
  have HR := hidden hR
  clear hR HA HM
  rcases HC.out with ⟨he, _⟩ | ⟨j, x, hj, hx, he, _⟩
  · have HE := hidden (HS.out _ he)
    rw [he] at HI
    clear HC HS he
    go_wp2_with fail
    refine (HI.out).mono ?_
    rintro r w3 ⟨rfl, rfl⟩
    go_wp2
    go_ret
    exact ⟨by rw [HE.out, if_neg (by omega)]; rfl, hb⟩
  · have hjl := (List.getElem?_eq_some_iff.1 hj).1
    have HE := hidden (HS.out _ he)
    rw [he] at HI
    clear HC HS he hj hx
    by_cases h2 : 0 ≤ (j : Int) + by_ ∧ (j : Int) + by_ < L.length
    · obtain ⟨m, hm⟩ := Int.eq_ofNat_of_zero_le h2.1
      have hml : m < L.length := by omega
      have hy := List.getElem?_eq_getElem hml
      have HE2 : Hid (s = (L[m] : Int)) := hidden (by
        rw [HE.out, if_pos (by omega), hm, Int.toNat_natCast, List.getD_eq_getElem?_getD, hy]; rfl)
      generalize L[m] = y at *
      obtain ⟨b, off, rfl, _, y0⟩ := HR.out.ints_at hy
      clear HE hy h2
      go_wp2_with fail
      refine (HI.out).mono ?_
      rintro r w3 ⟨rfl, rfl⟩
      by_cases hs : 0 ≤ by_
      · have q1 : decide (0 ≤ by_) = true := by simpa using hs
        go_wp2
        all_goals (go_ret; exact ⟨by rw [HE2.out]; rfl, hb⟩)
      · have q1 : decide (0 ≤ by_) = false := by simpa using hs
        go_wp2
        all_goals (go_ret; exact ⟨by rw [HE2.out]; rfl, hb⟩)
    · have HE2 : Hid (s = -1) := hidden (by rw [HE.out, if_neg (by omega)])
      clear HE
      go_wp2_with fail
      refine (HI.out).mono ?_
      rintro r w3 ⟨rfl, rfl⟩
      go_wp2
      all_goals (go_ret; exact ⟨by rw [HE2.out]; rfl, hb⟩)

set_option maxRecDepth 20000 in
set_option maxHeartbeats 4000000 in
theorem ref_step (v : Value) (t : List Node) (i by_ : Int) (w : World) (h4 : t.length ≤ 140737488355) (hN : Nds w (Old w) v t) :
    Calls Try.prog 51 #[v, .int .i64 i, .int .i64 by_] w fun r w' => r = .returned (.int .i64 (stepL (leavesOf t) i by_)) ∧ Below w.heap.size w w' := by
  have HA := hidden (ref_leaves v t w h4 hN)
  obtain ⟨A, c, rfl, hc1, hc2⟩ := hN.value
  unfold maxLen at hc2
  have hl : (leavesOf t).length ≤ t.length := leavesTo_len t t.length
  have HL := hidden (leavesOf_lt t)
  have HD := hidden (leavesOf_nodup t)
  clear hN
  generalize leavesOf t = L at *
  have HH : Hid (∀ k j x y : Nat, L[k]? = some x → (x : Int) = i → L[j]? = some y → (j : Int) - k = by_ → stepL L i by_ = (y : Int)) := hidden (fun k j x y a b c d => step_hit HD.out a b c d)
  have HM0 : Hid ((∀ k j : Nat, k < L.length → j < L.length → ((L.getD k 0 : Nat) : Int) = i → (j : Int) - k ≠ by_) → stepL L i by_ = -1) := hidden step_miss
  generalize stepL L i by_ = s at *
  go_enter Try.func51, Try.ntmps51
  go_wp2_with fail
  refine (HA.out).mono ?_
  rintro r w2 ⟨⟨u, rfl, HM⟩, hb⟩
  have hR := HM.out.rd (T := fun _ => True) (fun _ _ _ _ => trivial)
  obtain ⟨A2, c2, rfl, hd1, hd2⟩ := hR.val
  unfold maxLen at hd2
  have HR := hidden hR
  clear hR HA HM
  go_wp2
  go_loopw [8] (fun kk wr => ∃ k : Nat, k ≤ L.length ∧ kk = .int .i64 k ∧ w2 = wr ∧ Hid (∀ k' j : Nat, k' < k → j < L.length → ((L.getD k' 0 : Nat) : Int) = i → (j : Int) - k' ≠ by_)) (fun kk _ => L.length - (intOf kk).toNat)
  case atStart => exact ⟨0, by omega, rfl, rfl, hidden (fun k' j h => by omega)⟩
  case round =>
    obtain ⟨k, hk, rfl, rfl, HN⟩ := hrel
    by_cases hlt : k < L.length
    · have hx := List.getElem?_eq_getElem hlt
      have hxl := HL.out _ (List.getElem_mem hlt)
      generalize L[k] = x at *
      obtain ⟨b, off, rfl, _, x0⟩ := HR.out.ints_at hx
      have HX := hidden hx
      clear hx
      go_wp2
      go_loopw [9] (fun jj wr => ∃ j : Nat, j ≤ L.length ∧ jj = .int .i64 j ∧ w2 = wr ∧ Hid ((x : Int) = i → ∀ j' : Nat, j' < j → (j' : Int) - k ≠ by_)) (fun jj _ => L.length - (intOf jj).toNat)
      case atStart => exact ⟨0, by omega, rfl, rfl, hidden (fun _ j' h => by omega)⟩
      case round =>
        obtain ⟨j, hj, rfl, rfl, HJ⟩ := hrel
        by_cases hjl : j < L.length
        · have hy := List.getElem?_eq_getElem hjl
          generalize L[j] = y at *
          obtain ⟨b', off', e', _, y0⟩ := HR.out.ints_at hy
          simp only [Option.some.injEq, Addr.mk.injEq] at e'
          obtain ⟨rfl, rfl, _⟩ := e'
          have HY := hidden hy
          clear hy
          by_cases hxi : (x : Int) = i
          · by_cases hby : (j : Int) - k = by_
            · have HE : Hid (s = (y : Int)) := hidden (HH.out k j x y HX.out hxi HY.out hby)
              have q1 : ((x : Int) == i) = true := by simpa using hxi
              have q2 : ((j : Int) - k == by_) = true := by simpa using hby
              clear hxi hby
              go_wp2
              go_ret
              exact ⟨by rw [HE.out]; rfl, hb⟩
            · have HJ2 : Hid ((x : Int) = i → ∀ j' : Nat, j' < j + 1 → (j' : Int) - k ≠ by_) := hidden (fun hx j' hj' => by
                by_cases e : j' = j
                · subst e; exact hby
                · exact HJ.out hx j' (by omega))
              have q1 : ((x : Int) == i) = true := by simpa using hxi
              have q2 : ((j : Int) - k == by_) = false := by simpa using hby
              clear hxi hby
              go_wp2
              go_roundw
              case rel => exact ⟨j + 1, by omega, by go_num, by trivial, HJ2⟩
              case measure => simp [intOf]; omega
          · have HJ2 : Hid ((x : Int) = i → ∀ j' : Nat, j' < j + 1 → (j' : Int) - k ≠ by_) := hidden (fun hx => absurd hx hxi)
            have q1 : ((x : Int) == i) = false := by simpa using hxi
            clear hxi
            go_wp2
            go_roundw
            case rel => exact ⟨j + 1, by omega, by go_num, by trivial, HJ2⟩
            case measure => simp [intOf]; omega
        · obtain rfl : j = L.length := by omega
          have HN2 : Hid (∀ k' j : Nat, k' < k + 1 → j < L.length → ((L.getD k' 0 : Nat) : Int) = i → (j : Int) - k' ≠ by_) := hidden (fun k' j h1 h2 h3 => by
            by_cases e : k' = k
            · subst e
              rw [List.getD_eq_getElem?_getD, HX.out] at h3
              exact HJ.out h3 j h2
            · exact HN.out k' j (by omega) h2 h3)
          go_wp2
          go_roundw
          case rel => exact ⟨k + 1, by omega, by go_num, by trivial, HN2⟩
          case measure => simp [intOf]; omega
    · obtain rfl : k = L.length := by omega
      have HE : Hid (s = -1) := hidden (HM0.out HN.out)
      go_wp2
      go_ret
      exact ⟨by rw [HE.out]; rfl, hb⟩
end Go.Proofs.Ytihblifkbljgaaa
