/-
  facsimileref11: Has, put, Of, Union: rising lists of whole numbers.
-/
import Derived.Test.YtaagkbgbghleiaaRowsOf
import Derived.Deep.CutBlock
import Derived.Deep.DeepCutAuto
import Derived.Deep.LoopGhost
namespace Go.Proofs.Ytaagkbgbghleiaa
open Go.RowKit Go.Shelf

theorem take_snoc_at' {α : Type} {l : List α} {k : Nat} {x : α} (h : l[k]? = some x) : l.take k ++ [x] = l.take (k + 1) := by
  rw [List.take_add_one, h]; rfl
noncomputable def putOf (l : List Int) (n : Int) : List Int := if holdsB (n ∈ l) = true then l else l.takeWhile (fun x => decide (x < n)) ++ n :: l.dropWhile (fun x => decide (x < n))
noncomputable def setOf (l : List Int) : List Int := l.foldl putOf []
noncomputable def unionOf (a b : List Int) : List Int := b.foldl putOf (setOf a)
theorem putOf_len (l : List Int) (n : Int) : (putOf l n).length ≤ l.length + 1 := by
  unfold putOf
  split
  · omega
  · have := List.takeWhile_append_dropWhile (p := fun x => decide (x < n)) (l := l)
    have h2 := congrArg List.length this
    rw [List.length_append] at h2
    rw [List.length_append, List.length_cons]
    omega
theorem fold_put_len (b : List Int) : ∀ a : List Int, (b.foldl putOf a).length ≤ a.length + b.length := by
  induction b with
  | nil => intro a; simp
  | cons x b ih => intro a; rw [List.foldl_cons, List.length_cons]; have := ih (putOf a x); have := putOf_len a x; omega

set_option maxRecDepth 20000 in
set_option maxHeartbeats 2000000 in
theorem ref11_has (v : Value) (l : List Int) (n : Int) (T : Nat → Prop) (w : World) (hR : Ints w T v l) :
    Calls Try.prog 102 #[v, .int .i64 n] w fun r w' => r = .returned (.bool (holdsB (n ∈ l))) ∧ w = w' := by
  obtain ⟨A, c, rfl, hc1, hc2⟩ := hR.val
  unfold maxLen at hc2
  have HR := hidden hR
  have HH : Hid (∀ (k : Nat), l[k]? = some n → holdsB (n ∈ l) = true) := hidden (fun k h => holdsB_true (List.mem_of_getElem? h))
  have HM : Hid ((∀ k, k < l.length → l[k]? ≠ some n) → holdsB (n ∈ l) = false) := hidden (fun h => holdsB_false (fun hm => by
    obtain ⟨i, hi, e⟩ := List.mem_iff_getElem.1 hm
    exact h i hi (by rw [List.getElem?_eq_getElem hi, e])))
  generalize holdsB (n ∈ l) = r at *
  clear hR
  go_enter Try.func102, Try.ntmps102
  go_wp2
  go_loop [5] (fun ii => ∃ k : Nat, k ≤ l.length ∧ ii = .int .i64 k ∧ Hid (∀ m, m < k → l[m]? ≠ some n)) (fun ii => l.length - (intOf ii).toNat)
  case atStart => exact ⟨0, by omega, rfl, hidden (fun m h => by omega)⟩
  case round =>
    obtain ⟨k, hk, rfl, HN⟩ := hrel
    by_cases hlt : k < l.length
    · have hx := List.getElem?_eq_getElem hlt
      generalize l[k] = x at *
      obtain ⟨b, off, rfl, _, x0⟩ := row_at HR.out hx
      have HX := hidden hx
      clear hx
      by_cases e : x = n
      · have HE := hidden (HH.out k (by rw [HX.out, e]))
        have q : (x == n) = true := by simp [e]
        clear e HX
        go_wp2
        go_ret
        exact ⟨by rw [HE.out]; rfl, rfl⟩
      · have HN2 : Hid (∀ m, m < k + 1 → l[m]? ≠ some n) := hidden (fun m hm => by
          by_cases em : m = k
          · subst em; rw [HX.out]; intro h; exact e (Option.some.inj h)
          · exact HN.out m (by omega))
        have q : (x == n) = false := by simp [e]
        clear e HX HN
        go_wp2
        go_round
        case rel => exact ⟨k + 1, by omega, by go_num, HN2⟩
        case measure => simp [intOf]; omega
    · obtain rfl : k = l.length := by omega
      have HE := hidden (HM.out HN.out)
      go_wp2
      go_ret
      exact ⟨by rw [HE.out]; rfl, rfl⟩

/-- How many stand ahead of n. -/
def aheadOf (l : List Int) (n : Int) : Nat := (l.takeWhile fun x => decide (x < n)).length
theorem ahead_le (l : List Int) (n : Int) : aheadOf l n ≤ l.length := by
  unfold aheadOf
  have := List.takeWhile_append_dropWhile (p := fun x => decide (x < n)) (l := l)
  have h2 := congrArg List.length this
  rw [List.length_append] at h2
  omega
theorem takeWhile_take {α : Type} (p : α → Bool) : ∀ l : List α, l.takeWhile p = l.take (l.takeWhile p).length ∧ l.dropWhile p = l.drop (l.takeWhile p).length := by
  intro l
  induction l with
  | nil => simp
  | cons x l ih =>
    rw [List.takeWhile_cons, List.dropWhile_cons]
    split
    · simp only [List.length_cons, List.take_succ_cons, List.drop_succ_cons]
      exact ⟨by rw [← ih.1], ih.2⟩
    · simp
theorem ahead_spec (l : List Int) (n : Int) : l.takeWhile (fun x => decide (x < n)) = l.take (aheadOf l n) ∧ l.dropWhile (fun x => decide (x < n)) = l.drop (aheadOf l n) := takeWhile_take _ l
theorem ahead_lt {l : List Int} {n : Int} : ∀ {k : Nat} {x : Int}, l[k]? = some x → k < aheadOf l n → x < n := by
  unfold aheadOf
  induction l with
  | nil => intro k x h; simp at h
  | cons y l ih =>
    intro k x h hk
    rw [List.takeWhile_cons] at hk
    split at hk
    · rename_i hy
      cases k with
      | zero => simp at h; subst h; simpa using hy
      | succ k => exact ih (by simpa using h) (by simpa using hk)
    · simp at hk
theorem ahead_at {l : List Int} {n x : Int} (h : l[aheadOf l n]? = some x) : ¬ x < n := by
  unfold aheadOf at h
  induction l with
  | nil => simp at h
  | cons y l ih =>
    rw [List.takeWhile_cons] at h
    split at h
    · exact ih (by simpa using h)
    · rename_i hy
      simp at h; subst h; simpa using hy

set_option maxRecDepth 20000 in
set_option maxHeartbeats 4000000 in
theorem ref11_put (v : Value) (l : List Int) (n : Int) (w : World) (hR : Ints w (Old w) v l) (hn : l.length ≤ 1000000) :
    Calls Try.prog 78 #[v, .int .i64 n] w fun r w' => (∃ u, r = .returned u ∧ Hid (Ints w' (Old w') u (putOf l n))) ∧ Below w.heap.size w w' := by
  have HH := hidden (ref11_has v l n _ w hR)
  have HRo := hidden (fun (w' : World) (hb : Below w.heap.size w w') => Rd.old hR hb)
  have HR0 := hidden hR
  obtain ⟨A, c, rfl, hc1, hc2⟩ := hR.val
  unfold maxLen at hc2
  have HP1 : Hid (holdsB (n ∈ l) = true → putOf l n = l) := hidden (fun h => by unfold putOf; rw [if_pos h])
  have HP2 : Hid (holdsB (n ∈ l) = false → putOf l n = l.take (aheadOf l n) ++ n :: l.drop (aheadOf l n)) := hidden (fun h => by
    unfold putOf; rw [if_neg (by rw [h]; decide), (ahead_spec l n).1, (ahead_spec l n).2])
  have hal := ahead_le l n
  have HA1 := hidden (fun (k : Nat) (x : Int) (h1 : l[k]? = some x) (h2 : k < aheadOf l n) => ahead_lt h1 h2)
  have HA2 := hidden (fun (x : Int) (h1 : l[aheadOf l n]? = some x) => ahead_at h1)
  generalize putOf l n = r at *
  generalize holdsB (n ∈ l) = hh at *
  generalize aheadOf l n = m at *
  clear hR
  have hb := Below.refl w.heap.size w
  cases hh
  · have HP := hidden (HP2.out rfl)
    clear HP1 HP2
    go_enter Try.func78, Try.ntmps78
    go_wp2_with fail
    refine HH.out.mono ?_
    rintro r w' ⟨rfl, rfl⟩
    go_upto_block 0 with fail
    go_cut [5] (fun vv wx => Hid (IntsM wx w.heap.size vv (l.take m)) ∧ Below w.heap.size w wx)
    case first =>
      go_wp2_with fail
      go_loopg [5, 6] m (fun gh vv ii wr => ∃ k : Nat, k ≤ m ∧ gh = m - k ∧ ii = .int .i64 k ∧ Hid (IntsM wr w.heap.size vv (l.take k)) ∧ Below w.heap.size w wr)
      case atStart => exact ⟨0, by omega, rfl, rfl, hidden (Mine.fresh_nil _ _ _ _ _), (by repeat (first | (with_reducible exact Below.refl _ _) | (with_reducible assumption) | (with_reducible refine Below.drew ?_) | (with_reducible refine below_drewN ?_ _) | ((with_reducible refine below_alloc ?_ ?_); (focus (first | omega | (simp; done) | (simp; omega)))) | ((with_reducible refine below_set ?_ ?_); (focus (first | omega | (simp; done) | (simp; omega))))))⟩
      case round =>
        obtain ⟨k, hk, rfl, rfl, HM, hb⟩ := hrel
        have hbz := hb.size
        by_cases hlt : k < m
        · have hkl : k < l.length := by omega
          have hx := List.getElem?_eq_getElem hkl
          generalize l[k] = x at *
          obtain ⟨b, off, rfl, _, x0⟩ := row_at (HRo.out _ hb) hx
          have hxn := HA1.out k x hx hlt
          have HX := hidden (take_snoc_at' hx)
          clear hx
          go_wp2_with (at_builtin; refine wpList_append_i rfl _ _ rfl w.heap.size _ _ HM x rfl rfl rfl (by first | rfl | simp) (by rw [List.length_take]; omega) hbz ?_; intro v' w' hA hb2 hK)
          go_roundg (m - (k + 1))
          case measure => omega
          case rel => exact ⟨k + 1, by omega, rfl, by go_num, by rw [HX.out] at hA; exact hA, hb.trans hb2⟩
        · obtain rfl : k = m := by omega
          by_cases he : k < l.length
          · have hx := List.getElem?_eq_getElem he
            generalize l[k] = x at *
            obtain ⟨b, off, rfl, _, x0⟩ := row_at (HRo.out _ hb) hx
            have hxn : ¬ x < n := by have := HA2.out x hx; omega
            clear hx
            go_wp2
            go_meet
            exact ⟨HM, hb⟩
          · go_wp2
            go_meet
            exact ⟨HM, hb⟩
    case rest =>
      obtain ⟨HM, hb2⟩ := hcut
      have hbz := hb2.size
      have hlk : (l.take m).length = m := by rw [List.length_take]; omega
      obtain ⟨L1, hL1⟩ : ∃ L, L = l.take m := ⟨_, rfl⟩
      rw [← hL1] at HM hlk
      have HP' : Hid (r = L1 ++ [n] ++ l.drop m) := hidden (by rw [HP.out, hL1]; simp)
      obtain ⟨Au, cu, rfl⟩ := Mine.value HM.out
      clear hL1 HP HA1 HA2 HR0
      subst hlk
      have HD0 : Hid (L1 ++ [n] ++ (l.drop L1.length).take (L1.length - L1.length) = L1 ++ [n]) := hidden (by simp)
      have HDs : Hid (∀ k x, L1.length ≤ k → l[k]? = some x → L1 ++ [n] ++ (l.drop L1.length).take (k - L1.length) ++ [x] = L1 ++ [n] ++ (l.drop L1.length).take (k + 1 - L1.length)) := hidden (fun k x hk hx => by
        rw [List.append_assoc (L1 ++ [n]), take_snoc_at' (by rw [List.getElem?_drop, show L1.length + (k - L1.length) = k by omega]; exact hx), show k - L1.length + 1 = k + 1 - L1.length by omega])
      have HDe : Hid (L1 ++ [n] ++ (l.drop L1.length).take (l.length - L1.length) = r) := hidden (by rw [HP'.out, List.take_of_length_le (by rw [List.length_drop]; omega)])
      have HDl : Hid (∀ k, k ≤ l.length → (L1 ++ [n] ++ (l.drop L1.length).take (k - L1.length)).length ≤ l.length + 1 + l.length) := hidden (fun k hk => by
        rw [List.length_append, List.length_append, List.length_take, List.length_drop]; simp; omega)
      go_wp2_with (at_builtin; refine wpList_append_i rfl _ _ rfl w.heap.size _ _ HM n rfl rfl rfl (by first | rfl | simp) (by omega) hbz ?_; intro v' w' hA hb3 hK)
      rw [← HD0.out] at hA
      have hbA := hb2.trans hb3
      clear HM hb2 hb3 hK
      go_loopw [5, 8] (fun vv ii wr => ∃ k : Nat, k ≤ l.length ∧ L1.length ≤ k ∧ ii = .int .i64 k ∧ Hid (IntsM wr w.heap.size vv (L1 ++ [n] ++ (l.drop L1.length).take (k - L1.length))) ∧ Below w.heap.size w wr) (fun _ ii _ => l.length - (intOf ii).toNat)
      case atStart => exact ⟨L1.length, hal, Nat.le_refl _, rfl, hA, hbA⟩
      case round =>
        clear hA hbA
        obtain ⟨k, hk, hk2, rfl, HM, hb⟩ := hrel
        have hbz := hb.size
        by_cases hlt : k < l.length
        · have hx := List.getElem?_eq_getElem hlt
          generalize l[k] = x at *
          obtain ⟨b, off, rfl, _, x0⟩ := row_at (HRo.out _ hb) hx
          have HX := hidden (HDs.out k x hk2 hx)
          have hln := HDl.out k hk
          generalize L1 ++ [n] ++ (l.drop L1.length).take (k - L1.length) = LL at *
          clear hx
          go_wp2_with (at_builtin; refine wpList_append_i rfl _ _ rfl w.heap.size _ _ HM x rfl rfl rfl (by first | rfl | simp) (by omega) hbz ?_; intro v' w' hA hb2 hK)
          go_roundw
          case rel => exact ⟨k + 1, by omega, by omega, by go_num, by rw [HX.out] at hA; exact hA, hb.trans hb2⟩
          case measure => simp [intOf]; omega
        · obtain rfl : k = l.length := by omega
          rw [HDe.out] at HM
          go_wp2
          go_ret
          exact ⟨⟨_, rfl, hidden (RowM.rd HM.out)⟩, hb⟩
  · have HP := hidden (HP1.out rfl)
    clear HP1 HP2
    go_enter Try.func78, Try.ntmps78
    go_wp2_with fail
    refine HH.out.mono ?_
    rintro r w' ⟨rfl, rfl⟩
    go_wp2
    go_ret
    exact ⟨⟨_, rfl, hidden (by rw [HP.out]; exact HR0.out)⟩, hb⟩

set_option maxRecDepth 20000 in
set_option maxHeartbeats 4000000 in
theorem ref11_Of (v : Value) (l : List Int) (w : World) (hR : Ints w (Old w) v l) (hn : l.length ≤ 100000) :
    Calls Try.prog 37 #[v] w fun r w' => (∃ u, r = .returned u ∧ Hid (Ints w' (Old w') u (setOf l))) ∧ Below w.heap.size w w' := by
  have HRo := hidden (fun (w' : World) (hb : Below w.heap.size w w') => Rd.old hR hb)
  obtain ⟨A, c, rfl, hc1, hc2⟩ := hR.val
  unfold maxLen at hc2
  have HL : Hid (∀ k, k ≤ l.length → ((l.take k).foldl putOf []).length ≤ 1000000) := hidden (fun k hk => by
    have := fold_put_len (l.take k) []
    rw [List.length_take] at this
    simp at this; omega)
  have HS : Hid (∀ k x, l[k]? = some x → putOf ((l.take k).foldl putOf []) x = (l.take (k + 1)).foldl putOf []) := hidden (fun k x hx => by
    rw [← take_snoc_at' hx, List.foldl_append]; rfl)
  have HE : Hid ((l.take l.length).foldl putOf [] = setOf l) := hidden (by rw [List.take_of_length_le (Nat.le_refl _)]; rfl)
  clear hR
  go_enter Try.func37, Try.ntmps37
  go_wp2
  go_loopw [3, 4] (fun vv ii wr => ∃ k : Nat, k ≤ l.length ∧ ii = .int .i64 k ∧ Hid (Ints wr (Old wr) vv ((l.take k).foldl putOf [])) ∧ Below w.heap.size w wr) (fun _ ii _ => l.length - (intOf ii).toNat)
  case atStart => exact ⟨0, by omega, rfl, hidden ⟨rfl, _, 0, rfl, Nat.le_refl _, by decide, fun h => by simp at h⟩, (by repeat (first | (with_reducible exact Below.refl _ _) | (with_reducible assumption) | (with_reducible refine Below.drew ?_) | (with_reducible refine below_drewN ?_ _) | ((with_reducible refine below_alloc ?_ ?_); (focus (first | omega | (simp; done) | (simp; omega)))) | ((with_reducible refine below_set ?_ ?_); (focus (first | omega | (simp; done) | (simp; omega))))))⟩
  case round =>
    obtain ⟨k, hk, rfl, HM, hb⟩ := hrel
    by_cases hlt : k < l.length
    · have hx := List.getElem?_eq_getElem hlt
      generalize l[k] = x at *
      obtain ⟨b, off, rfl, _, x0⟩ := row_at (HRo.out _ hb) hx
      have HX := hidden (HS.out k x hx)
      have HP := hidden (ref11_put _ _ x wr HM.out (HL.out k hk))
      obtain ⟨Au, cu, rfl, _, _⟩ := HM.out.val
      clear hx HM
      rw [HX.out] at HP
      generalize ((l.take k).foldl putOf []) = LL at *
      go_wp2_with fail
      refine HP.out.mono ?_
      rintro r w2 ⟨⟨u, rfl, HM2⟩, hb2⟩
      replace hb := hb.trans (hb2.mono hb.size)
      clear HP hb2
      go_wp2
      go_roundw
      case rel => exact ⟨k + 1, by omega, by go_num, HM2, hb⟩
      case measure => simp [intOf]; omega
    · obtain rfl : k = l.length := by omega
      rw [HE.out] at HM
      go_wp2
      go_ret
      exact ⟨⟨_, rfl, HM⟩, hb⟩
end Go.Proofs.Ytaagkbgbghleiaa
