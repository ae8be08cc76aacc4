/-
  What two paths both begin with, and which stands first.
-/
import Derived.Test.YtdbbjlphlbndkaaDoorPathP
import Derived.Test.YtdbbjlphlbndkaaDoorTrailU
import Derived.Test.YtdbbjlphlbndkaaDoorShelfD
import Derived.Deep.Quiet
import Derived.Deep.RegionHeld3
namespace Go.Proofs.YtdbbjlphlbndkaaDoor.T
open Go.RowKit Go.Shelf

theorem dropN {α : Type} {l : List α} {k : Nat} {x : α} (h : l[k]? = some x) : l.drop k = x :: l.drop (k + 1) := by
  obtain ⟨hk, e⟩ := List.getElem?_eq_some_iff.1 h
  rw [List.drop_eq_getElem_cons hk, e]
theorem cmp_cons (a b : Int) (l m : List Int) : cmpL (a :: l) (b :: m) = if a < b then -1 else if b < a then 1 else cmpL l m := by rw [cmpL]
theorem com_cons (a b : Int) (l m : List Int) : comL (a :: l) (b :: m) = if a = b then a :: comL l m else [] := by rw [comL]
theorem com_nil_left (m : List Int) : comL [] m = [] := by rw [comL]; intro _ _ _ _ h; cases h
theorem com_nil_right (l : List Int) : comL l [] = [] := by rw [comL]; intro _ _ _ _ _ h; cases h
theorem com_len (l m : List Int) : (comL l m).length ≤ l.length := (com_left l m).length_le
/-- The length of what both begin with, and what is told of it: the document's order. -/
theorem cmp_com (l m : List Int) : cmpL l m = if (comL l m).length = l.length ∧ (comL l m).length = m.length then 0 else if (comL l m).length = l.length ∨ ((comL l m).length < m.length ∧ l.getD (comL l m).length 0 < m.getD (comL l m).length 0) then -1 else 1 := by
  induction l generalizing m with
  | nil =>
    cases m with
    | nil => rfl
    | cons b m => rw [com_nil_left]; simp [cmpL]
  | cons a l ih =>
    cases m with
    | nil => rw [com_nil_right]; simp [cmpL]
    | cons b m =>
      rw [cmp_cons, com_cons]
      by_cases h : a = b
      · subst h
        rw [if_neg (by omega), if_neg (by omega), if_pos rfl, ih m]
        simp
      · rw [if_neg h]
        by_cases h1 : a < b
        · simp [h1]
        · have h2 : b < a := by omega
          simp [h1, h2]
theorem com_at {l m : List Int} {x y : Int} (h1 : l[(comL l m).length]? = some x) (h2 : m[(comL l m).length]? = some y) : x ≠ y := by
  induction l generalizing m with
  | nil => rw [com_nil_left] at h1; simp at h1
  | cons a l ih =>
    cases m with
    | nil => rw [com_nil_right] at h2; simp at h2
    | cons b m =>
      rw [com_cons] at h1 h2
      by_cases h : a = b
      · rw [if_pos h, List.length_cons, List.getElem?_cons_succ] at h1 h2
        exact ih h1 h2
      · rw [if_neg h] at h1 h2
        simp at h1 h2
        subst h1 h2
        exact h

set_option maxRecDepth 20000 in
set_option maxHeartbeats 8000000 in
theorem slices_compare (a b : Value) (l m : List Int) (w : World) (hA : Ints w (Old w) a l) (hB : Ints w (Old w) b m) :
    Calls Tryd.prog 38 #[a, b] w fun r w' => r = .returned (.int .i64 (cmpL l m)) ∧ Below w.heap.size w w' := by
  have HA := hidden hA
  have HB := hidden hB
  obtain ⟨A, c, rfl, hc1, hc2⟩ := hA.val
  obtain ⟨A2, c2, rfl, hd1, hd2⟩ := hB.val
  unfold maxLen at hc2 hd2
  obtain ⟨res, hres⟩ : ∃ res, res = cmpL l m := ⟨_, rfl⟩
  rw [← hres]
  have HR0 : Hid (res = cmpL (l.drop 0) (m.drop 0)) := hidden hres
  have HD1 := hidden (fun k x (h : l[k]? = some x) => dropN h)
  have HD2 := hidden (fun k x (h : m[k]? = some x) => dropN h)
  have HE1 : Hid (l.drop l.length = []) := hidden (List.drop_length ..)
  have HE2 : Hid (m.drop m.length = []) := hidden (List.drop_length ..)
  clear hA hB hres
  go_enter Tryd.func38, Tryd.ntmps38
  go_wp2
  go_loopg [11] l.length (fun gh kk wr => ∃ k : Nat, gh = l.length - k ∧ k ≤ l.length ∧ k ≤ m.length ∧ kk = .int .i64 k ∧ Hid (res = cmpL (l.drop k) (m.drop k)) ∧ wr = w)
  case atStart => exact ⟨0, by omega, by omega, by omega, by go_num, HR0, rfl⟩
  case round =>
    clear HR0
    obtain ⟨k, rfl, hk, hk2, rfl, HR, rfl⟩ := hrel
    by_cases hlt : k < l.length
    · have hx := List.getElem?_eq_getElem hlt
      have HDx := hidden (HD1.out k _ hx)
      generalize l[k] = x at *
      obtain ⟨b1, o1, rfl, _, x0⟩ := row_at HA.out hx
      by_cases hlt2 : k < m.length
      · have hy := List.getElem?_eq_getElem hlt2
        have HDy := hidden (HD2.out k _ hy)
        generalize m[k] = y at *
        obtain ⟨b2, o2, rfl, _, y0⟩ := row_at HB.out hy
        have HRx : Hid (res = if x < y then -1 else if y < x then 1 else cmpL (l.drop (k + 1)) (m.drop (k + 1))) := hidden (by rw [HR.out, HDx.out, HDy.out, cmp_cons])
        have q1 : decide ((m.length : Int) ≤ (k : Int)) = false := decide_eq_false (by omega)
        have HC := hidden (fun w' => (Lib0.cmp_Compare_int x y w').mono (fun e w'' h => (⟨h.1, h.2.symm⟩ : e = .returned (.int .i64 (Lib.compareInt x y)) ∧ w' = w'')))
        clear hx hy HDx HDy HR
        by_cases h1 : x < y
        · have hc : Lib.compareInt x y = -1 := by unfold Lib.compareInt; rw [if_pos h1]
          rw [hc] at HC
          have he : Hid (res = -1) := hidden (by rw [HRx.out, if_pos h1])
          clear HRx hc
          go_wp2_with fail
          refine (HC.out _).mono ?_
          rintro r w2 ⟨rfl, rfl⟩
          go_wp2
          go_ret
          exact ⟨by rw [he.out]; rfl, Below.refl _ _⟩
        · by_cases h2 : y < x
          · have hc : Lib.compareInt x y = 1 := by unfold Lib.compareInt; rw [if_neg h1, if_pos h2]
            rw [hc] at HC
            have he : Hid (res = 1) := hidden (by rw [HRx.out, if_neg h1, if_pos h2])
            clear HRx hc
            go_wp2_with fail
            refine (HC.out _).mono ?_
            rintro r w2 ⟨rfl, rfl⟩
            go_wp2
            go_ret
            exact ⟨by rw [he.out]; rfl, Below.refl _ _⟩
          · have hc : Lib.compareInt x y = 0 := by unfold Lib.compareInt; rw [if_neg h1, if_neg h2]
            rw [hc] at HC
            have he : Hid (res = cmpL (l.drop (k + 1)) (m.drop (k + 1))) := hidden (by rw [HRx.out, if_neg h1, if_neg h2])
            clear HRx hc
            go_wp2_with fail
            refine (HC.out _).mono ?_
            rintro r w2 ⟨rfl, rfl⟩
            go_wp2
            go_roundg (l.length - (k + 1))
            case measure => omega
            case rel => exact ⟨k + 1, rfl, by omega, by omega, by go_num, he, rfl⟩
      · obtain rfl : k = m.length := by omega
        have he : Hid (res = 1) := hidden (by rw [HR.out, HDx.out, HE2.out]; rfl)
        clear HR HDx hx
        go_wp2
        go_ret
        exact ⟨by rw [he.out]; rfl, Below.refl _ _⟩
    · obtain rfl : k = l.length := by omega
      by_cases h3 : l.length < m.length
      · have he : Hid (res = -1) := hidden (by
          rw [HR.out, HE1.out, dropN (List.getElem?_eq_getElem h3)]
          rfl)
        clear HR
        go_wp2
        go_ret
        exact ⟨by rw [he.out]; rfl, Below.refl _ _⟩
      · have he : Hid (res = 0) := hidden (by
          have h4 : l.length = m.length := by omega
          rw [HR.out, HE1.out, h4, HE2.out]
          rfl)
        have h5 : m.length ≤ l.length := by omega
        clear HR
        go_wp2
        go_ret
        exact ⟨by rw [he.out]; rfl, Below.refl _ _⟩

set_option maxRecDepth 20000 in
set_option maxHeartbeats 4000000 in
theorem trail_Order (a b : Value) (l m : List Int) (w : World) (hA : Ints w (Old w) a l) (hB : Ints w (Old w) b m) :
    Calls Tryd.prog 23 #[a, b] w fun r w' => r = .returned (.int .i64 (cmpL l m)) ∧ Below w.heap.size w w' := by
  have HC := hidden (slices_compare a b l m w hA hB)
  obtain ⟨A, c, rfl, hc1, hc2⟩ := hA.val
  obtain ⟨A2, c2, rfl, hd1, hd2⟩ := hB.val
  generalize cmpL l m = res at *
  clear hA hB
  go_enter Tryd.func23, Tryd.ntmps23
  go_wp2_with fail
  refine HC.out.mono ?_
  rintro r w2 ⟨rfl, hb⟩
  go_wp2
  go_ret
  exact ⟨rfl, hb⟩

theorem drewN_below {B : Nat} {a w : World} (h : Below B a w) (n : Nat) : Below B a (w.drewN n) := ⟨h.os, h.tape, h.output, h.size, h.block⟩

set_option maxRecDepth 20000 in
set_option maxHeartbeats 8000000 in
theorem trail_Common (a b : Value) (l m : List Int) (w : World) (hA : Ints w (Old w) a l) (hB : Ints w (Old w) b m) (hl : l.length ≤ 1000000) :
    Calls Tryd.prog 21 #[a, b] w fun r w' => (∃ u, r = .returned u ∧ Hid (IntsM w' w.heap.size u (comL l m))) ∧ Below w.heap.size w w' := by
  have HA := hidden (fun (w' : World) (hb : Below w.heap.size w w') => Rd.old hA hb)
  have HB := hidden (fun (w' : World) (hb : Below w.heap.size w w') => Rd.old hB hb)
  obtain ⟨A, c, rfl, hc1, hc2⟩ := hA.val
  obtain ⟨A2, c2, rfl, hd1, hd2⟩ := hB.val
  unfold maxLen at hc2 hd2
  obtain ⟨res, hres⟩ : ∃ res, res = comL l m := ⟨_, rfl⟩
  rw [← hres]
  have HR0 : Hid (res = l.take 0 ++ comL (l.drop 0) (m.drop 0)) := hidden hres
  have HD1 := hidden (fun k x (h : l[k]? = some x) => dropN h)
  have HD2 := hidden (fun k x (h : m[k]? = some x) => dropN h)
  have HE1 : Hid (l.drop l.length = []) := hidden (List.drop_length ..)
  have HE2 : Hid (m.drop m.length = []) := hidden (List.drop_length ..)
  have HTk := hidden (fun k x (h : l[k]? = some x) => (take_snoc_at' h : l.take k ++ [x] = l.take (k + 1)))
  have HM0 : Hid (IntsM w w.heap.size (.slice none 0 0) (l.take 0)) := hidden (RowM.nil intV 3 w w.heap.size)
  have hb0 := Below.refl w.heap.size w
  clear hA hB hres
  go_enter Tryd.func21, Tryd.ntmps21
  go_wp2
  go_loopg [5, 10] l.length (fun gh pp kk wr => ∃ k : Nat, gh = l.length - k ∧ k ≤ l.length ∧ k ≤ m.length ∧ kk = .int .i64 k ∧ Hid (IntsM wr w.heap.size pp (l.take k)) ∧ Hid (res = l.take k ++ comL (l.drop k) (m.drop k)) ∧ Below w.heap.size w wr)
  case atStart => exact ⟨0, by omega, by omega, by omega, by go_num, HM0, HR0, hb0⟩
  case round =>
    clear HR0 HM0 hb0
    obtain ⟨k, rfl, hk, hk2, rfl, HM, HR, hb⟩ := hrel
    have hbz := hb.size
    by_cases hlt : k < l.length
    · have hx := List.getElem?_eq_getElem hlt
      have HDx := hidden (HD1.out k _ hx)
      have HT := hidden (HTk.out k _ hx)
      generalize l[k] = x at *
      obtain ⟨b1, o1, rfl, _, x0⟩ := row_at (HA.out _ hb) hx
      by_cases hlt2 : k < m.length
      · have hy := List.getElem?_eq_getElem hlt2
        have HDy := hidden (HD2.out k _ hy)
        generalize m[k] = y at *
        obtain ⟨b2, o2, rfl, _, y0⟩ := row_at (HB.out _ hb) hy
        have q1 : decide ((m.length : Int) ≤ (k : Int)) = false := decide_eq_false (by omega)
        clear hx hy
        by_cases h1 : x = y
        · have q2 : (y != x) = false := by rw [h1]; simp
          have HR2 : Hid (res = l.take (k + 1) ++ comL (l.drop (k + 1)) (m.drop (k + 1))) := hidden (by rw [HR.out, HDx.out, HDy.out, com_cons, if_pos h1, ← HT.out, List.append_assoc]; rfl)
          clear HR HDx HDy h1
          go_wp2_with (at_builtin; refine wpList_append_i rfl _ _ rfl w.heap.size _ _ HM x rfl rfl rfl rfl (by rw [List.length_take]; omega) hbz ?_; intro v' w' hA hb2 hK)
          rw [HT.out] at hA
          go_roundg (l.length - (k + 1))
          case measure => omega
          case rel => exact ⟨k + 1, rfl, by omega, by omega, by go_num, hA, HR2, hb.trans hb2⟩
        · have q2 : (y != x) = true := by rw [bne_iff_ne]; exact fun e => h1 e.symm
          have he : Hid (res = l.take k) := hidden (by rw [HR.out, HDx.out, HDy.out, com_cons, if_neg h1, List.append_nil])
          rw [← he.out] at HM
          clear HR HDx HDy he h1
          go_wp2
          go_ret
          exact ⟨⟨_, rfl, HM⟩, hb⟩
      · obtain rfl : k = m.length := by omega
        have he : Hid (res = l.take m.length) := hidden (by rw [HR.out, HE2.out, com_nil_right, List.append_nil])
        rw [← he.out] at HM
        clear HR HDx hx he
        go_wp2
        go_ret
        exact ⟨⟨_, rfl, HM⟩, hb⟩
    · obtain rfl : k = l.length := by omega
      have he : Hid (res = l.take l.length) := hidden (by rw [HR.out, HE1.out, com_nil_left, List.append_nil])
      rw [← he.out] at HM
      clear HR he
      go_wp2
      go_ret
      exact ⟨⟨_, rfl, HM⟩, hb⟩

theorem com_is_take (l m : List Int) : comL l m = l.take (comL l m).length := by
  have h := com_left l m
  rw [List.prefix_iff_eq_take] at h
  exact h
theorem prefix_get {c l : List Int} {k : Nat} {x : Int} (h : c <+: l) (hk : c[k]? = some x) : l[k]? = some x := by
  obtain ⟨r, rfl⟩ := h
  rw [List.getElem?_append_left (List.getElem?_eq_some_iff.1 hk).1]
  exact hk
theorem ints_take {w : World} {T : Nat → Prop} {A : Option Addr} {c k : Nat} {l : List Int} (h : Ints w T (.slice A l.length c) l) (hk : k ≤ l.length) : Ints w T (.slice A k c) (l.take k) := by
  have ht := rd_take h hk
  rw [Nat.mul_one] at ht
  have key : ∀ (L : List Int) (k : Nat), (L.take k).flatMap (one1 intV) = (L.flatMap (one1 intV)).take k := by
    intro L
    induction L with
    | nil => intro k; simp
    | cons x L ih =>
      intro k
      cases k with
      | zero => simp
      | succ k => rw [List.take_succ_cons, List.flatMap_cons, List.flatMap_cons, ih k]; rfl
  unfold Ints Row
  rw [List.length_take, Nat.min_eq_left hk, key l k]
  exact ht
theorem com_next {l m : List Int} {k : Nat} (hk : k ≤ (comL l m).length) : (k < (comL l m).length ↔ ∃ x, l[k]? = some x ∧ m[k]? = some x) := by
  constructor
  · intro h
    have hx := List.getElem?_eq_getElem h
    exact ⟨_, prefix_get (com_left l m) hx, prefix_get (com_right l m) hx⟩
  · rintro ⟨x, h1, h2⟩
    apply Classical.byContradiction
    intro h
    obtain rfl : k = (comL l m).length := by omega
    exact com_at h1 h2 rfl

set_option maxRecDepth 20000 in
set_option maxHeartbeats 8000000 in
theorem ref_Common (a b : Value) (l m : List Int) (w : World) (hA : Ints w (Old w) a l) (hB : Ints w (Old w) b m) :
    Calls Tryd.prog 22 #[a, b] w fun r w' => (∃ u, r = .returned u ∧ Hid (Ints w' (Old w') u (comL l m))) ∧ Below w.heap.size w w' := by
  have HA := hidden (fun (w' : World) (hb : Below w.heap.size w w') => Rd.old hA hb)
  have HB := hidden (fun (w' : World) (hb : Below w.heap.size w w') => Rd.old hB hb)
  obtain ⟨A, c, rfl, hc1, hc2⟩ := hA.val
  obtain ⟨A2, c2, rfl, hd1, hd2⟩ := hB.val
  unfold maxLen at hc2 hd2
  have HNx := hidden (fun k (hk : k ≤ (comL l m).length) => com_next hk)
  have hcl := com_len l m
  have HTk := hidden (com_is_take l m)
  have hb0 := Below.refl w.heap.size w
  generalize comL l m = C at *
  clear hA hB
  go_enter Tryd.func22, Tryd.ntmps22
  go_wp2
  go_loopg [5] (l.length + 1) (fun gh kk wr => ∃ k : Nat, gh = l.length + 1 - k ∧ k ≤ C.length ∧ kk = .int .i64 k ∧ Below w.heap.size w wr)
  case atStart => exact ⟨0, by omega, by omega, by go_num, hb0⟩
  case round =>
    clear hb0
    obtain ⟨k, rfl, hk, rfl, hb⟩ := hrel
    have hbz := hb.size
    have HN := hidden (HNx.out k hk)
    by_cases hlt : k < l.length
    · have hx := List.getElem?_eq_getElem hlt
      by_cases hlt2 : k < m.length
      · have hy := List.getElem?_eq_getElem hlt2
        generalize l[k] = x at *
        generalize m[k] = y at *
        obtain ⟨b1, o1, rfl, _, x0⟩ := row_at (HA.out _ hb) hx
        obtain ⟨b2, o2, rfl, _, y0⟩ := row_at (HB.out _ hb) hy
        have q1 : decide ((k : Int) < (l.length : Int)) = true := decide_eq_true (by omega)
        have q2 : decide ((k : Int) < (m.length : Int)) = true := decide_eq_true (by omega)
        by_cases h1 : x = y
        · have hkc : k < C.length := HN.out.2 ⟨x, hx, by rw [hy, h1]⟩
          have q3 : (x == y) = true := beq_iff_eq.2 h1
          clear hx hy h1
          go_wp2_with fail
          go_quiet (fail)
          go_wp2
          go_roundg (l.length + 1 - (k + 1))
          case measure => omega
          case rel => exact ⟨k + 1, rfl, by omega, by go_num, drewN_below hb _⟩
        · have hkc : ¬ k < C.length := fun h => by
            obtain ⟨z, h2, h3⟩ := HN.out.1 h
            rw [hx] at h2
            rw [hy] at h3
            exact h1 ((Option.some.inj h2).trans (Option.some.inj h3).symm)
          have q3 : (x == y) = false := beq_eq_false_iff_ne.2 h1
          obtain rfl : k = C.length := by omega
          have hW := hidden (fun (w' : World) (hb : Below w.heap.size w w') => (by have h := ints_take (HA.out w' hb) (show C.length ≤ l.length by omega); rwa [← HTk.out] at h : Ints w' (Old w') (.slice (some ⟨b1, o1, none⟩) C.length c) C))
          clear hx hy h1
          go_wp2_with fail
          go_quiet (fail)
          go_wp2
          go_ret
          exact ⟨⟨_, rfl, hidden (hW.out _ (drewN_below hb _))⟩, drewN_below hb _⟩
      · have hkc : ¬ k < C.length := fun h => by
          obtain ⟨z, h2, h3⟩ := HN.out.1 h
          have := (List.getElem?_eq_some_iff.1 h3).1
          omega
        obtain rfl : k = C.length := by omega
        generalize l[C.length] = x at *
        obtain ⟨b1, o1, rfl, _, x0⟩ := row_at (HA.out _ hb) hx
        have q1 : decide ((C.length : Int) < (l.length : Int)) = true := decide_eq_true (by omega)
        have q2 : decide ((C.length : Int) < (m.length : Int)) = false := decide_eq_false (by omega)
        have hW := hidden (fun (w' : World) (hb : Below w.heap.size w w') => (by have h := ints_take (HA.out w' hb) (show C.length ≤ l.length by omega); rwa [← HTk.out] at h : Ints w' (Old w') (.slice (some ⟨b1, o1, none⟩) C.length c) C))
        clear hx
        go_wp2_with fail
        go_quiet (fail)
        go_wp2
        go_ret
        exact ⟨⟨_, rfl, hidden (hW.out _ (drewN_below hb _))⟩, drewN_below hb _⟩
    · obtain rfl : k = l.length := by omega
      have hkc : C.length = l.length := by omega
      have q1 : decide ((l.length : Int) < (l.length : Int)) = false := decide_eq_false (by omega)
      have hW := hidden (fun (w' : World) (hb : Below w.heap.size w w') => (by have h := ints_take (HA.out w' hb) (show C.length ≤ l.length by omega); rw [← HTk.out] at h; rw [← hkc]; exact h : Ints w' (Old w') (.slice A l.length c) C))
      clear HN hk
      have hcC := hidden hkc
      clear hkc
      go_wp2_with fail
      go_quiet (fail)
      go_wp2
      go_ret
      exact ⟨⟨_, rfl, hidden (hW.out _ (drewN_below hb _))⟩, drewN_below hb _⟩

set_option maxRecDepth 20000 in
set_option maxHeartbeats 8000000 in
theorem ref_Order (a b : Value) (l m : List Int) (w : World) (hA : Ints w (Old w) a l) (hB : Ints w (Old w) b m) :
    Calls Tryd.prog 24 #[a, b] w fun r w' => r = .returned (.int .i64 (cmpL l m)) ∧ Below w.heap.size w w' := by
  have HC := hidden (ref_Common a b l m w hA hB)
  have HA := hidden (fun (w' : World) (hb : Below w.heap.size w w') => Rd.old hA hb)
  have HB := hidden (fun (w' : World) (hb : Below w.heap.size w w') => Rd.old hB hb)
  obtain ⟨A, c, rfl, hc1, hc2⟩ := hA.val
  obtain ⟨A2, c2, rfl, hd1, hd2⟩ := hB.val
  unfold maxLen at hc2 hd2
  have hE : Hid (cmpL l m = if (comL l m).length = l.length ∧ (comL l m).length = m.length then 0 else if (comL l m).length = l.length ∨ ((comL l m).length < m.length ∧ l.getD (comL l m).length 0 < m.getD (comL l m).length 0) then -1 else 1) := hidden (cmp_com l m)
  have hcl := com_len l m
  have hcm : (comL l m).length ≤ m.length := (com_right l m).length_le
  generalize comL l m = C at *
  generalize cmpL l m = res at *
  clear hA hB
  by_cases h1 : C.length = l.length
  · have q1 : ((C.length : Int) == (l.length : Int)) = true := by rw [h1]; exact beq_self_eq_true _
    by_cases h2 : C.length = m.length
    · have q2 : ((C.length : Int) == (m.length : Int)) = true := by rw [h2]; exact beq_self_eq_true _
      have he : Hid (res = 0) := hidden (by rw [hE.out, if_pos ⟨h1, h2⟩])
      clear hE h1 h2
      go_enter Tryd.func24, Tryd.ntmps24
      go_wp2_with fail
      refine HC.out.mono ?_
      rintro r w2 ⟨⟨u, rfl, hu⟩, hb⟩
      obtain ⟨A3, c3, rfl, _, _⟩ := hu.out.val
      clear HC hu
      go_wp2
      go_ret
      exact ⟨by rw [he.out]; rfl, hb⟩
    · have q2 : ((C.length : Int) == (m.length : Int)) = false := by rw [beq_eq_false_iff_ne]; omega
      have he : Hid (res = -1) := hidden (by rw [hE.out, if_neg (fun h => h2 h.2), if_pos (.inl h1)])
      clear hE h1 h2
      go_enter Tryd.func24, Tryd.ntmps24
      go_wp2_with fail
      refine HC.out.mono ?_
      rintro r w2 ⟨⟨u, rfl, hu⟩, hb⟩
      obtain ⟨A3, c3, rfl, _, _⟩ := hu.out.val
      clear HC hu
      go_wp2_with fail
      go_quiet (fail)
      go_wp2
      go_ret
      exact ⟨by rw [he.out]; rfl, drewN_below hb _⟩
  · have q1 : ((C.length : Int) == (l.length : Int)) = false := by rw [beq_eq_false_iff_ne]; omega
    by_cases h2 : C.length < m.length
    · have q2 : decide ((C.length : Int) < (m.length : Int)) = true := decide_eq_true (by omega)
      have hx := List.getElem?_eq_getElem (show C.length < l.length by omega)
      have hy := List.getElem?_eq_getElem h2
      have hE2 : Hid (res = if l[C.length]'(by omega) < m[C.length]'h2 then -1 else 1) := hidden (by
        rw [hE.out, if_neg (fun h => h1 h.1), List.getD_eq_getElem?_getD, List.getD_eq_getElem?_getD, hx, hy]
        simp [h1, h2])
      generalize l[C.length] = x at *
      generalize m[C.length] = y at *
      have HX := hidden hx
      have HY := hidden hy
      have hlt1 : C.length < l.length := by omega
      clear hE hx hy h1
      by_cases h3 : x < y
      · have q3 : decide (x < y) = true := decide_eq_true h3
        have he : Hid (res = -1) := hidden (by rw [hE2.out, if_pos h3])
        go_enter Tryd.func24, Tryd.ntmps24
        go_wp2_with fail
        refine HC.out.mono ?_
        rintro r w2 ⟨⟨u, rfl, hu⟩, hb⟩
        obtain ⟨A3, c3, rfl, _, _⟩ := hu.out.val
        obtain ⟨b1, o1, rfl, _, x0⟩ := row_at (HA.out _ hb) HX.out
        obtain ⟨b2, o2, rfl, _, y0⟩ := row_at (HB.out _ hb) HY.out
        clear HC hu HX HY
        go_wp2_with fail
        go_quiet (fail)
        go_wp2
        go_ret
        exact ⟨by rw [he.out]; rfl, drewN_below hb _⟩
      · have q3 : decide (x < y) = false := decide_eq_false h3
        have he : Hid (res = 1) := hidden (by rw [hE2.out, if_neg h3])
        go_enter Tryd.func24, Tryd.ntmps24
        go_wp2_with fail
        refine HC.out.mono ?_
        rintro r w2 ⟨⟨u, rfl, hu⟩, hb⟩
        obtain ⟨A3, c3, rfl, _, _⟩ := hu.out.val
        obtain ⟨b1, o1, rfl, _, x0⟩ := row_at (HA.out _ hb) HX.out
        obtain ⟨b2, o2, rfl, _, y0⟩ := row_at (HB.out _ hb) HY.out
        clear HC hu HX HY
        go_wp2_with fail
        go_quiet (fail)
        go_wp2
        go_ret
        exact ⟨by rw [he.out]; rfl, drewN_below hb _⟩
    · have q2 : decide ((C.length : Int) < (m.length : Int)) = false := decide_eq_false (by omega)
      have he : Hid (res = 1) := hidden (by rw [hE.out, if_neg (fun h => h1 h.1), if_neg (by omega)])
      clear hE h1
      go_enter Tryd.func24, Tryd.ntmps24
      go_wp2_with fail
      refine HC.out.mono ?_
      rintro r w2 ⟨⟨u, rfl, hu⟩, hb⟩
      obtain ⟨A3, c3, rfl, _, _⟩ := hu.out.val
      clear HC hu
      go_wp2_with fail
      go_quiet (fail)
      go_wp2
      go_ret
      exact ⟨by rw [he.out]; rfl, drewN_below hb _⟩
end Go.Proofs.YtdbbjlphlbndkaaDoor.T
