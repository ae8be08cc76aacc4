/-
  facsimileref11: put, Of, Union once more: where their rows lie; and plainly.
-/
import Derived.Test.YtdbbjlphlbndkaaGreatB1
import Derived.Test.YtdbbjlphlbndkaaGreatAscU
namespace Go.Proofs.YtdbbjlphlbndkaaGreat
open Go.RowKit Go.Shelf

set_option maxRecDepth 20000 in
set_option maxHeartbeats 4000000 in
theorem ref11_putT (v : Value) (l : List Int) (n : Int) (T : Nat → Prop) (w : World) (hR : Ints w T v l) (hT : ∀ k, T k → k < w.heap.size) (hn : l.length ≤ 1000000) :
    Calls Tryz.prog 50 #[v, .int .i64 n] w fun r w' => (∃ u, r = .returned u ∧ Hid (Ints w' (fun k => T k ∨ w.heap.size ≤ k ∧ k < w'.heap.size) u (putOf l n))) ∧ Below w.heap.size w w' := by
  have HH := hidden (ref11_has v l n _ w hR)
  have HRo := hidden (fun (w' : World) (hb : Below w.heap.size w w') => Rd.below hR hb hT)
  have HR0 := hidden hR
  have HTh := hidden hT
  clear hT
  obtain ⟨A, c, rfl, hc1, hc2⟩ := hR.val
  unfold maxLen at hc2
  have HP1 : Hid (holdsB (n ∈ l) = true → putOf l n = l) := hidden (fun h => by unfold putOf; rw [if_pos h])
  have HP2 : Hid (holdsB (n ∈ l) = false → putOf l n = l.take (aheadOf l n) ++ n :: l.drop (aheadOf l n)) := hidden (fun h => by
    unfold putOf; rw [if_neg (by rw [h]; decide), (ahead_spec l n).1, (ahead_spec l n).2])
  have hal := ahead_le l n
  have HA1 := hidden (fun (k : Nat) (x : Int) (h1 : l[k]? = some x) (h2 : k < aheadOf l n) => ahead_lt h1 h2)
  have HA2 := hidden (fun (x : Int) (h1 : l[aheadOf l n]? = some x) => ahead_at h1)
  generalize putOf l n = r at *
  generalize holdsB (n ∈ l) = hh at *
  generalize aheadOf l n = m at *
  clear hR
  have hb := Below.refl w.heap.size w
  cases hh
  · have HP := hidden (HP2.out rfl)
    clear HP1 HP2
    go_enter Tryz.func50, Tryz.ntmps50
    go_wp2_with fail
    refine HH.out.mono ?_
    rintro r w' ⟨rfl, rfl⟩
    go_upto_block 0 with fail
    go_cut [5] (fun vv wx => Hid (IntsM wx w.heap.size vv (l.take m)) ∧ Below w.heap.size w wx)
    case first =>
      go_wp2_with fail
      go_loopg [5, 6] m (fun gh vv ii wr => ∃ k : Nat, k ≤ m ∧ gh = m - k ∧ ii = .int .i64 k ∧ Hid (IntsM wr w.heap.size vv (l.take k)) ∧ Below w.heap.size w wr)
      case atStart => exact ⟨0, by omega, rfl, rfl, hidden (Mine.fresh_nil _ _ _ _ _), (by repeat (first | (with_reducible exact Below.refl _ _) | (with_reducible assumption) | (with_reducible refine Below.drew ?_) | (with_reducible refine below_drewN ?_ _) | ((with_reducible refine below_alloc ?_ ?_); (focus (first | omega | (simp; done) | (simp; omega)))) | ((with_reducible refine below_set ?_ ?_); (focus (first | omega | (simp; done) | (simp; omega))))))⟩
      case round =>
        obtain ⟨k, hk, rfl, rfl, HM, hb⟩ := hrel
        have hbz := hb.size
        by_cases hlt : k < m
        · have hkl : k < l.length := by omega
          have hx := List.getElem?_eq_getElem hkl
          generalize l[k] = x at *
          obtain ⟨b, off, rfl, _, x0⟩ := row_at (HRo.out _ hb) hx
          have hxn := HA1.out k x hx hlt
          have HX := hidden (take_snoc_at' hx)
          clear hx
          go_wp2_with (at_builtin; refine wpList_append_i rfl _ _ rfl w.heap.size _ _ HM x rfl rfl rfl (by first | rfl | simp) (by rw [List.length_take]; omega) hbz ?_; intro v' w' hA hb2 hK)
          go_roundg (m - (k + 1))
          case measure => omega
          case rel => exact ⟨k + 1, by omega, rfl, by go_num, by rw [HX.out] at hA; exact hA, hb.trans hb2⟩
        · obtain rfl : k = m := by omega
          by_cases he : k < l.length
          · have hx := List.getElem?_eq_getElem he
            generalize l[k] = x at *
            obtain ⟨b, off, rfl, _, x0⟩ := row_at (HRo.out _ hb) hx
            have hxn : ¬ x < n := by have := HA2.out x hx; omega
            clear hx
            go_wp2
            go_meet
            exact ⟨HM, hb⟩
          · go_wp2
            go_meet
            exact ⟨HM, hb⟩
    case rest =>
      obtain ⟨HM, hb2⟩ := hcut
      have hbz := hb2.size
      have hlk : (l.take m).length = m := by rw [List.length_take]; omega
      obtain ⟨L1, hL1⟩ : ∃ L, L = l.take m := ⟨_, rfl⟩
      rw [← hL1] at HM hlk
      have HP' : Hid (r = L1 ++ [n] ++ l.drop m) := hidden (by rw [HP.out, hL1]; simp)
      obtain ⟨Au, cu, rfl⟩ := Mine.value HM.out
      clear hL1 HP HA1 HA2 HR0
      subst hlk
      have HD0 : Hid (L1 ++ [n] ++ (l.drop L1.length).take (L1.length - L1.length) = L1 ++ [n]) := hidden (by simp)
      have HDs : Hid (∀ k x, L1.length ≤ k → l[k]? = some x → L1 ++ [n] ++ (l.drop L1.length).take (k - L1.length) ++ [x] = L1 ++ [n] ++ (l.drop L1.length).take (k + 1 - L1.length)) := hidden (fun k x hk hx => by
        rw [List.append_assoc (L1 ++ [n]), take_snoc_at' (by rw [List.getElem?_drop, show L1.length + (k - L1.length) = k by omega]; exact hx), show k - L1.length + 1 = k + 1 - L1.length by omega])
      have HDe : Hid (L1 ++ [n] ++ (l.drop L1.length).take (l.length - L1.length) = r) := hidden (by rw [HP'.out, List.take_of_length_le (by rw [List.length_drop]; omega)])
      have HDl : Hid (∀ k, k ≤ l.length → (L1 ++ [n] ++ (l.drop L1.length).take (k - L1.length)).length ≤ l.length + 1 + l.length) := hidden (fun k hk => by
        rw [List.length_append, List.length_append, List.length_take, List.length_drop]; simp; omega)
      go_wp2_with (at_builtin; refine wpList_append_i rfl _ _ rfl w.heap.size _ _ HM n rfl rfl rfl (by first | rfl | simp) (by omega) hbz ?_; intro v' w' hA hb3 hK)
      rw [← HD0.out] at hA
      have hbA := hb2.trans hb3
      clear HM hb2 hb3 hK
      go_loopw [5, 8] (fun vv ii wr => ∃ k : Nat, k ≤ l.length ∧ L1.length ≤ k ∧ ii = .int .i64 k ∧ Hid (IntsM wr w.heap.size vv (L1 ++ [n] ++ (l.drop L1.length).take (k - L1.length))) ∧ Below w.heap.size w wr) (fun _ ii _ => l.length - (intOf ii).toNat)
      case atStart => exact ⟨L1.length, hal, Nat.le_refl _, rfl, hA, hbA⟩
      case round =>
        clear hA hbA
        obtain ⟨k, hk, hk2, rfl, HM, hb⟩ := hrel
        have hbz := hb.size
        by_cases hlt : k < l.length
        · have hx := List.getElem?_eq_getElem hlt
          generalize l[k] = x at *
          obtain ⟨b, off, rfl, _, x0⟩ := row_at (HRo.out _ hb) hx
          have HX := hidden (HDs.out k x hk2 hx)
          have hln := HDl.out k hk
          generalize L1 ++ [n] ++ (l.drop L1.length).take (k - L1.length) = LL at *
          clear hx
          go_wp2_with (at_builtin; refine wpList_append_i rfl _ _ rfl w.heap.size _ _ HM x rfl rfl rfl (by first | rfl | simp) (by omega) hbz ?_; intro v' w' hA hb2 hK)
          go_roundw
          case rel => exact ⟨k + 1, by omega, by omega, by go_num, by rw [HX.out] at hA; exact hA, hb.trans hb2⟩
          case measure => simp [intOf]; omega
        · obtain rfl : k = l.length := by omega
          rw [HDe.out] at HM
          go_wp2
          go_ret
          exact ⟨⟨_, rfl, hidden (Mine.rd HM.out (fun _ _ h1 h2 => .inr ⟨h1, h2⟩))⟩, hb⟩
  · have HP := hidden (HP1.out rfl)
    clear HP1 HP2
    go_enter Tryz.func50, Tryz.ntmps50
    go_wp2_with fail
    refine HH.out.mono ?_
    rintro r w' ⟨rfl, rfl⟩
    go_wp2
    go_ret
    exact ⟨⟨_, rfl, hidden (by rw [HP.out]; exact HR0.out.mono (fun _ h => .inl h))⟩, hb⟩

set_option maxRecDepth 20000 in
set_option maxHeartbeats 4000000 in
theorem ref11_OfT (v : Value) (l : List Int) (w : World) (hR : Ints w (Old w) v l) (hn : l.length ≤ 100000) :
    Calls Tryz.prog 27 #[v] w fun r w' => (∃ u, r = .returned u ∧ Hid (Ints w' (fun k => w.heap.size ≤ k ∧ k < w'.heap.size) u (setOf l))) ∧ Below w.heap.size w w' := by
  have HRo := hidden (fun (w' : World) (hb : Below w.heap.size w w') => Rd.old hR hb)
  obtain ⟨A, c, rfl, hc1, hc2⟩ := hR.val
  unfold maxLen at hc2
  have HL : Hid (∀ k, k ≤ l.length → ((l.take k).foldl putOf []).length ≤ 1000000) := hidden (fun k hk => by
    have := fold_put_len (l.take k) []
    rw [List.length_take] at this
    simp at this; omega)
  have HS : Hid (∀ k x, l[k]? = some x → putOf ((l.take k).foldl putOf []) x = (l.take (k + 1)).foldl putOf []) := hidden (fun k x hx => by
    rw [← take_snoc_at' hx, List.foldl_append]; rfl)
  have HE : Hid ((l.take l.length).foldl putOf [] = setOf l) := hidden (by rw [List.take_of_length_le (Nat.le_refl _)]; rfl)
  clear hR
  go_enter Tryz.func27, Tryz.ntmps27
  go_wp2
  go_loopw [3, 4] (fun vv ii wr => ∃ k : Nat, k ≤ l.length ∧ ii = .int .i64 k ∧ Hid (Ints wr (fun k => w.heap.size ≤ k ∧ k < wr.heap.size) vv ((l.take k).foldl putOf [])) ∧ Below w.heap.size w wr) (fun _ ii _ => l.length - (intOf ii).toNat)
  case atStart => exact ⟨0, by omega, rfl, hidden ⟨rfl, _, 0, rfl, Nat.le_refl _, by decide, fun h => by simp at h⟩, (by repeat (first | (with_reducible exact Below.refl _ _) | (with_reducible assumption) | (with_reducible refine Below.drew ?_) | (with_reducible refine below_drewN ?_ _) | ((with_reducible refine below_alloc ?_ ?_); (focus (first | omega | (simp; done) | (simp; omega)))) | ((with_reducible refine below_set ?_ ?_); (focus (first | omega | (simp; done) | (simp; omega))))))⟩
  case round =>
    obtain ⟨k, hk, rfl, HM, hb⟩ := hrel
    by_cases hlt : k < l.length
    · have hx := List.getElem?_eq_getElem hlt
      generalize l[k] = x at *
      obtain ⟨b, off, rfl, _, x0⟩ := row_at (HRo.out _ hb) hx
      have HX := hidden (HS.out k x hx)
      have HP := hidden (ref11_putT _ _ x _ wr HM.out (fun _ h => h.2) (HL.out k hk))
      obtain ⟨Au, cu, rfl, _, _⟩ := HM.out.val
      clear hx HM
      rw [HX.out] at HP
      generalize ((l.take k).foldl putOf []) = LL at *
      go_wp2_with fail
      refine HP.out.mono ?_
      rintro r w2 ⟨⟨u, rfl, HM2⟩, hb2⟩
      have hz9 := hb.size
      have hz8 := hb2.size
      replace HM2 := hidden (HM2.out.mono (fun k h => (by rcases h with h | h <;> omega : w.heap.size ≤ k ∧ k < w2.heap.size)))
      replace hb := hb.trans (hb2.mono hb.size)
      clear HP hb2
      go_wp2
      go_roundw
      case rel => exact ⟨k + 1, by omega, by go_num, HM2, hb⟩
      case measure => simp [intOf]; omega
    · obtain rfl : k = l.length := by omega
      rw [HE.out] at HM
      go_wp2
      go_ret
      exact ⟨⟨_, rfl, HM⟩, hb⟩

/-! ### Plainly -/
theorem mem_putOfT {z n : Int} {l : List Int} : z ∈ putOf l n ↔ z = n ∨ z ∈ l := by
  unfold putOf
  split
  · rename_i h
    rw [holdsB_iff] at h
    constructor
    · exact .inr
    · rintro (rfl | h2)
      · exact h
      · exact h2
  · rw [List.mem_append, List.mem_cons]
    have := List.takeWhile_append_dropWhile (p := fun x => decide (x < n)) (l := l)
    constructor
    · rintro (h | h | h)
      · exact .inr (by rw [← this]; exact List.mem_append_left _ h)
      · exact .inl h
      · exact .inr (by rw [← this]; exact List.mem_append_right _ h)
    · rintro (h | h)
      · exact .inr (.inl h)
      · rw [← this, List.mem_append] at h
        rcases h with h | h
        · exact .inl h
        · exact .inr (.inr h)
theorem mem_takeWhile_lt {n z : Int} : ∀ {l : List Int}, z ∈ l.takeWhile (fun x => decide (x < n)) → z < n := by
  intro l
  induction l with
  | nil => intro h; cases h
  | cons x l ih =>
    intro h
    rw [List.takeWhile_cons] at h
    split at h
    · rename_i hx
      rcases List.mem_cons.1 h with rfl | h
      · exact of_decide_eq_true hx
      · exact ih h
    · cases h
theorem mem_dropWhile_ge {n z : Int} : ∀ {l : List Int}, Asc l → z ∈ l.dropWhile (fun x => decide (x < n)) → n ≤ z := by
  intro l
  induction l with
  | nil => intro _ h; cases h
  | cons x l ih =>
    intro ha h
    have ha' := List.pairwise_cons.1 ha
    rw [List.dropWhile_cons] at h
    split at h
    · exact ih ha'.2 h
    · rename_i hx
      have hx : ¬ x < n := fun e => hx (decide_eq_true e)
      rcases List.mem_cons.1 h with rfl | h
      · omega
      · have := ha'.1 z h; omega
theorem asc_putOf {n : Int} {l : List Int} (h : Asc l) : Asc (putOf l n) := by
  unfold putOf
  split
  · exact h
  · rename_i hn
    have hn' : n ∉ l := fun e => hn (holdsB_true e)
    have hs := List.takeWhile_append_dropWhile (p := fun x => decide (x < n)) (l := l)
    have hsub : ∀ z, z ∈ l.dropWhile (fun x => decide (x < n)) → n < z := fun z hz => by
      have h1 := mem_dropWhile_ge h hz
      have h2 : z ∈ l := by rw [← hs]; exact List.mem_append_right _ hz
      rcases Int.lt_or_eq_of_le h1 with h3 | rfl
      · exact h3
      · exact absurd h2 hn'
    refine List.pairwise_append.2 ⟨h.sublist (List.takeWhile_sublist _), List.pairwise_cons.2 ⟨fun z hz => hsub z hz, h.sublist (List.dropWhile_sublist _)⟩, fun x hx y hy => ?_⟩
    have h1 := mem_takeWhile_lt hx
    rcases List.mem_cons.1 hy with rfl | hy
    · exact h1
    · have := hsub y hy; omega
theorem fold_put : ∀ (b a : List Int), Asc a → Asc (b.foldl putOf a) ∧ ∀ z, z ∈ b.foldl putOf a ↔ z ∈ a ∨ z ∈ b := by
  intro b
  induction b with
  | nil => intro a h; exact ⟨h, fun z => by simp⟩
  | cons x b ih =>
    intro a h
    obtain ⟨h1, h2⟩ := ih (putOf a x) (asc_putOf h)
    refine ⟨h1, fun z => ?_⟩
    rw [List.foldl_cons, h2, mem_putOfT, List.mem_cons]
    constructor
    · rintro ((h | h) | h)
      · exact .inr (.inl h)
      · exact .inl h
      · exact .inr (.inr h)
    · rintro (h | h | h)
      · exact .inl (.inr h)
      · exact .inl (.inl h)
      · exact .inr h
theorem asc_setOf (l : List Int) : Asc (setOf l) := (fold_put l [] List.Pairwise.nil).1
theorem mem_setOf {l : List Int} {z : Int} : z ∈ setOf l ↔ z ∈ l := by
  unfold setOf
  rw [(fold_put l [] List.Pairwise.nil).2]
  simp
theorem asc_unionOf (a b : List Int) : Asc (unionOf a b) := (fold_put b _ (asc_setOf a)).1
theorem mem_unionOf {a b : List Int} {z : Int} : z ∈ unionOf a b ↔ z ∈ a ∨ z ∈ b := by
  unfold unionOf
  rw [(fold_put b _ (asc_setOf a)).2, mem_setOf]
theorem setOf_len (l : List Int) : (setOf l).length ≤ l.length := by unfold setOf; have := fold_put_len l []; simpa using this
theorem setOf_asc {l : List Int} (h : Asc l) : setOf l = l := asc_ext (asc_setOf l) h (fun _ => mem_setOf)
theorem unionOf_asc {a b : List Int} (ha : Asc a) (hb : Asc b) : unionOf a b = mergeU a b := asc_ext (asc_unionOf a b) (asc_union ha hb) (fun z => by rw [mem_unionOf, mem_union])
theorem unionOf_len (a b : List Int) : (unionOf a b).length ≤ a.length + b.length := by
  unfold unionOf setOf
  have h1 := fold_put_len a []
  have h2 := fold_put_len b (a.foldl putOf [])
  simp at h1
  omega
end Go.Proofs.YtdbbjlphlbndkaaGreat
