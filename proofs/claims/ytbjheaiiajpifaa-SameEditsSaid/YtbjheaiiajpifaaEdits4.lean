/-
  A tree half turned into another one, plainly; where a path leads (the document's Find).
-/
import Derived.Test.YtbjheaiiajpifaaEdits3
import Derived.Test.YtbjheaiiajpifaaT8
namespace Go.Proofs.Ytbjheaiiajpifaa.T
open Go.RowKit Go.Shelf

theorem kidsFrom_congr {s t : List Node} (h : ∀ i, sz s i = sz t i) (e : Nat) : ∀ n k, e - k ≤ n → kidsFrom s e k = kidsFrom t e k := by
  intro n
  induction n with
  | zero => intro k hk; rw [kidsFrom_ge (by omega), kidsFrom_ge (by omega)]
  | succ n ih =>
    intro k hk
    by_cases hlt : k < e
    · have e1 : kidsFrom s e k = k :: kidsFrom s e (k + max 1 (sz s k)) := by rw [kidsFrom, if_pos hlt]
      have e2 : kidsFrom t e k = k :: kidsFrom t e (k + max 1 (sz t k)) := by rw [kidsFrom, if_pos hlt]
      rw [e1, e2, h k, ih _ (by omega)]
    · rw [kidsFrom_ge hlt, kidsFrom_ge hlt]
theorem kidsL_congr {s t : List Node} (h : ∀ i, sz s i = sz t i) (i : Nat) : kidsL s i = kidsL t i := by
  unfold kidsL
  rw [h i]
  exact kidsFrom_congr h _ _ _ (Nat.le_refl _)
theorem upN_congr {s t : List Node} (h : ∀ i, sz s i = sz t i) (i : Nat) : ∀ j, upN s i j = upN t i j := by
  intro j
  induction j with
  | zero => rfl
  | succ j ih => unfold upN; rw [h j, ih]
theorem pathN_congr {s t : List Node} (h : ∀ i, sz s i = sz t i) (i : Nat) : pathN s i = pathN t i := by
  induction i using Nat.strongRecOn with
  | _ i ih =>
    rcases upN_cases s i i with h1 | ⟨k, h1⟩
    · have h2 : upN t i i = -1 := by rw [← upN_congr h]; exact h1
      rw [pathN, dif_neg (by omega), pathN, dif_neg (by omega)]
    · have h2 : upN t i i = (k : Int) := by rw [← upN_congr h]; exact h1
      rw [path_some h1, path_some h2, ih k (upN_lt i h1), kidsL_congr h]

/-- The one tree's nodes up to k, behind them the other one's. -/
def mix (a b : List Node) (k : Nat) : List Node := b.take k ++ a.drop k
/-- Two trees that stand alike. -/
structure Alike (a b : List Node) : Prop where
  ta : Tree a
  tb : Tree b
  len : b.length = a.length
  same : ∀ i, i < a.length → nodesD a b i = false
theorem Alike.sz {a b : List Node} (h : Alike a b) (i : Nat) : sz b i = sz a i := by
  by_cases hi : i < a.length
  · exact (sz_alike h.ta h.tb (fun j hj => (arity_of h.ta h.tb hj (h.same j (by omega))).1) i hi).symm
  · have hl := h.len
    unfold T.sz
    rw [List.getElem?_eq_none (show b.length ≤ i by omega), List.getElem?_eq_none (show a.length ≤ i by omega)]
section
variable {a b : List Node} {k : Nat}
theorem mix_len (h : Alike a b) (hk : k ≤ a.length) : (mix a b k).length = a.length := by
  unfold mix
  have := h.len
  rw [List.length_append, List.length_take, List.length_drop]
  omega
theorem mix_low (h : Alike a b) (hk : k ≤ a.length) {i : Nat} (hi : i < k) : (mix a b k)[i]? = b[i]? := by
  unfold mix
  have := h.len
  rw [List.getElem?_append_left (by rw [List.length_take]; omega), List.getElem?_take_of_lt hi]
theorem mix_high (h : Alike a b) (hk : k ≤ a.length) {i : Nat} (hi : k ≤ i) : (mix a b k)[i]? = a[i]? := by
  unfold mix
  have := h.len
  rw [List.getElem?_append_right (by rw [List.length_take]; omega), List.length_take, List.getElem?_drop]
  congr 1
  omega
theorem mix_sz (h : Alike a b) (hk : k ≤ a.length) (i : Nat) : T.sz (mix a b k) i = T.sz a i := by
  by_cases hi : i < k
  · unfold T.sz
    rw [mix_low h hk hi]
    exact h.sz i
  · unfold T.sz
    rw [mix_high h hk (by omega)]
theorem mix_tree (h : Alike a b) (hk : k ≤ a.length) : Tree (mix a b k) := by
  have hloc : ∀ i, i < a.length → ∃ x, (mix a b k)[i]? = some x ∧ Local x := fun i hi => by
    by_cases hik : i < k
    · have hx := List.getElem?_eq_getElem (show i < b.length by have := h.len; omega)
      exact ⟨_, (mix_low h hk hik).trans hx, (tree_good_at h.tb (by have := h.len; omega)).local hx⟩
    · have hx := List.getElem?_eq_getElem hi
      exact ⟨_, (mix_high h hk (by omega)).trans hx, (tree_good_at h.ta hi).local hx⟩
  have hz := mix_sz h hk
  have hlen := mix_len h hk
  have h0 := tree_len h.ta
  have g := h.ta.good
  refine ⟨?_, by rw [hz]; exact g.1, by rw [hz, hlen]; exact g.2.1, fun m hm1 hm2 => ?_⟩
  · obtain ⟨x, hx, hl⟩ := hloc 0 h0
    refine ⟨x, hx, ?_⟩
    have h1 := sz_of hx
    rw [hz, tree_sz0 h.ta] at h1
    have := hl.2.2.1
    rw [hlen]
    omega
  · rw [hz] at hm2
    obtain ⟨⟨_, hp⟩, hq⟩ := g.2.2 m hm1 hm2
    have hmlt : m < a.length := by have := g.2.1; omega
    refine ⟨⟨hloc m hmlt, fun j hj1 hj2 => ?_⟩, by rw [hz, hz]; exact hq⟩
    rw [hz] at hj2 ⊢
    rw [hz]
    exact hp j hj1 hj2
theorem mix_all (h : Alike a b) : mix a b a.length = b := by
  unfold mix
  rw [List.take_of_length_le (by have := h.len; omega), List.drop_of_length_le (Nat.le_refl _), List.append_nil]
theorem mix_zero : mix a b 0 = a := by unfold mix; simp
theorem mix_next (h : Alike a b) (hk : k < a.length) : mix a b (k + 1) = (mix a b k).take k ++ [b[k]'(by have := h.len; omega)] ++ (mix a b k).drop (k + 1) := by
  have hkb : k < b.length := by have := h.len; omega
  have e1 : (mix a b k).take k = b.take k := by
    unfold mix
    rw [List.take_left' (by rw [List.length_take]; omega)]
  have e2 : (mix a b k).drop (k + 1) = a.drop (k + 1) := by
    unfold mix
    rw [List.drop_append, List.drop_of_length_le (l := b.take k) (by rw [List.length_take]; omega), List.nil_append, List.length_take, List.drop_drop]
    congr 1
    omega
  rw [e1, e2]
  unfold mix
  rw [List.take_succ_eq_append_getElem hkb]
/-- Nothing to be done at a place: the step changes nothing. -/
theorem mix_same (h : Alike a b) (hk : k < a.length) (ht : textsD a b k = false) (hb : blanksD a b k = false) : mix a b (k + 1) = mix a b k := by
  have hkb : k < b.length := by have := h.len; omega
  have he : b[k] = a[k] := by
    unfold textsD at ht
    unfold blanksD at hb
    rw [List.getElem?_eq_getElem hk, List.getElem?_eq_getElem hkb] at ht hb
    simp only [Bool.not_eq_false'] at ht hb
    replace ht := eqB_iff.1 ht
    replace hb := eqB_iff.1 hb
    obtain ⟨_, h1, h2⟩ := arity_of h.ta h.tb (i := k) (by omega) (h.same k hk)
    have h3 := (tree_node h.ta hk).2.2
    have h4 := (tree_node h.tb hkb).2.2
    rw [h.sz k] at h4
    generalize a[k] = x at *
    generalize b[k] = y at *
    obtain ⟨k1, n1, s1, l1, t1⟩ := x
    obtain ⟨k2, n2, s2, l2, t2⟩ := y
    dsimp only at *
    subst h1 h2 ht hb h3 h4
    rfl
  apply List.ext_getElem?
  intro i
  by_cases hi : i < k
  · rw [mix_low h (by omega) (by omega), mix_low h (by omega) hi]
  · by_cases e : i = k
    · subst e
      rw [mix_low h (by omega) (by omega), mix_high h (by omega) (Nat.le_refl _), List.getElem?_eq_getElem hk, List.getElem?_eq_getElem hkb, he]
    · rw [mix_high h (by omega) (by omega), mix_high h (by omega) (by omega)]
end

/-- A path's places, one by one: the node at the path's first k, and the kid there. -/
theorem path_prefix {t : List Node} (ht : Tree t) : ∀ i, i < t.length → ∀ k, k ≤ (pathN t i).length → ∃ at_, at_ < t.length ∧ pathN t at_ = (pathN t i).take k := by
  intro i
  induction i using Nat.strongRecOn with
  | _ i ih =>
    intro hi k hk
    by_cases e : k = (pathN t i).length
    · exact ⟨i, hi, by rw [e, List.take_length]⟩
    · by_cases h0 : i = 0
      · subst h0; rw [path_zero] at hk e; simp at hk e; omega
      · obtain ⟨u, n, _, hu, hn⟩ := up_kid ht (by omega) hi
        have hp := path_kid ht (by omega) hn
        rw [hp, List.length_append] at hk e
        simp at hk e
        obtain ⟨x, hx1, hx2⟩ := ih u hu (by omega) k (by omega)
        exact ⟨x, hx1, by rw [hx2, hp, List.take_append_of_le_length (by omega)]⟩
theorem path_inj {t : List Node} (ht : Tree t) : ∀ i j, i < t.length → j < t.length → pathN t i = pathN t j → i = j := by
  intro i
  induction i using Nat.strongRecOn with
  | _ i ih =>
    intro j hi hj h
    by_cases h0 : i = 0
    · subst h0
      by_cases h1 : j = 0
      · exact h1.symm
      · obtain ⟨u, n, _, hu, hn⟩ := up_kid ht (by omega) hj
        rw [path_zero, path_kid ht (by omega) hn] at h
        simp at h
    · obtain ⟨u, n, _, hu, hn⟩ := up_kid ht (by omega) hi
      by_cases h1 : j = 0
      · subst h1
        rw [path_zero, path_kid ht (by omega) hn] at h
        simp at h
      · obtain ⟨v, m, _, hv, hm⟩ := up_kid ht (by omega) hj
        rw [path_kid ht (by omega) hn, path_kid ht (by omega) hm] at h
        obtain ⟨h2, h3⟩ := List.append_inj' h rfl
        have := ih u hu v (by omega) (by omega) h2
        subst this
        simp at h3
        subst h3
        rw [hn] at hm
        exact Option.some.inj hm
theorem path_next {t : List Node} (ht : Tree t) {i k u p : Nat} (hi : i < t.length) (hu : u < t.length) (hk : (pathN t i)[k]? = some p) (hpu : pathN t u = (pathN t i).take k) : ∃ x, (kidsL t u)[p]? = some x ∧ x < t.length ∧ pathN t x = (pathN t i).take (k + 1) := by
  have hlt := (List.getElem?_eq_some_iff.1 hk).1
  obtain ⟨x, hx1, hx2⟩ := path_prefix ht i hi (k + 1) hlt
  have hx0 : x ≠ 0 := fun e => by subst e; rw [path_zero] at hx2; have := congrArg List.length hx2; rw [List.length_take] at this; simp at this; omega
  obtain ⟨v, n, _, hv, hn⟩ := up_kid ht (by omega) hx1
  have hp := path_kid ht (by omega) hn
  rw [hx2, List.take_succ_eq_append_getElem hlt] at hp
  obtain ⟨h2, h3⟩ := List.append_inj' hp rfl
  have hvu : v = u := path_inj ht v u (by omega) hu (by rw [← h2, hpu])
  subst hvu
  have hpn : p = n := by
    rw [List.getElem?_eq_getElem hlt] at hk
    have := Option.some.inj hk
    simp at h3
    omega
  subst hpn
  exact ⟨x, hn, hx1, hx2⟩

set_option maxRecDepth 20000 in
set_option maxHeartbeats 8000000 in
theorem ref_Find32 (v pv : Value) (t : List Node) (i : Nat) (w : World) (h4 : t.length ≤ 140737488355) (hT : Tree t) (hi : i < t.length) (hN : Nds w (Old w) v t) (hP : Rd w (Old w) 1 pv (pathN t i).length (ints (pathN t i))) :
    Calls Try.prog 26 #[v, pv] w fun r w' => r = .returned (.tuple #[.int .i64 (i : Int), .bool true]) ∧ Below w.heap.size w w' := by
  have HR := hidden (ref_right v t w (by omega) hN)
  rw [treeB_iff.2 hT] at HR
  have HK := hidden (fun (w' : World) (k : Nat) (hb : Below w.heap.size w w') => ref_kids v t k w' h4 (hN.old hb))
  have HP := hidden (fun (w' : World) (hb : Below w.heap.size w w') => Rd.old hP hb)
  obtain ⟨A, c, rfl, hc1, hc2⟩ := hN.value
  obtain ⟨A2, c2, rfl, hd1, hd2⟩ := hP.val
  unfold maxLen at hc2 hd2
  have HT := hidden hT
  have HNx := hidden (fun u k p (hu : u < t.length) (hk : (pathN t i)[k]? = some p) (hpu : pathN t u = (pathN t i).take k) => path_next hT hi hu hk hpu)
  have HFi := hidden (fun u (hu : u < t.length) (h : pathN t u = pathN t i) => path_inj hT u i hu hi h)
  have HZ : Hid (pathN t 0 = []) := hidden (path_zero t)
  have h0 := tree_len hT
  have hpl := path_len (t := t) i
  generalize pathN t i = P at *
  clear hN hP hT
  go_enter Try.func26, Try.ntmps26
  go_wp2_with fail
  refine HR.out.mono ?_
  rintro r w2 ⟨rfl, hb⟩
  clear HR
  go_wp2
  go_loopg [6, 7] P.length (fun gh aa kk wr => ∃ k u : Nat, k ≤ P.length ∧ gh = P.length - k ∧ aa = .int .i64 u ∧ kk = .int .i64 k ∧ u < t.length ∧ Hid (pathN t u = P.take k) ∧ Below w.heap.size w wr)
  case atStart => exact ⟨0, 0, by omega, rfl, by go_num, by go_num, h0, hidden (by rw [HZ.out]; simp), hb⟩
  case round =>
    clear hb
    obtain ⟨k, u, hk, rfl, rfl, rfl, hu, HU, hb⟩ := hrel
    by_cases hlt : k < P.length
    · have hx := List.getElem?_eq_getElem hlt
      obtain ⟨x, hkx, hxt, hpx⟩ := HNx.out u k _ hu hx HU.out
      generalize P[k] = p at *
      have hpk := (List.getElem?_eq_some_iff.1 hkx).1
      have HKu := hidden (HK.out wr u hb)
      rw [kidsOf_in HT.out hu] at HKu
      have HPX := hidden hpx
      generalize kidsL t u = L at *
      have HKX := hidden hkx
      have HX := hidden hx
      clear hkx hpx hx HNx
      go_wp2_with fail
      refine HKu.out.mono ?_
      rintro r w3 ⟨⟨ku, rfl, HM⟩, hb3⟩
      have HRd := hidden (HM.out.rd (T := fun _ => True) (fun _ _ _ _ => trivial))
      obtain ⟨A3, c3, rfl⟩ := HM.out.value
      replace hb := below_more hb hb3
      obtain ⟨b3, o3, rfl, _, y0⟩ := HRd.out.ints_at HKX.out
      obtain ⟨b4, o4, rfl, _, y1⟩ := (HP.out _ hb).ints_at HX.out
      clear HKu HM hb3
      go_wp2
      go_roundg (P.length - (k + 1))
      case measure => omega
      case rel => exact ⟨k + 1, x, by omega, rfl, by go_num, by go_num, hxt, HPX, hb⟩
    · obtain rfl : k = P.length := by omega
      rw [List.take_length] at HU
      have HE := hidden (HFi.out u hu HU.out)
      clear HNx HFi HK HP
      go_wp2
      go_ret2
      exact ⟨by rw [← HE.out]; rfl, hb⟩
end Go.Proofs.Ytbjheaiiajpifaa.T
