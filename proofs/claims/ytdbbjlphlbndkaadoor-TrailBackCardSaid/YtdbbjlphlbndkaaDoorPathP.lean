/-
  Paths in trees, plainly: which nodes lie under which path, in which order paths stand.
-/
import Derived.Test.YtdbbjlphlbndkaaDoorTrailP
import Derived.Test.YtdbbjlphlbndkaaDoorPartsP
namespace Go.Proofs.YtdbbjlphlbndkaaDoor.T
open Go.RowKit Go.Shelf

/-- A path's places, one by one: the node at the path's first k, and the kid there. -/
theorem path_prefix {t : List Node} (ht : Tree t) : ∀ i, i < t.length → ∀ k, k ≤ (pathN t i).length → ∃ at_, at_ < t.length ∧ pathN t at_ = (pathN t i).take k := by
  intro i
  induction i using Nat.strongRecOn with
  | _ i ih =>
    intro hi k hk
    by_cases e : k = (pathN t i).length
    · exact ⟨i, hi, by rw [e, List.take_length]⟩
    · by_cases h0 : i = 0
      · subst h0; rw [path_zero] at hk e; simp at hk e; omega
      · obtain ⟨u, n, _, hu, hn⟩ := up_kid ht (by omega) hi
        have hp := path_kid ht (by omega) hn
        rw [hp, List.length_append] at hk e
        simp at hk e
        obtain ⟨x, hx1, hx2⟩ := ih u hu (by omega) k (by omega)
        exact ⟨x, hx1, by rw [hx2, hp, List.take_append_of_le_length (by omega)]⟩
theorem path_inj {t : List Node} (ht : Tree t) : ∀ i j, i < t.length → j < t.length → pathN t i = pathN t j → i = j := by
  intro i
  induction i using Nat.strongRecOn with
  | _ i ih =>
    intro j hi hj h
    by_cases h0 : i = 0
    · subst h0
      by_cases h1 : j = 0
      · exact h1.symm
      · obtain ⟨u, n, _, hu, hn⟩ := up_kid ht (by omega) hj
        rw [path_zero, path_kid ht (by omega) hn] at h
        simp at h
    · obtain ⟨u, n, _, hu, hn⟩ := up_kid ht (by omega) hi
      by_cases h1 : j = 0
      · subst h1
        rw [path_zero, path_kid ht (by omega) hn] at h
        simp at h
      · obtain ⟨v, m, _, hv, hm⟩ := up_kid ht (by omega) hj
        rw [path_kid ht (by omega) hn, path_kid ht (by omega) hm] at h
        obtain ⟨h2, h3⟩ := List.append_inj' h rfl
        have := ih u hu v (by omega) (by omega) h2
        subst this
        simp at h3
        subst h3
        rw [hn] at hm
        exact Option.some.inj hm
theorem path_next {t : List Node} (ht : Tree t) {i k u p : Nat} (hi : i < t.length) (hu : u < t.length) (hk : (pathN t i)[k]? = some p) (hpu : pathN t u = (pathN t i).take k) : ∃ x, (kidsL t u)[p]? = some x ∧ x < t.length ∧ pathN t x = (pathN t i).take (k + 1) := by
  have hlt := (List.getElem?_eq_some_iff.1 hk).1
  obtain ⟨x, hx1, hx2⟩ := path_prefix ht i hi (k + 1) hlt
  have hx0 : x ≠ 0 := fun e => by subst e; rw [path_zero] at hx2; have := congrArg List.length hx2; rw [List.length_take] at this; simp at this; omega
  obtain ⟨v, n, _, hv, hn⟩ := up_kid ht (by omega) hx1
  have hp := path_kid ht (by omega) hn
  rw [hx2, List.take_succ_eq_append_getElem hlt] at hp
  obtain ⟨h2, h3⟩ := List.append_inj' hp rfl
  have hvu : v = u := path_inj ht v u (by omega) hu (by rw [← h2, hpu])
  subst hvu
  have hpn : p = n := by
    rw [List.getElem?_eq_getElem hlt] at hk
    have := Option.some.inj hk
    simp at h3
    omega
  subst hpn
  exact ⟨x, hn, hx1, hx2⟩


theorem kidsFrom_rise {t : List Node} {e : Nat} : ∀ n k, e - k ≤ n → (kidsFrom t e k).Pairwise (· < ·) := by
  intro n
  induction n with
  | zero => intro k h; rw [kidsFrom_ge (by omega)]; exact List.Pairwise.nil
  | succ n ih =>
    intro k h
    rw [kidsFrom]
    split
    · refine List.pairwise_cons.2 ⟨fun x hx => ?_, ih _ (by omega)⟩
      have := kidsFrom_ge_all _ _ (Nat.le_refl _) _ hx
      omega
    · exact List.Pairwise.nil
theorem kidsL_rise (t : List Node) (i : Nat) : (kidsL t i).Pairwise (· < ·) := kidsFrom_rise _ _ (Nat.le_refl _)
theorem upN_last {t : List Node} {i : Nat} : ∀ j k : Nat, k < j → i < k + sz t k → ∃ a : Nat, upN t i j = (a : Int) ∧ k ≤ a ∧ a < j := by
  intro j
  induction j with
  | zero => intro k h; omega
  | succ j ih =>
    intro k hk hik
    unfold upN
    by_cases h : i < j + sz t j
    · rw [if_pos h]; exact ⟨j, rfl, by omega, by omega⟩
    · rw [if_neg h]
      have hkj : k < j := by
        by_cases e : k = j
        · subst e; omega
        · omega
      obtain ⟨a, h1, h2, h3⟩ := ih k hkj hik
      exact ⟨a, h1, h2, by omega⟩
/-- The path of a node begins with those of the nodes in whose parts it lies. -/
theorem path_under {t : List Node} (_ht : Tree t) {k : Nat} : ∀ i, i < t.length → k ≤ i → i < k + sz t k → pathN t k <+: pathN t i := by
  intro i
  induction i using Nat.strongRecOn with
  | _ i ih =>
    intro hi hki hik
    by_cases e : k = i
    · subst e; exact List.prefix_refl _
    · obtain ⟨a, h1, h2, h3⟩ := upN_last i k (by omega) hik
      have hp := ih a h3 (by omega) h2 (by omega)
      rw [path_some h1]
      exact hp.trans (List.prefix_append _ _)
theorem sub_end {t : List Node} (ht : Tree t) {a k : Nat} (ha : a < t.length) (h1 : a ≤ k) (h2 : k < a + sz t a) : k + sz t k ≤ a + sz t a := by
  by_cases e : a = k
  · subst e; exact Nat.le_refl _
  · exact (tree_step ht ha (by omega) h2).2.2
/-- Nothing else lies under a node's path. -/
theorem under_path {t : List Node} (ht : Tree t) {k : Nat} (hk : k < t.length) : ∀ i, i < t.length → pathN t k <+: pathN t i → k ≤ i ∧ i < k + sz t k := by
  intro i
  induction i using Nat.strongRecOn with
  | _ i ih =>
    intro hi hp
    have hz := (tree_node ht hk).1
    by_cases e : pathN t k = pathN t i
    · have := path_inj ht k i hk hi e
      omega
    · by_cases h0 : i = 0
      · subst h0
        rw [path_zero] at hp e
        exact absurd (List.prefix_nil.1 hp) e
      · obtain ⟨a, n, hu, ha, hn⟩ := up_kid ht (by omega) hi
        have hpk := path_kid ht (by omega) hn
        rw [hpk] at hp e
        have hpa : pathN t k <+: pathN t a := by
          obtain ⟨r, hr⟩ := hp
          cases hrl : r.reverse with
          | nil =>
            have : r = [] := by simpa using hrl
            subst this
            rw [List.append_nil] at hr
            exact absurd hr e
          | cons x r' =>
            have hr' : r = r'.reverse ++ [x] := by rw [← List.reverse_reverse r, hrl, List.reverse_cons]
            rw [hr', ← List.append_assoc] at hr
            obtain ⟨h2, _⟩ := List.append_inj' hr rfl
            exact ⟨_, h2⟩
        obtain ⟨h1, h2⟩ := ih a ha (by omega) hpa
        have h3 := (upN_spec i a hu).1
        have h4 := sub_end ht hk h1 h2
        omega

/-! ### Orders -/
/-- Which of two lists stands first. -/
def cmpL : List Int → List Int → Int
  | [], [] => 0
  | [], _ :: _ => -1
  | _ :: _, [] => 1
  | a :: l, b :: m => if a < b then -1 else if b < a then 1 else cmpL l m
/-- What both begin with. -/
def comL : List Int → List Int → List Int
  | a :: l, b :: m => if a = b then a :: comL l m else []
  | _, _ => []
theorem cmp_self (l : List Int) : cmpL l l = 0 := by
  induction l with
  | nil => rfl
  | cons a l ih => rw [cmpL, if_neg (by omega), if_neg (by omega)]; exact ih
theorem cmp_turn : ∀ l m : List Int, cmpL l m = - cmpL m l := by
  intro l
  induction l with
  | nil => intro m; cases m <;> rfl
  | cons a l ih =>
    intro m
    cases m with
    | nil => rfl
    | cons b m =>
      rw [cmpL, cmpL]
      rcases Int.lt_trichotomy a b with h | h | h
      · rw [if_pos h, if_neg (by omega), if_pos h]
      · rw [if_neg (by omega), if_neg (by omega), if_neg (by omega), if_neg (by omega)]; exact ih m
      · rw [if_neg (by omega), if_pos h, if_pos h]; rfl
theorem cmp_less_more : ∀ (l m z : List Int), cmpL l m = -1 → cmpL l (m ++ z) = -1 := by
  intro l
  induction l with
  | nil => intro m z h; cases m with
    | nil => simp [cmpL] at h
    | cons b m => rfl
  | cons a l ih =>
    intro m z h
    cases m with
    | nil => simp [cmpL] at h
    | cons b m =>
      rw [List.cons_append]
      rw [cmpL] at h ⊢
      by_cases h1 : a < b
      · rw [if_pos h1]
      · rw [if_neg h1] at h ⊢
        by_cases h2 : b < a
        · rw [if_pos h2] at h; cases h
        · rw [if_neg h2] at h ⊢
          exact ih m z h
theorem cmp_ext (l : List Int) (b : Int) (z : List Int) : cmpL l (l ++ b :: z) = -1 := by
  induction l with
  | nil => rfl
  | cons a l ih => rw [List.cons_append, cmpL, if_neg (by omega), if_neg (by omega)]; exact ih
theorem cmp_at (l : List Int) {a b : Int} (h : a < b) (y z : List Int) : cmpL (l ++ a :: y) (l ++ b :: z) = -1 := by
  induction l with
  | nil => rw [List.nil_append, List.nil_append, cmpL, if_pos h]
  | cons c l ih => rw [List.cons_append, List.cons_append, cmpL, if_neg (by omega), if_neg (by omega)]; exact ih
theorem com_left : ∀ l m : List Int, comL l m <+: l := by
  intro l
  induction l with
  | nil => intro m; simp [comL]
  | cons a l ih =>
    intro m
    cases m with
    | nil => simp [comL]
    | cons b m =>
      rw [comL]
      split
      · exact (List.cons_prefix_cons).2 ⟨rfl, ih m⟩
      · exact List.nil_prefix
theorem com_comm : ∀ l m : List Int, comL l m = comL m l := by
  intro l
  induction l with
  | nil => intro m; cases m <;> rfl
  | cons a l ih =>
    intro m
    cases m with
    | nil => rfl
    | cons b m =>
      rw [comL, comL]
      by_cases h : a = b
      · subst h; rw [if_pos rfl, if_pos rfl, ih m]
      · rw [if_neg h, if_neg (fun e => h e.symm)]
theorem com_right (l m : List Int) : comL l m <+: m := by rw [com_comm]; exact com_left m l

def intL (l : List Nat) : List Int := l.map fun (x : Nat) => (x : Int)
theorem intL_prefix {l m : List Nat} : intL l <+: intL m ↔ l <+: m := by
  constructor
  · rintro ⟨r, h⟩
    have hl : (intL m).take l.length = intL l := by rw [← h, List.take_left' (by simp [intL])]
    have h2 : m.take l.length = l := by
      unfold intL at hl
      rw [← List.map_take] at hl
      exact (List.map_inj_right (fun (a b : Nat) (h : (a : Int) = (b : Int)) => by omega)).1 hl
    rw [← h2]
    exact List.take_prefix _ _
  · rintro ⟨r, rfl⟩
    exact ⟨intL r, by simp [intL]⟩
/-- Nodes stand in the order of their paths. -/
theorem cmp_path {t : List Node} (ht : Tree t) : ∀ j i, i < j → j < t.length → cmpL (intL (pathN t i)) (intL (pathN t j)) = -1 := by
  intro j
  induction j using Nat.strongRecOn with
  | _ j ih =>
    intro i hij hj
    obtain ⟨b, m, hu, hb, hm⟩ := up_kid ht (by omega) hj
    have hpj := path_kid ht (by omega) hm
    have ej : intL (pathN t j) = intL (pathN t b) ++ [(m : Int)] := by rw [hpj]; simp [intL]
    rw [ej]
    by_cases h : i < b
    · exact cmp_less_more _ _ _ (ih b hb i h (by omega))
    · by_cases e : i = b
      · subst e; exact cmp_ext _ _ _
      · have hbl : b < t.length := by omega
        have hjb := (upN_spec j b hu).1
        obtain ⟨n, k, hk, hki, hik⟩ : ∃ n k : Nat, (kidsL t b)[n]? = some k ∧ k ≤ i ∧ i < k + sz t k := by
          apply Classical.byContradiction
          intro hc
          refine kids_hit ht hbl (i := i) (by omega) _ (b + 1) (Nat.le_refl _) (by omega) (by omega) (fun x hx => ?_)
          apply Classical.byContradiction
          intro h'
          have hx2 : x ∈ kidsL t b := hx
          obtain ⟨p, hp⟩ := List.mem_iff_getElem?.1 hx2
          -- the first kid that does not end ahead of i
          have hex : ∃ q : Nat, ∃ y : Nat, (kidsL t b)[q]? = some y ∧ i < y + sz t y := ⟨p, x, hp, by omega⟩
          obtain ⟨q, hq⟩ := hex
          induction q using Nat.strongRecOn with
          | _ q ihq =>
            by_cases hs : ∃ q' : Nat, q' < q ∧ ∃ y : Nat, (kidsL t b)[q']? = some y ∧ i < y + sz t y
            · obtain ⟨q', hq', hy'⟩ := hs
              exact ihq q' hq' hy'
            · obtain ⟨y, hy, hiy⟩ := hq
              have hall : ∀ m y, m < q → (kidsL t b)[m]? = some y → y + sz t y ≤ i := fun m y hm hy => by
                apply Classical.byContradiction
                intro h''
                exact hs ⟨m, hm, y, hy, by omega⟩
              obtain ⟨k', hk', hle, _⟩ := kids_at ht hbl (by omega) (by omega) hall (by have := (List.getElem?_eq_some_iff.1 hy).1; omega)
              rw [hy] at hk'
              cases hk'
              exact hc ⟨q, y, hy, hle, hiy⟩
        have hpk := path_kid ht hbl hk
        obtain ⟨r, hr⟩ := path_under ht (k := k) i (by omega) hki hik
        have ei : intL (pathN t i) = intL (pathN t b) ++ (n : Int) :: intL r := by rw [← hr, hpk]; simp [intL]
        rw [ei]
        refine cmp_at _ ?_ _ _
        -- the kids rise
        have hnm : n ≠ m := by
          intro e; subst e
          rw [hk] at hm
          cases hm
          omega
        apply Classical.byContradiction
        intro hge
        have hmn : m < n := by omega
        have hmk : ∀ p y, p < n → (kidsL t b)[p]? = some y → y < k := by
          intro p y hp hy
          have hsub := List.pairwise_iff_getElem.1 (kidsL_rise t b) p n (List.getElem?_eq_some_iff.1 hy).1 (List.getElem?_eq_some_iff.1 hk).1 hp
          rw [(List.getElem?_eq_some_iff.1 hy).2, (List.getElem?_eq_some_iff.1 hk).2] at hsub
          exact hsub
        have := hmk m j hmn hm
        omega
theorem cmp_paths {t : List Node} (ht : Tree t) {i j : Nat} (hi : i < t.length) (hj : j < t.length) : (cmpL (intL (pathN t i)) (intL (pathN t j)) < 0 ↔ i < j) ∧ (cmpL (intL (pathN t i)) (intL (pathN t j)) = 0 ↔ i = j) := by
  rcases Nat.lt_trichotomy i j with h | h | h
  · rw [cmp_path ht j i h hj]; exact ⟨by omega, by omega⟩
  · subst h; rw [cmp_self]; exact ⟨by omega, by omega⟩
  · rw [cmp_turn, cmp_path ht i j h hi]; exact ⟨by omega, by omega⟩

/-! ### Where a path leads -/
def goPath (t : List Node) : Nat → List Int → Option Nat
  | at_, [] => some at_
  | at_, n :: l => if 0 ≤ n ∧ n < (kidsL t at_).length then goPath t ((kidsL t at_).getD n.toNat 0) l else none
noncomputable def findT (t : List Node) (l : List Int) : Int × Bool := if treeB t = true then (match goPath t 0 l with | some i => ((i : Int), true) | none => (0, false)) else (0, false)
theorem goPath_append (t : List Node) : ∀ (l m : List Int) (a b : Nat), goPath t a l = some b → goPath t a (l ++ m) = goPath t b m := by
  intro l
  induction l with
  | nil => intro m a b h; simp [goPath] at h; subst h; rfl
  | cons n l ih =>
    intro m a b h
    rw [goPath] at h
    rw [List.cons_append, goPath]
    split at h
    · rename_i hc; rw [if_pos hc]; exact ih m _ _ h
    · cases h
/-- A node's path leads to it. -/
theorem goPath_path {t : List Node} (ht : Tree t) : ∀ i, i < t.length → goPath t 0 (intL (pathN t i)) = some i := by
  intro i
  induction i using Nat.strongRecOn with
  | _ i ih =>
    intro hi
    by_cases h0 : i = 0
    · subst h0; rw [path_zero]; rfl
    · obtain ⟨a, n, hu, ha, hn⟩ := up_kid ht (by omega) hi
      have hpk := path_kid ht (by omega) hn
      have hnl := (List.getElem?_eq_some_iff.1 hn).1
      have e : intL (pathN t i) = intL (pathN t a) ++ [(n : Int)] := by rw [hpk]; simp [intL]
      rw [e, goPath_append t _ _ 0 a (ih a ha (by omega)), goPath, if_pos ⟨by omega, by omega⟩, Int.toNat_natCast, List.getD_eq_getElem?_getD, hn]
      rfl
theorem findT_path {t : List Node} (ht : Tree t) {i : Nat} (hi : i < t.length) : findT t (intL (pathN t i)) = ((i : Int), true) := by
  unfold findT
  rw [if_pos (treeB_iff.2 ht), goPath_path ht i hi]
end Go.Proofs.YtdbbjlphlbndkaaDoor.T
