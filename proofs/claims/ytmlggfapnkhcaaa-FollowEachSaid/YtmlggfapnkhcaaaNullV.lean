/-
  Rules that come to nothing and to something, of their productions; with more productions. Plain.
-/
import Derived.Test.YtmlggfapnkhcaaaNullJ
import Derived.Test.YtmlggfapnkhcaaaNullS
namespace Go.Proofs.Ytmlggfapnkhcaaa
open Go.RowKit Go.Shelf

theorem growsB_get (g : Gram) (tk : Bool) {i : Nat} (hi : i < g.rules.length) : (growsB g tk)[i]? = some (holdsB (Grows g tk (i : Int))) := by
  unfold growsB
  rw [List.getElem?_map, List.getElem?_range hi]
  rfl
theorem reachB_get (g : Gram) {i : Nat} (hi : i < g.rules.length) : (reachB g)[i]? = some (holdsB (Reach g (i : Int))) := by
  unfold reachB
  rw [List.getElem?_map, List.getElem?_range hi]
  rfl
theorem reachB_len (g : Gram) : (reachB g).length = g.rules.length := by simp [reachB]
theorem atB_grows {g : Gram} {tk : Bool} {z : Int} (h : 0 ≤ z ∧ z < g.rules.length) : atB (growsB g tk) z = true ↔ Grows g tk z := by
  obtain ⟨m, rfl⟩ : ∃ m : Nat, z = (m : Int) := ⟨z.toNat, by omega⟩
  rw [atB_iff, Int.toNat_natCast, growsB_get g tk (by omega), Option.some.injEq, holdsB_iff]
theorem atB_reach {g : Gram} {z : Int} (h : 0 ≤ z ∧ z < g.rules.length) : atB (reachB g) z = true ↔ Reach g z := by
  obtain ⟨m, rfl⟩ : ∃ m : Nat, z = (m : Int) := ⟨z.toNat, by omega⟩
  rw [atB_iff, Int.toNat_natCast, reachB_get g (by omega), Option.some.injEq, holdsB_iff]
theorem grows_iff {g : Gram} (hs : Sound g) {tk : Bool} {z : Int} : Grows g tk z ↔ ∃ p, p ∈ g.prods ∧ p.left = z ∧ p.right.all (itemSo (growsB g tk) tk) = true := by
  constructor
  · intro h
    cases h with
    | mk p hp h1 ht =>
      refine ⟨p, hp, rfl, ?_⟩
      rw [List.all_eq_true]
      intro x hx
      unfold itemSo
      cases hr : x.rule
      · rw [if_neg (by decide)]; exact ht x hx hr
      · rw [if_pos rfl]; exact (atB_grows (hs.rule p hp x hx hr)).2 (h1 x hx hr)
  · rintro ⟨p, hp, rfl, h⟩
    rw [List.all_eq_true] at h
    refine Grows.mk p hp (fun x hx hr => ?_) (fun x hx hr => ?_)
    · have := h x hx
      unfold itemSo at this
      rw [if_pos hr] at this
      exact (atB_grows (hs.rule p hp x hx hr)).1 this
    · have := h x hx
      unfold itemSo at this
      rw [if_neg (by rw [hr]; decide)] at this
      exact this
/-- One production's share in a set. -/
def accB (f : Prod → Bool) (s : List Bool) (p : Prod) : List Bool := s.set p.left.toNat (atB s p.left || f p)
theorem accB_len (f : Prod → Bool) (s : List Bool) (p : Prod) : (accB f s p).length = s.length := by unfold accB; simp
theorem accs_len (f : Prod → Bool) (ps : List Prod) : ∀ s : List Bool, (ps.foldl (accB f) s).length = s.length := by
  induction ps with
  | nil => intro s; rfl
  | cons p ps ih => intro s; rw [List.foldl_cons, ih, accB_len]
theorem accs_at (f : Prod → Bool) {n : Nat} : ∀ (ps : List Prod) (s : List Bool), s.length = n → (∀ p ∈ ps, 0 ≤ p.left ∧ p.left < n) → ∀ i : Nat, i < n →
    ((ps.foldl (accB f) s)[i]? = some true ↔ s[i]? = some true ∨ ∃ p, p ∈ ps ∧ p.left = i ∧ f p = true) := by
  intro ps
  induction ps with
  | nil => intro s _ _ i _; simp
  | cons p ps ih =>
    intro s hs hp i hi
    rw [List.foldl_cons, ih _ (by rw [accB_len]; exact hs) (fun q hq => hp q (List.mem_cons_of_mem _ hq)) i hi]
    have hl := hp p List.mem_cons_self
    have e : (accB f s p)[i]? = some true ↔ s[i]? = some true ∨ p.left = i ∧ f p = true := by
      unfold accB
      rw [List.getElem?_set]
      by_cases e : p.left.toNat = i
      · rw [if_pos e, if_pos (by omega), Option.some.injEq, Bool.or_eq_true, atB_iff, e]
        constructor
        · rintro (h | h)
          · exact .inl h
          · exact .inr ⟨by omega, h⟩
        · rintro (h | ⟨_, h⟩)
          · exact .inl h
          · exact .inr h
      · rw [if_neg e]
        constructor
        · exact .inl
        · rintro (h | ⟨h, _⟩)
          · exact h
          · omega
    rw [e]
    constructor
    · rintro ((h | ⟨h1, h2⟩) | ⟨q, hq, h1, h2⟩)
      · exact .inl h
      · exact .inr ⟨p, List.mem_cons_self, h1, h2⟩
      · exact .inr ⟨q, List.mem_cons_of_mem _ hq, h1, h2⟩
    · rintro (h | ⟨q, hq, h1, h2⟩)
      · exact .inl (.inl h)
      · rw [List.mem_cons] at hq
        rcases hq with rfl | hq
        · exact .inl (.inr ⟨h1, h2⟩)
        · exact .inr ⟨q, hq, h1, h2⟩
theorem acc_grows {g : Gram} (hs : Sound g) (tk : Bool) {f : Prod → Bool} (hf : ∀ p ∈ g.prods, f p = p.right.all (itemSo (growsB g tk) tk)) : g.prods.foldl (accB f) (List.replicate g.rules.length false) = growsB g tk := by
  have hlen : (g.prods.foldl (accB f) (List.replicate g.rules.length false)).length = g.rules.length := by rw [accs_len]; simp
  refine closed_eq ⟨hlen, fun i hi => ?_⟩ (fun i hi hp => ?_)
  · have hil : i < g.rules.length := by have := (List.getElem?_eq_some_iff.1 hi).1; omega
    rcases (accs_at f g.prods _ (by simp) (fun p hp => hs.left p hp) i hil).1 hi with h | ⟨p, hp, h1, h2⟩
    · rw [List.getElem?_replicate, if_pos hil] at h; cases h
    · rw [hf p hp] at h2
      exact (grows_iff hs).2 ⟨p, hp, h1, h2⟩
  · obtain ⟨p, hp', h1, h2⟩ := (grows_iff hs).1 hp
    exact (accs_at f g.prods _ (by simp) (fun p hp => hs.left p hp) i hi).2 (.inr ⟨p, hp', h1, by rw [hf p hp']; exact h2⟩)
theorem RightG.itemIn {g : Gram} (h : RightG g) {p : Prod} (hp : p ∈ g.prods) : itemsIn g p.right = true := by
  unfold itemsIn
  rw [List.all_eq_true]
  intro x hx
  obtain ⟨j, hj, e⟩ := List.mem_iff_getElem.1 hp
  have hpj : g.prods[j]? = some p := by rw [List.getElem?_eq_getElem hj, e]
  have := h.prod j hj
  unfold prodD at this
  rw [hpj] at this
  dsimp only at this
  unfold prodErr at this
  split at this
  · cases this
  · split at this
    · cases this
    · rw [first0_kind] at this
      obtain ⟨k, hk, e2⟩ := List.mem_iff_getElem.1 hx
      have hkx : p.right[k]? = some x := by rw [List.getElem?_eq_getElem hk, e2]
      have h2 := this k hk
      unfold itemD at h2
      rw [hkx] at h2
      dsimp only at h2
      by_cases e3 : itemErr g x ≠ 0
      · rw [if_pos e3] at h2; exact absurd h2 e3
      · have e4 : itemErr g x = 0 := Decidable.not_not.1 e3
        unfold itemErr at e4
        unfold Go.Proofs.Ytmlggfapnkhcaaa.itemIn
        by_cases c : x.n < 0 ∨ (if x.rule = true then (g.rules.length : Int) else g.toks.length) ≤ x.n
        · rw [if_pos c] at e4; simp at e4
        · cases hr : x.rule
          · rw [hr, if_neg (by decide : ¬ (false = true))] at c
            rw [if_neg (by decide : ¬ (false = true)), Bool.and_eq_true, decide_eq_true_iff, decide_eq_true_iff]; omega
          · rw [hr, if_pos rfl] at c
            rw [if_pos rfl, Bool.and_eq_true, decide_eq_true_iff, decide_eq_true_iff]; omega
theorem rightB_RightG {g : Gram} (h : rightB g = true) : RightG g := (right_iff g).1 (by unfold rightB at h; simpa using h)
theorem voidOf_right {g : Gram} (h : rightB g = true) {p : Prod} (hp : p ∈ g.prods) : voidOf g p.right = p.right.all (itemSo (growsB g false) false) := by
  unfold voidOf
  rw [h, (rightB_RightG h).itemIn hp, Bool.true_and, Bool.true_and]
theorem grows_mono {g : Gram} {z : Int} (h : Grows g false z) : Grows g true z := by
  induction h with
  | mk p hp h1 ht ih => exact Grows.mk p hp ih (fun x hx hr => rfl)
theorem grows_le {g : Gram} {i : Nat} (h : (growsB g false)[i]? = some true) : (growsB g true)[i]? = some true := by
  have hi : i < g.rules.length := by have := (List.getElem?_eq_some_iff.1 h).1; rwa [growsB_len] at this
  rw [growsB_get g _ hi, Option.some.injEq, holdsB_iff] at h ⊢
  exact grows_mono h
theorem reach_start_at {g : Gram} (hs : Sound g) : atB (reachB g) g.start = true := (atB_reach hs.start).2 Reach.start
theorem reach_next {g : Gram} (hs : Sound g) {p : Prod} (hp : p ∈ g.prods) {x : Item} (hx : x ∈ p.right) (hr : x.rule = true) (h : atB (reachB g) p.left = true) : atB (reachB g) x.n = true :=
  (atB_reach (hs.rule p hp x hx hr)).2 (Reach.step p hp ((atB_reach (hs.left p hp)).1 h) x hx hr)
/-! ### With more productions -/
theorem grows_more {g h : Gram} (hp : ∀ p ∈ g.prods, p ∈ h.prods) {tk : Bool} {z : Int} (hz : Grows g tk z) : Grows h tk z := by
  induction hz with
  | mk p hp' h1 ht ih => exact Grows.mk p (hp p hp') ih ht
theorem reach_more {g h : Gram} (hp : ∀ p ∈ g.prods, p ∈ h.prods) (hs : g.start = h.start) {z : Int} (hz : Reach g z) : Reach h z := by
  induction hz with
  | start => rw [hs]; exact Reach.start
  | step p hp' _ x hx hr ih => exact Reach.step p (hp p hp') ih x hx hr
theorem growsB_more {g h : Gram} (hp : ∀ p ∈ g.prods, p ∈ h.prods) (hr : g.rules = h.rules) (tk : Bool) {i : Nat} (hi : (growsB g tk)[i]? = some true) : (growsB h tk)[i]? = some true := by
  have hl : i < g.rules.length := by have := (List.getElem?_eq_some_iff.1 hi).1; rwa [growsB_len] at this
  rw [growsB_get g _ hl, Option.some.injEq, holdsB_iff] at hi
  rw [growsB_get h _ (by rw [← hr]; exact hl), holdsB_true (grows_more hp hi)]
theorem reachB_more {g h : Gram} (hp : ∀ p ∈ g.prods, p ∈ h.prods) (hr : g.rules = h.rules) (hs : g.start = h.start) {i : Nat} (hi : (reachB g)[i]? = some true) : (reachB h)[i]? = some true := by
  have hl : i < g.rules.length := by have := (List.getElem?_eq_some_iff.1 hi).1; rwa [reachB_len] at this
  rw [reachB_get g hl, Option.some.injEq, holdsB_iff] at hi
  rw [reachB_get h (by rw [← hr]; exact hl), holdsB_true (reach_more hp hs hi)]
end Go.Proofs.Ytmlggfapnkhcaaa
