/-
  Rules that come to nothing, to something, and are come to: what is asked again and again until it brings no news. Plain.
-/
import Derived.Test.YtmmhkjdnejeooaaG4
namespace Go.Proofs.Ytmmhkjdnejeooaa
open Go.RowKit Go.Shelf

/-- Whether a rule is in a set. -/
def atB (s : List Bool) (z : Int) : Bool := s.getD z.toNat false
def leB (s t : List Bool) : Prop := s.length = t.length ∧ ∀ i : Nat, s[i]? = some true → t[i]? = some true
theorem leB_refl (s : List Bool) : leB s s := ⟨rfl, fun _ h => h⟩
theorem leB_trans {s t u : List Bool} (h : leB s t) (k : leB t u) : leB s u := ⟨h.1.trans k.1, fun i hi => k.2 i (h.2 i hi)⟩
theorem leB_antisymm {s t : List Bool} (h : leB s t) (k : leB t s) : s = t := by
  apply List.ext_getElem?
  intro i
  by_cases hi : i < s.length
  · have hs := List.getElem?_eq_getElem hi
    have ht := List.getElem?_eq_getElem (show i < t.length by have := h.1; omega)
    have h1 := h.2 i
    have h2 := k.2 i
    rw [hs, ht] at h1 h2 ⊢
    cases hs' : s[i] <;> cases ht' : t[i]'(by have := h.1; omega) <;> simp_all
  · rw [List.getElem?_eq_none (by omega), List.getElem?_eq_none (by have := h.1; omega)]
def trues (s : List Bool) : Nat := s.countP id
theorem trues_le (s : List Bool) : trues s ≤ s.length := List.countP_le_length
theorem trues_mono : ∀ {s t : List Bool}, leB s t → trues s ≤ trues t ∧ (trues s = trues t → s = t) := by
  intro s
  induction s with
  | nil =>
    intro t h
    have : t = [] := List.eq_nil_of_length_eq_zero h.1.symm
    subst this
    exact ⟨Nat.le_refl _, fun _ => rfl⟩
  | cons a s ih =>
    intro t h
    match t, h with
    | b :: t, h =>
      have hst : leB s t := ⟨by have := h.1; simpa using this, fun i hi => by have := h.2 (i + 1); simpa using this (by simpa using hi)⟩
      obtain ⟨h1, h2⟩ := ih hst
      have h0 := h.2 0
      simp only [List.getElem?_cons_zero, Option.some.injEq] at h0
      unfold trues at *
      rw [List.countP_cons, List.countP_cons]
      cases a <;> cases b
      · simp only [id, Bool.false_eq_true, if_false, Nat.add_zero]
        exact ⟨h1, fun e => by rw [h2 e]⟩
      · simp only [id, Bool.false_eq_true, if_false, if_true, Nat.add_zero]
        exact ⟨by omega, fun e => by omega⟩
      · exact absurd (h0 rfl) (by decide)
      · simp only [id, if_true]
        exact ⟨by omega, fun e => by rw [h2 (by omega)]⟩
theorem set_le (s : List Bool) (i : Nat) : leB s (s.set i true) := ⟨by simp, fun j hj => by
  rw [List.getElem?_set]
  split
  · rename_i e
    subst e
    have := (List.getElem?_eq_some_iff.1 hj).1
    rw [if_pos this]
  · exact hj⟩
theorem set_same {s : List Bool} {i : Nat} (h : s[i]? = some true) : s.set i true = s := by
  apply List.ext_getElem?
  intro j
  rw [List.getElem?_set]
  split
  · rename_i e
    subst e
    rw [if_pos (List.getElem?_eq_some_iff.1 h).1, h]
  · rfl
theorem atB_iff {s : List Bool} {z : Int} : atB s z = true ↔ s[z.toNat]? = some true := by
  unfold atB
  rw [List.getD_eq_getElem?_getD]
  cases s[z.toNat]? with
  | none => simp
  | some b => simp
theorem atB_mono {s t : List Bool} (h : leB s t) {z : Int} (hz : atB s z = true) : atB t z = true := atB_iff.2 (h.2 _ (atB_iff.1 hz))

/-! ### Passes -/
def passB {α : Type} (f : List Bool → α → List Bool) (ps : List α) (s : List Bool) : List Bool := ps.foldl f s
def passes {α : Type} (f : List Bool → α → List Bool) (ps : List α) : Nat → List Bool → List Bool
  | 0, s => s
  | k + 1, s => passes f ps k (passB f ps s)
theorem pass_le {α : Type} {f : List Bool → α → List Bool} (hf : ∀ s p, leB s (f s p)) (ps : List α) : ∀ s, leB s (passB f ps s) := by
  induction ps with
  | nil => exact leB_refl
  | cons p ps ih => intro s; exact leB_trans (hf s p) (ih (f s p))
theorem pass_fix {α : Type} {f : List Bool → α → List Bool} (hf : ∀ s p, leB s (f s p)) {ps : List α} {s : List Bool} (h : passB f ps s = s) : ∀ p ∈ ps, f s p = s := by
  have key : ∀ (ps : List α) (s t : List Bool), passB f ps s = t → leB t s → ∀ p ∈ ps, f s p = s := by
    intro ps
    induction ps with
    | nil => intro s t _ _ p hp; cases hp
    | cons q ps ih =>
      intro s t h ht p hp
      have h' : passB f ps (f s q) = t := h
      have h1 := hf s q
      have h2 := pass_le hf ps (f s q)
      rw [h'] at h2
      have e : f s q = s := leB_antisymm (leB_trans h2 ht) h1
      rw [List.mem_cons] at hp
      rcases hp with rfl | hp
      · exact e
      · rw [e] at h'
        exact ih s t h' ht p hp
  exact key ps s s h (leB_refl s)
theorem passes_len {α : Type} {f : List Bool → α → List Bool} (hf : ∀ s p, leB s (f s p)) (ps : List α) : ∀ (k : Nat) (s : List Bool), (passes f ps k s).length = s.length := by
  intro k
  induction k with
  | zero => intro s; rfl
  | succ k ih => intro s; unfold passes; rw [ih]; exact (pass_le hf ps s).1.symm
theorem passes_fix {α : Type} {f : List Bool → α → List Bool} (ps : List α) : ∀ (k : Nat) (s : List Bool), passB f ps s = s → passes f ps k s = s := by
  intro k
  induction k with
  | zero => intro s _; rfl
  | succ k ih => intro s h; unfold passes; rw [h]; exact ih s h
theorem passes_end {α : Type} {f : List Bool → α → List Bool} (hf : ∀ s p, leB s (f s p)) (ps : List α) : ∀ (k : Nat) (s : List Bool), s.length < trues s + k → passB f ps (passes f ps k s) = passes f ps k s := by
  intro k
  induction k with
  | zero => intro s h; have := trues_le s; omega
  | succ k ih =>
    intro s h
    by_cases e : passB f ps s = s
    · rw [passes_fix ps (k + 1) s e]; exact e
    · unfold passes
      have h1 := pass_le hf ps s
      have h2 := trues_mono h1
      refine ih _ ?_
      have h3 : trues s ≠ trues (passB f ps s) := fun e' => e (h2.2 e').symm
      have := h1.1
      omega

/-! ### To nothing, to something -/
inductive Grows (g : Gram) (tk : Bool) : Int → Prop
  | mk (p : Prod) (hp : p ∈ g.prods) (h : ∀ x, x ∈ p.right → x.rule = true → Grows g tk x.n) (ht : ∀ x, x ∈ p.right → x.rule = false → tk = true) : Grows g tk p.left
def itemSo (s : List Bool) (tk : Bool) (x : Item) : Bool := if x.rule = true then atB s x.n else tk
def stepG (tk : Bool) (s : List Bool) (p : Prod) : List Bool := if p.right.all (itemSo s tk) = true then s.set p.left.toNat true else s
theorem stepG_le (tk : Bool) (s : List Bool) (p : Prod) : leB s (stepG tk s p) := by
  unfold stepG
  split
  · exact set_le s _
  · exact leB_refl s
noncomputable def growsB (g : Gram) (tk : Bool) : List Bool := (List.range g.rules.length).map fun (i : Nat) => holdsB (Grows g tk (i : Int))
/-- The numbers in a grammar are those of rules and tokens. -/
structure Sound (g : Gram) : Prop where
  left : ∀ p, p ∈ g.prods → 0 ≤ p.left ∧ p.left < g.rules.length
  rule : ∀ p, p ∈ g.prods → ∀ x, x ∈ p.right → x.rule = true → 0 ≤ x.n ∧ x.n < g.rules.length
  start : 0 ≤ g.start ∧ g.start < g.rules.length
def SoundB (g : Gram) (P : Int → Prop) (s : List Bool) : Prop := s.length = g.rules.length ∧ ∀ i : Nat, s[i]? = some true → P i
theorem stepG_sound {g : Gram} (hs : Sound g) {tk : Bool} {s : List Bool} {p : Prod} (hp : p ∈ g.prods) (h : SoundB g (Grows g tk) s) : SoundB g (Grows g tk) (stepG tk s p) := by
  unfold stepG
  split
  · rename_i ha
    refine ⟨by rw [List.length_set]; exact h.1, fun i hi => ?_⟩
    rw [List.getElem?_set] at hi
    split at hi
    · rename_i e
      have hl := hs.left p hp
      have he : (i : Int) = p.left := by omega
      rw [he]
      rw [List.all_eq_true] at ha
      refine Grows.mk p hp (fun x hx hr => ?_) (fun x hx hr => ?_)
      · have := ha x hx
        unfold itemSo at this
        rw [if_pos hr] at this
        have h2 := h.2 _ (atB_iff.1 this)
        have h3 := hs.rule p hp x hx hr
        rwa [show ((x.n.toNat : Nat) : Int) = x.n by omega] at h2
      · have := ha x hx
        unfold itemSo at this
        rwa [if_neg (by rw [hr]; decide)] at this
    · exact h.2 i hi
  · exact h
theorem pass_sound {g : Gram} {P : Int → Prop} {f : List Bool → Prod → List Bool} (hf : ∀ s p, p ∈ g.prods → SoundB g P s → SoundB g P (f s p)) : ∀ (ps : List Prod), (∀ p ∈ ps, p ∈ g.prods) → ∀ s, SoundB g P s → SoundB g P (passB f ps s) := by
  intro ps
  induction ps with
  | nil => intro _ s h; exact h
  | cons p ps ih => intro hp s h; exact ih (fun q hq => hp q (List.mem_cons_of_mem _ hq)) _ (hf s p (hp p (List.mem_cons_self ..)) h)
theorem passes_sound {g : Gram} {P : Int → Prop} {f : List Bool → Prod → List Bool} (hf : ∀ s p, p ∈ g.prods → SoundB g P s → SoundB g P (f s p)) : ∀ (k : Nat) s, SoundB g P s → SoundB g P (passes f g.prods k s) := by
  intro k
  induction k with
  | zero => intro s h; exact h
  | succ k ih => intro s h; exact ih _ (pass_sound hf g.prods (fun _ h => h) s h)
/-- A set that is sound and in which nothing is missing is the one. -/
theorem closed_eq {g : Gram} {P : Int → Prop} {s : List Bool} (h : SoundB g P s) (hc : ∀ i : Nat, i < g.rules.length → P i → s[i]? = some true) : s = (List.range g.rules.length).map fun (i : Nat) => holdsB (P (i : Int)) := by
  apply List.ext_getElem?
  intro i
  by_cases hi : i < g.rules.length
  · have hs := List.getElem?_eq_getElem (show i < s.length by rw [h.1]; exact hi)
    rw [List.getElem?_map, List.getElem?_range hi]
    simp only [Option.map_some]
    by_cases hp : P i
    · rw [hc i hi hp, holdsB_true hp]
    · rw [holdsB_false hp, hs]
      congr 1
      cases hb : s[i]'(by rw [h.1]; exact hi)
      · rfl
      · exact absurd (h.2 i (by rw [hs, hb])) hp
  · rw [List.getElem?_eq_none (by rw [h.1]; omega), List.getElem?_eq_none (by simp; omega)]
theorem grows_fix {g : Gram} (hs : Sound g) {tk : Bool} {s : List Bool} (h : SoundB g (Grows g tk) s) (hf : passB (stepG tk) g.prods s = s) : s = growsB g tk := by
  refine closed_eq h (fun i hi hp => ?_)
  have hfix := pass_fix (stepG_le tk) hf
  have key : ∀ z, Grows g tk z → s[z.toNat]? = some true := by
    intro z hz
    induction hz with
    | mk p hp h1 ht ih =>
      have e := hfix p hp
      unfold stepG at e
      have hall : p.right.all (itemSo s tk) = true := by
        rw [List.all_eq_true]
        intro x hx
        unfold itemSo
        cases hr : x.rule
        · rw [if_neg (by decide)]; exact ht x hx hr
        · rw [if_pos rfl]; exact atB_iff.2 (ih x hx hr)
      rw [if_pos hall] at e
      have hl := hs.left p hp
      rw [← e, List.getElem?_set, if_pos rfl, if_pos (by rw [h.1]; omega)]
  have := key _ hp
  simpa using this
theorem start_sound (g : Gram) (P : Int → Prop) : SoundB g P (List.replicate g.rules.length false) := ⟨by simp, fun i hi => by
  rw [List.getElem?_replicate] at hi
  split at hi
  · cases hi
  · cases hi⟩
theorem grown_all {g : Gram} (hs : Sound g) (tk : Bool) : passes (stepG tk) g.prods (g.rules.length + 1) (List.replicate g.rules.length false) = growsB g tk := by
  refine grows_fix hs (passes_sound (fun s p hp h => stepG_sound hs hp h) _ _ (start_sound g _)) ?_
  refine passes_end (stepG_le tk) _ _ _ ?_
  simp; omega

/-! ### Come to -/
inductive Reach (g : Gram) : Int → Prop
  | start : Reach g g.start
  | step (p : Prod) (hp : p ∈ g.prods) (h : Reach g p.left) (x : Item) (hx : x ∈ p.right) (hr : x.rule = true) : Reach g x.n
def reachX (l : Int) (s : List Bool) (x : Item) : List Bool := if (atB s l && x.rule) = true then s.set x.n.toNat true else s
def stepR (s : List Bool) (p : Prod) : List Bool := p.right.foldl (reachX p.left) s
theorem reachX_le (l : Int) (s : List Bool) (x : Item) : leB s (reachX l s x) := by
  unfold reachX
  split
  · exact set_le s _
  · exact leB_refl s
theorem foldX_le (l : Int) : ∀ (r : List Item) (s : List Bool), leB s (r.foldl (reachX l) s) := by
  intro r
  induction r with
  | nil => intro s; exact leB_refl s
  | cons x r ih => intro s; exact leB_trans (reachX_le l s x) (ih _)
theorem stepR_le (s : List Bool) (p : Prod) : leB s (stepR s p) := foldX_le p.left p.right s
noncomputable def reachB (g : Gram) : List Bool := (List.range g.rules.length).map fun (i : Nat) => holdsB (Reach g (i : Int))
theorem reachX_sound {g : Gram} (hs : Sound g) {s : List Bool} {p : Prod} (hp : p ∈ g.prods) {x : Item} (hx : x ∈ p.right) (h : SoundB g (Reach g) s) : SoundB g (Reach g) (reachX p.left s x) := by
  unfold reachX
  split
  · rename_i ha
    rw [Bool.and_eq_true] at ha
    refine ⟨by rw [List.length_set]; exact h.1, fun i hi => ?_⟩
    rw [List.getElem?_set] at hi
    split at hi
    · rename_i e
      have h3 := hs.rule p hp x hx ha.2
      have he : (i : Int) = x.n := by omega
      rw [he]
      have hl := hs.left p hp
      have h2 := h.2 _ (atB_iff.1 ha.1)
      rw [show ((p.left.toNat : Nat) : Int) = p.left by omega] at h2
      exact Reach.step p hp h2 x hx ha.2
    · exact h.2 i hi
  · exact h
theorem stepR_sound {g : Gram} (hs : Sound g) {s : List Bool} {p : Prod} (hp : p ∈ g.prods) (h : SoundB g (Reach g) s) : SoundB g (Reach g) (stepR s p) := by
  have key : ∀ (r : List Item), (∀ x ∈ r, x ∈ p.right) → ∀ s, SoundB g (Reach g) s → SoundB g (Reach g) (r.foldl (reachX p.left) s) := by
    intro r
    induction r with
    | nil => intro _ s h; exact h
    | cons x r ih => intro hr s h; exact ih (fun y hy => hr y (List.mem_cons_of_mem _ hy)) _ (reachX_sound hs hp (hr x (List.mem_cons_self ..)) h)
  exact key p.right (fun _ h => h) s h
theorem foldX_has (l : Int) : ∀ (r : List Item) (s : List Bool) (x : Item), x ∈ r → x.rule = true → atB s l = true → x.n.toNat < s.length → (r.foldl (reachX l) s)[x.n.toNat]? = some true := by
  intro r
  induction r with
  | nil => intro s x h; cases h
  | cons y r ih =>
    intro s x h hr hl hn
    rw [List.foldl_cons]
    rw [List.mem_cons] at h
    rcases h with rfl | h
    · refine (foldX_le l r _).2 _ ?_
      unfold reachX
      rw [if_pos (by rw [hl, hr]; rfl), List.getElem?_set, if_pos rfl, if_pos hn]
    · exact ih _ x h hr (atB_mono (reachX_le l s y) hl) (by rw [← (reachX_le l s y).1]; exact hn)
theorem reach_fix {g : Gram} (hs : Sound g) {s : List Bool} (h : SoundB g (Reach g) s) (h0 : s[g.start.toNat]? = some true) (hf : passB stepR g.prods s = s) : s = reachB g := by
  refine closed_eq h (fun i hi hp => ?_)
  have hfix := pass_fix stepR_le hf
  have key : ∀ z, Reach g z → s[z.toNat]? = some true := by
    intro z hz
    induction hz with
    | start => exact h0
    | step p hp h1 x hx hr ih =>
      have e := hfix p hp
      have h3 := hs.rule p hp x hx hr
      have := foldX_has p.left p.right s x hx hr (atB_iff.2 ih) (by rw [h.1]; omega)
      unfold stepR at e
      rwa [e] at this
  have := key _ hp
  simpa using this
theorem reach_start {g : Gram} (hs : Sound g) : SoundB g (Reach g) ((List.replicate g.rules.length false).set g.start.toNat true) ∧ ((List.replicate g.rules.length false).set g.start.toNat true)[g.start.toNat]? = some true := by
  have h1 := hs.start
  refine ⟨⟨by simp, fun i hi => ?_⟩, by rw [List.getElem?_set, if_pos rfl, if_pos (by simp; omega)]⟩
  rw [List.getElem?_set] at hi
  split at hi
  · rename_i e
    rw [show (i : Int) = g.start by omega]
    exact Reach.start
  · exact (start_sound g (Reach g)).2 i hi
theorem reached_all {g : Gram} (hs : Sound g) : passes stepR g.prods (g.rules.length + 1) ((List.replicate g.rules.length false).set g.start.toNat true) = reachB g := by
  have h0 := reach_start hs
  refine reach_fix hs (passes_sound (fun s p hp h => stepR_sound hs hp h) _ _ h0.1) ?_ ?_
  · have key : ∀ (k : Nat) (s : List Bool), leB s (passes stepR g.prods k s) := by
      intro k
      induction k with
      | zero => intro s; exact leB_refl s
      | succ k ih => intro s; exact leB_trans (pass_le stepR_le g.prods s) (ih _)
    exact (key _ _).2 _ h0.2
  · refine passes_end stepR_le _ _ _ ?_
    simp; omega
theorem RightG.sound {g : Gram} (h : RightG g) : Sound g := by
  refine ⟨fun p hp => ?_, fun p hp x hx hr => ?_, ?_⟩
  · obtain ⟨j, hj, e⟩ := List.mem_iff_getElem.1 hp
    exact h.left (by rw [List.getElem?_eq_getElem hj, e])
  · obtain ⟨j, hj, e⟩ := List.mem_iff_getElem.1 hp
    have hpj : g.prods[j]? = some p := by rw [List.getElem?_eq_getElem hj, e]
    have := h.prod j hj
    unfold prodD at this
    rw [hpj] at this
    dsimp only at this
    unfold prodErr at this
    split at this
    · cases this
    · split at this
      · cases this
      · rw [first0_kind] at this
        obtain ⟨k, hk, e2⟩ := List.mem_iff_getElem.1 hx
        have hkx : p.right[k]? = some x := by rw [List.getElem?_eq_getElem hk, e2]
        have h2 := this k hk
        unfold itemD at h2
        rw [hkx] at h2
        dsimp only at h2
        by_cases e3 : itemErr g x ≠ 0
        · rw [if_pos e3] at h2; exact absurd h2 e3
        · have e4 : itemErr g x = 0 := Decidable.not_not.1 e3
          unfold itemErr at e4
          rw [hr] at e4
          by_cases c : x.n < 0 ∨ (if true = true then (g.rules.length : Int) else g.toks.length) ≤ x.n
          · rw [if_pos c] at e4; simp at e4
          · rw [if_pos rfl] at c; omega
  · have := h.start
    unfold startD at this
    split at this
    · cases this
    · omega
end Go.Proofs.Ytmmhkjdnejeooaa
