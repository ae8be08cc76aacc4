/-
  Least parts (plain): a part of a rule that has one ends, and is as long as is told.
-/
import Derived.Test.YtmmhkjdnejeooaaDeriveK
import Derived.Test.YtmmhkjdnejeooaaDeriveQ
namespace Go.Proofs.Ytmmhkjdnejeooaa.T
open Go.RowKit Go.Shelf

/-- How many nodes items have. -/
def sumI (S : List Int) : List Item → Int
  | [] => 0
  | y :: l => (if y.rule = false then 1 else szI S y.n) + sumI S l
theorem countF_sum {S : List Int} : ∀ (l : List Item) (n : Int), 1 ≤ n → 0 ≤ countF S n l → countF S n l < capD → countF S n l = n + sumI S l := by
  intro l
  induction l with
  | nil => intro n _ _ _; unfold countF sumI; omega
  | cons y l ih =>
    intro n h1 h2 h3
    rw [countF] at h2 h3 ⊢
    rw [sumI]
    split at h2
    · rename_i hy
      rw [if_pos hy] at h3 ⊢
      rw [if_pos hy, ih (n + 1) (by omega) h2 h3]
      omega
    · rename_i hy
      rw [if_neg hy] at h3 ⊢
      rw [if_neg hy]
      split at h2
      · omega
      · rename_i hs
        rw [if_neg hs] at h3 ⊢
        have hlow := countF_low l _ (by unfold capD; omega) h2
        have e : min (n + szI S y.n) capD = n + szI S y.n := by unfold capD at *; omega
        rw [e] at h2 h3 ⊢
        rw [ih _ (by omega) h2 h3]
        omega
section
variable {ps : List Prod} {n : Nat} {S : List Int} (hl : ∀ p ∈ ps, 0 ≤ p.left ∧ p.left < (n : Int)) (hru : ∀ p ∈ ps, ∀ y ∈ p.right, y.rule = true → 0 ≤ y.n ∧ y.n < (n : Int)) (hS1 : ReachS ps n S) (hS2 : Settled ps S)
include hl hS1 hS2 in
/-- A rule that has a size has a production that makes it so: the first one. -/
theorem by_some {r : Nat} (hr : r < n) (h : 0 ≤ szI S r) : ∃ (j : Nat) (p : Prod), (byD ps S)[r]? = some (j : Int) ∧ ps[j]? = some p ∧ p.left = (r : Int) ∧ countP S p = szI S r ∧ ∀ i q, i < j → ps[i]? = some q → q.left = (r : Int) → countP S q ≠ szI S r := by
  have hSl := reachS_len hS1
  have hbl : (byD ps S).length = n := (byK_len _).trans hSl
  rcases by_at (ps := ps) (S := S) (fun p hp => by rw [hSl]; exact hl p hp) ps.length (Nat.le_refl _) r (by omega) with ⟨_, h2⟩ | ⟨j, p, h1, h2, h3, h4, h5, h6, h7⟩
  · exfalso
    obtain ⟨p, hp, hpl, hpc⟩ := settled_wit hl hS1 hS2 (r := (r : Int)) (by omega) h
    obtain ⟨j, hj, e⟩ := List.mem_iff_getElem.1 hp
    exact h2 j p hj (by rw [List.getElem?_eq_getElem hj, e]) hpl ⟨by omega, hpc⟩
  · refine ⟨j, p, ?_, h2, h4, h6, fun i q a b c e => h7 i q a b c ⟨by omega, e⟩⟩
    have hx := List.getElem?_eq_getElem (show r < (byD ps S).length by omega)
    have := szI_at hx
    rw [show szI (byD ps S) r = (j : Int) from h3] at this
    rw [hx, this]
include hl hS1 hS2 in
theorem by_neg {r : Nat} (hr : r < n) : 0 ≤ szI (byD ps S) r ↔ 0 ≤ szI S r := by
  constructor
  · intro h
    have hSl := reachS_len hS1
    rcases by_at (ps := ps) (S := S) (fun p hp => by rw [hSl]; exact hl p hp) ps.length (Nat.le_refl _) r (by omega) with ⟨h1, _⟩ | ⟨j, p, _, _, _, _, h5, h6, _⟩
    · have h1 : szI (byD ps S) r = -1 := h1
      omega
    · omega
  · intro h
    obtain ⟨j, p, h1, _⟩ := by_some hl hS1 hS2 hr h
    rw [szI_at h1]; omega
include hl hru hS1 hS2 in
theorem part_ok : ∀ (m : Nat) (y : Item), y.rule = true → 0 ≤ y.n → y.n < n → szI S y.n = (m : Int) → m ≤ 65536 → ∀ f, m < f → PartOk ps (byD ps S) f y ∧ (partL ps (byD ps S) f y).length = m := by
  intro m
  induction m using Nat.strongRecOn with
  | _ m ih =>
    intro y hy h0 h1 hs hm f hf
    obtain ⟨r, hr⟩ : ∃ r : Nat, y.n = (r : Int) := ⟨y.n.toNat, by omega⟩
    rw [hr] at hs h1
    obtain ⟨j, p, hb, hp, hpl, hpc, _⟩ := by_some hl hS1 hS2 (r := r) (by omega) (by omega)
    obtain ⟨f, rfl⟩ : ∃ g, f = g + 1 := ⟨f - 1, by omega⟩
    have hpm := List.mem_of_getElem? hp
    have hc0 : 0 ≤ countF S 1 p.right := by show 0 ≤ countP S p; omega
    have hcc : countF S 1 p.right < capD := by show countP S p < capD; unfold capD; omega
    have hsum := countF_sum p.right 1 (by decide) hc0 hcc
    have hparts := countF_parts p.right 1 (by decide) hc0
    have hm1 : (m : Int) = 1 + sumI S p.right := by rw [← hsum]; show (m : Int) = countP S p; omega
    have hkid : ∀ z ∈ p.right, PartOk ps (byD ps S) f z ∧ ((partL ps (byD ps S) f z).length : Int) = (if z.rule = false then 1 else szI S z.n) := by
      intro z hz
      have hlow := countF_low p.right 1 (by decide) hc0
      have hm2 : 1 ≤ m := by
        have e : countF S 1 p.right = (m : Int) := by show countP S p = _; omega
        unfold capD at hlow; omega
      by_cases hzr : z.rule = true
      · have a1 := hparts.1 z hz hzr
        have a2 := hparts.2 hcc z hz hzr
        obtain ⟨b1, b2⟩ := hru p hpm z hz hzr
        have e : countF S 1 p.right = (m : Int) := by show countP S p = _; omega
        obtain ⟨k, hk⟩ : ∃ k : Nat, szI S z.n = (k : Int) := ⟨(szI S z.n).toNat, by omega⟩
        obtain ⟨c1, c2⟩ := ih k (by omega) z hzr b1 b2 hk (by omega) f (by omega)
        refine ⟨c1, ?_⟩
        rw [if_neg (by rw [hzr]; decide), c2, hk]
      · have hzf : z.rule = false := by simpa using hzr
        obtain ⟨f', rfl⟩ : ∃ g, f = g + 1 := ⟨f - 1, by omega⟩
        exact ⟨.inl hzf, by rw [partL, if_pos hzf, if_pos hzf]; rfl⟩
    have hflat : ∀ (l : List Item), (∀ z ∈ l, ((partL ps (byD ps S) f z).length : Int) = (if z.rule = false then 1 else szI S z.n)) → ((l.map (partL ps (byD ps S) f)).flatten.length : Int) = sumI S l := by
      intro l
      induction l with
      | nil => intro _; rfl
      | cons z l ih2 =>
        intro h
        rw [List.map_cons, List.flatten_cons, List.length_append, sumI, ← h z List.mem_cons_self, ← ih2 (fun x hx => h x (List.mem_cons_of_mem _ hx))]
        omega
    have hfl := hflat p.right (fun z hz => (hkid z hz).2)
    have hlen : ∀ (l : List Item), (∀ z ∈ l, 1 ≤ (if z.rule = false then (1 : Int) else szI S z.n)) → (l.length : Int) ≤ sumI S l := by
      intro l
      induction l with
      | nil => intro _; unfold sumI; simp
      | cons z l ih2 =>
        intro h
        have := h z List.mem_cons_self
        have := ih2 (fun x hx => h x (List.mem_cons_of_mem _ hx))
        rw [sumI, List.length_cons]
        omega
    have hpos : ∀ z ∈ p.right, 1 ≤ (if z.rule = false then (1 : Int) else szI S z.n) := by
      intro z hz
      have h9 := (hkid z hz).1
      rw [← (hkid z hz).2]
      have : 0 < (partL ps (byD ps S) f z).length := by
        cases f with
        | zero => cases h9
        | succ f =>
          rcases h9 with e | ⟨r9, j9, p9, e1, e2, e3, e4, _⟩
          · rw [partL, if_pos e]; simp
          · rw [partL, if_neg (by rw [e1]; decide), e2, szI_at e3, Int.toNat_natCast, e4]
            unfold oneOf
            simp
      omega
    have hpl2 := hlen p.right hpos
    refine ⟨.inr ⟨r, j, p, hy, hr, hb, hp, by omega, fun z hz => (hkid z hz).1, by omega⟩, ?_⟩
    rw [partL, if_neg (by rw [hy]; decide), hr, szI_at hb, Int.toNat_natCast, hp]
    show (oneOf (madeN (j : Int)) (p.right.map (partL ps (byD ps S) f))).length = m
    unfold oneOf
    rw [List.length_cons]
    omega
end
end Go.Proofs.Ytmmhkjdnejeooaa.T
