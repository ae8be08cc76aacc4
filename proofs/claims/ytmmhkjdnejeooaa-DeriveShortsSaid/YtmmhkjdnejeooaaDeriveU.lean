/-
  Least parts (plain): each is a tree that is clean, and a part of its rule.
-/
import Derived.Test.YtmmhkjdnejeooaaDeriveT
import Derived.Test.YtmmhkjdnejeooaaDeriveD
namespace Go.Proofs.Ytmmhkjdnejeooaa.T
open Go.RowKit Go.Shelf

def Sits (t : List Node) (i : Nat) (l : List Node) : Prop := ∀ k, k < l.length → t[i + k]? = l[k]?
theorem sits_left {t : List Node} {i : Nat} {l m : List Node} (h : Sits t i (l ++ m)) : Sits t i l := fun k hk => by rw [h k (by rw [List.length_append]; omega), List.getElem?_append_left hk]
theorem sits_right {t : List Node} {i : Nat} {l m : List Node} (h : Sits t i (l ++ m)) : Sits t (i + l.length) m := fun k hk => by
  have := h (l.length + k) (by rw [List.length_append]; omega)
  rw [List.getElem?_append_right (by omega), show l.length + k - l.length = k by omega] at this
  rw [← this, Nat.add_assoc]
/-- A node of a part: it fits. -/
def FitQ (g : Gram) (t : List Node) (m : Nat) : Prop := ∃ x, t[m]? = some x ∧ Local x ∧ ((x.kind = 2 ∧ ∃ (j : Nat) (p : Prod), x.n = (j : Int) ∧ g.prods[j]? = some p ∧ rowD g t (kidsL t m) p.right = some []) ∨ (x.kind = 3 ∧ 0 ≤ x.n ∧ x.n < g.toks.length))
def PartC (g : Gram) (y : Item) (l : List Node) : Prop := ∀ (t : List Node) (i : Nat), Sits t i l → 1 ≤ l.length ∧ sz t i = l.length ∧ ofAt g t i y = true ∧ isBad t i = false ∧ ∀ m, i ≤ m → m < i + l.length → m + sz t m ≤ i + l.length ∧ Ok t m ∧ FitQ g t m
theorem parts_sit {g : Gram} {P : Item → List Node} : ∀ (L : List Item), (∀ z ∈ L, PartC g z (P z)) → ∀ (t : List Node) (a : Nat), Sits t a ((L.map P).flatten) →
    rowD g t (kidsFrom t (a + ((L.map P).flatten).length) a) L = some [] ∧ ∀ m, a ≤ m → m < a + ((L.map P).flatten).length → m + sz t m ≤ a + ((L.map P).flatten).length ∧ Ok t m ∧ FitQ g t m := by
  intro L
  induction L with
  | nil =>
    intro _ t a _
    refine ⟨?_, fun m h1 h2 => by simp at h2; omega⟩
    rw [kidsFrom_ge (by simp)]
    rfl
  | cons z L ih =>
    intro h t a hs
    rw [List.map_cons, List.flatten_cons] at hs ⊢
    obtain ⟨c1, c2, c3, c4, c5⟩ := h z List.mem_cons_self t a (sits_left hs)
    obtain ⟨d1, d2⟩ := ih (fun x hx => h x (List.mem_cons_of_mem _ hx)) t (a + (P z).length) (sits_right hs)
    generalize (L.map P).flatten = R at *
    generalize P z = Z at *
    rw [List.length_append, ← Nat.add_assoc]
    refine ⟨?_, fun m h1 h2 => ?_⟩
    · rw [kidsFrom, if_pos (by omega), c2, rowD_cons, hd_good c4]
      simp only
      rw [if_pos c3]
      rw [show max 1 Z.length = Z.length by omega]
      exact d1
    · by_cases hm : m < a + Z.length
      · obtain ⟨e1, e2, e3⟩ := c5 m h1 hm
        exact ⟨by omega, e2, e3⟩
      · exact d2 m (by omega) h2
theorem part_sits {g : Gram} {B : List Int} (hB : ∀ (r j : Nat) (p : Prod), B[r]? = some (j : Int) → g.prods[j]? = some p → p.left = (r : Int)) (htk : ∀ p ∈ g.prods, ∀ y ∈ p.right, y.rule = false → 0 ≤ y.n ∧ y.n < g.toks.length) :
    ∀ (f : Nat) (y : Item), PartOk g.prods B f y → (y.rule = false → 0 ≤ y.n ∧ y.n < g.toks.length) → PartC g y (partL g.prods B f y) := by
  intro f
  induction f with
  | zero => intro y h; cases h
  | succ f ih =>
    intro y h hy t i hs
    rcases h with h0 | ⟨r, j, p, h0, h1, h2, h3, h4, h5, h6⟩
    · rw [partL, if_pos h0] at hs ⊢
      obtain ⟨y0, y1⟩ := hy h0
      have hx : t[i]? = some (leafN y.n) := hs 0 (by simp)
      have hz : sz t i = 1 := by rw [sz_of hx]; rfl
      have hloc : Local (leafN y.n) := by
        unfold Local openK textedK leafN
        dsimp only
        exact ⟨by omega, by omega, by omega, fun _ => rfl, fun h' => absurd (.inl rfl) h'⟩
      refine ⟨by simp, by rw [hz]; rfl, ?_, ?_, fun m m1 m2 => ?_⟩
      · unfold ofAt
        rw [hx]
        show ofD g (leafN y.n) y = true
        unfold ofD
        rw [if_neg (by rw [h0]; decide), decide_eq_true y0, decide_eq_true y1, decide_eq_true (show (leafN y.n).n = y.n from rfl), decide_eq_true (show (leafN y.n).kind = 3 from rfl)]
        rfl
      · unfold isBad kindAt
        rw [hx]
        rfl
      · have : m = i := by simp at m2; omega
        subst this
        refine ⟨by rw [hz]; simp, ⟨⟨_, hx, hloc⟩, fun k k1 k2 => by omega⟩, ⟨_, hx, hloc, .inr ⟨rfl, y0, y1⟩⟩⟩
    · have hpart : partL g.prods B (f + 1) y = oneOf (madeN (j : Int)) (p.right.map (partL g.prods B f)) := by
        rw [partL, if_neg (by rw [h0]; decide), h1, szI_at h2, Int.toNat_natCast, h3]
      rw [hpart] at hs ⊢
      have hpl := hB r j p h2 h3
      have hps := parts_sit (g := g) (P := partL g.prods B f) p.right (fun z hz => ih z (h5 z hz) (fun e => htk p (List.mem_of_getElem? h3) z hz e))
      unfold oneOf at hs ⊢
      generalize (p.right.map (partL g.prods B f)).flatten = R at *
      have hx : t[i]? = some { madeN (j : Int) with size := (R.length : Int) + 1 } := hs 0 (by simp)
      have hz : sz t i = R.length + 1 := by
        rw [sz_of hx]
        show ((R.length : Int) + 1).toNat = R.length + 1
        omega
      obtain ⟨d1, d2⟩ := hps t (i + 1) (sits_right (l := [{ madeN (j : Int) with size := (R.length : Int) + 1 }]) (m := R) hs)
      have hloc : Local { madeN (j : Int) with size := (R.length : Int) + 1 } := by
        unfold Local openK textedK madeN
        dsimp only
        exact ⟨by omega, by omega, by omega, fun h' => absurd (.inr rfl) h', fun _ => ⟨rfl, rfl⟩⟩
      have hk : kidsL t i = kidsFrom t (i + 1 + R.length) (i + 1) := by
        unfold kidsL
        rw [hz, show i + (R.length + 1) = i + 1 + R.length by omega]
      refine ⟨by simp, by rw [hz]; simp, ?_, ?_, fun m m1 m2 => ?_⟩
      · unfold ofAt
        rw [hx]
        show ofD g _ y = true
        unfold ofD
        rw [if_pos h0, ruleD_made (n := j) rfl rfl h3, h1, decide_eq_true (show (0 : Int) ≤ (r : Int) by omega), decide_eq_true hpl]
        rfl
      · unfold isBad kindAt
        rw [hx]
        rfl
      · rw [List.length_cons] at m2 ⊢
        by_cases em : m = i
        · subst em
          refine ⟨by rw [hz]; exact Nat.le_refl _, ⟨⟨_, hx, hloc⟩, fun k k1 k2 => ?_⟩, ⟨_, hx, hloc, .inl ⟨rfl, j, p, rfl, h3, by rw [hk]; exact d1⟩⟩⟩
          rw [hz] at k2 ⊢
          have := (d2 k (by omega) (by omega)).1
          omega
        · obtain ⟨e1, e2, e3⟩ := d2 m (by omega) (by omega)
          exact ⟨by omega, e2, e3⟩
theorem sits_self (l : List Node) : Sits l 0 l := fun k _ => by rw [Nat.zero_add]
theorem partC_tree {g : Gram} {y : Item} {l : List Node} (h : PartC g y l) : Tree l ∧ ofAt g l 0 y = true ∧ (∀ m, m < l.length → FitQ g l m) := by
  obtain ⟨c1, c2, c3, c4, c5⟩ := h l 0 (sits_self l)
  have hq := fun m (hm : m < l.length) => (c5 m (Nat.zero_le _) (by omega)).2.2
  obtain ⟨x, hx, hloc, _⟩ := hq 0 (by omega)
  have hsz : x.size = (l.length : Int) := by
    have := sz_of hx
    have h1 : 1 ≤ x.size := hloc.2.2.1
    omega
  refine ⟨⟨⟨x, hx, hsz⟩, by omega, by omega, fun m m1 m2 => ?_⟩, c3, hq⟩
  rw [c2] at m2 ⊢
  obtain ⟨e1, e2, _⟩ := c5 m m1 m2
  exact ⟨e2, by omega⟩
theorem fitQ_fits {g : Gram} {t : List Node} {m : Nat} (h : FitQ g t m) : fitsD g t m = true ∧ outAt t m = false ∧ (kindAt t m = 2 ∨ kindAt t m = 3) := by
  obtain ⟨x, hx, _, h⟩ := h
  unfold fitsD outAt kindAt
  rw [hx]
  rcases h with ⟨hk, j, p, hn, hp, hr⟩ | ⟨hk, h0, h1⟩
  · refine ⟨?_, ?_, .inl hk⟩
    · show (if x.kind = 1 then _ else _) = true
      rw [if_neg (by omega), if_pos hk, hn, Int.toNat_natCast, hp, decide_eq_true (show (0 : Int) ≤ (j : Int) by omega)]
      exact decide_eq_true hr
    · show (decide (x.kind = 3) && _) = false
      rw [decide_eq_false (by omega)]; rfl
  · refine ⟨?_, ?_, .inr hk⟩
    · show (if x.kind = 1 then _ else _) = true
      rw [if_neg (by omega), if_neg (by omega), if_pos hk, decide_eq_true h0, decide_eq_true h1]
      simp
    · show (decide (x.kind = 3) && decide (x.n = -2)) = false
      rw [decide_eq_false (show ¬ x.n = -2 by omega), Bool.and_false]
theorem partC_part {g : Gram} {y : Item} {l : List Node} (hr : rightB g = true) (h : PartC g y l) : partD g l y = true := by
  obtain ⟨h1, h2, h3⟩ := partC_tree h
  unfold partD
  rw [hr, treeB_iff.2 h1, h2, wrong_none (fun k hk => (fitQ_fits (h3 k hk)).1), decide_eq_true (fun i hi => (fitQ_fits (h3 i hi)).2.1)]
  rfl
end Go.Proofs.Ytmmhkjdnejeooaa.T
