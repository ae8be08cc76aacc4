/-
  A production less. Plain.
-/
import Derived.Test.YtaagkbgbghleiaaGramFindsP
namespace Go.Proofs.Ytaagkbgbghleiaa
open Go.RowKit Go.Shelf

/-- A grammar without one of its productions. -/
def lessG (g : Gram) (at_ : Nat) : Gram := { g with prods := g.prods.take at_ ++ g.prods.drop (at_ + 1) }
theorem less_len {g : Gram} {at_ : Nat} (h : at_ < g.prods.length) : (lessG g at_).prods.length + 1 = g.prods.length := by
  unfold lessG
  simp; omega
theorem ofUpto_count (g : Gram) (r : Int) : ∀ k, k ≤ g.prods.length → (ofUpto g r k).length = ((g.prods.take k).filter (fun p => p.left == r)).length := by
  intro k
  induction k with
  | zero => intro _; simp [ofUpto]
  | succ k ih =>
    intro hk
    have hx := List.getElem?_eq_getElem (show k < g.prods.length by omega)
    generalize g.prods[k] = p at hx
    rw [ofUpto_snoc hx, List.take_add_one, hx, List.filter_append, List.length_append, ← ih (by omega)]
    cases hb : p.left == r
    · simp [hb]
    · simp [hb]
theorem ofRule_count (g : Gram) (r : Int) : (ofRule g r).length = (g.prods.filter (fun p => p.left == r)).length := by
  unfold ofRule
  rw [ofUpto_count g r _ (Nat.le_refl _), List.take_of_length_le (Nat.le_refl _)]
theorem less_count {g : Gram} {at_ : Nat} {p : Prod} (h : g.prods[at_]? = some p) (r : Int) : (ofRule g r).length = (ofRule (lessG g at_) r).length + if p.left = r then 1 else 0 := by
  rw [ofRule_count, ofRule_count]
  have hsplit : g.prods = g.prods.take at_ ++ (p :: g.prods.drop (at_ + 1)) := by
    have := List.take_append_drop at_ g.prods
    rw [List.drop_eq_getElem_cons (List.getElem?_eq_some_iff.1 h).1, (List.getElem?_eq_some_iff.1 h).2] at this
    exact this.symm
  have e : (g.prods.filter (fun p => p.left == r)).length = ((g.prods.take at_).filter (fun p => p.left == r)).length + ((p :: g.prods.drop (at_ + 1)).filter (fun p => p.left == r)).length := by
    rw [← List.length_append, ← List.filter_append, ← hsplit]
  have e2 : ((lessG g at_).prods.filter (fun p => p.left == r)).length = ((g.prods.take at_).filter (fun p => p.left == r)).length + ((g.prods.drop (at_ + 1)).filter (fun p => p.left == r)).length := by
    unfold lessG
    rw [List.filter_append, List.length_append]
  rw [e, e2, List.filter_cons]
  by_cases hp : p.left = r
  · rw [if_pos (by simp [hp]), if_pos hp, List.length_cons]; omega
  · rw [if_neg (by simp [hp]), if_neg hp]; omega
theorem prodErr_other {g g' : Gram} (h1 : g'.toks = g.toks) (h2 : g'.rules = g.rules) {i j : Nat} {p : Prod} (h : (prodErr g i p).kind = 0) : (prodErr g' j p).kind = 0 := by
  have hit : ∀ x, itemErr g' x = itemErr g x := fun x => by unfold itemErr clsAt; rw [h1, h2]
  unfold prodErr at h ⊢
  rw [h2]
  split at h
  · cases h
  · rename_i c1
    rw [if_neg c1]
    split at h
    · cases h
    · rename_i c2
      rw [if_neg c2]
      rw [first0_kind] at h ⊢
      intro m hm
      have := h m hm
      unfold itemD at this ⊢
      cases hx : p.right[m]? with
      | none => rfl
      | some x =>
        rw [hx] at this
        dsimp only at this ⊢
        rw [hit]
        by_cases e : itemErr g x ≠ 0
        · rw [if_pos e] at this; exact absurd this e
        · rw [if_neg e]; rfl
theorem less_mem {g : Gram} {at_ i : Nat} {p : Prod} (h : (lessG g at_).prods[i]? = some p) : ∃ j : Nat, g.prods[j]? = some p := by
  unfold lessG at h
  dsimp only at h
  have := List.mem_of_getElem? h
  rw [List.mem_append] at this
  have hm : p ∈ g.prods := by
    rcases this with h | h
    · exact List.mem_of_mem_take h
    · exact List.mem_of_mem_drop h
  obtain ⟨j, hj, e⟩ := List.mem_iff_getElem.1 hm
  exact ⟨j, by rw [List.getElem?_eq_getElem hj, e]⟩
/-- What is right of it still. -/
theorem less_parts {g : Gram} {at_ : Nat} (hg : RightG g) (h : at_ < g.prods.length) : sizesOf (lessG g at_) = D0 ∧ (∀ i, (tokD (lessG g at_) i).kind = (tokD g i).kind) ∧ (∀ i, (ruleD (lessG g at_) i).kind = (ruleD g i).kind) ∧ (∀ i, i < (lessG g at_).prods.length → (prodD (lessG g at_) i).kind = 0) ∧ (startD (lessG g at_)).kind = 0 := by
  have hl := less_len h
  refine ⟨?_, fun i => rfl, fun i => rfl, fun i hi => ?_, hg.start⟩
  · have := hg.sizes
    unfold sizesOf at this ⊢
    rw [show (lessG g at_).toks = g.toks from rfl, show (lessG g at_).rules = g.rules from rfl, show (lessG g at_).states = g.states from rfl, show (lessG g at_).text = g.text from rfl, show (lessG g at_).nodes = g.nodes from rfl, show (lessG g at_).pairs = g.pairs from rfl]
    by_cases c1 : 64 < g.toks.length
    · rw [if_pos c1] at this; cases this
    rw [if_neg c1] at this ⊢
    by_cases c2 : 64 < g.rules.length
    · rw [if_pos c2] at this; cases this
    rw [if_neg c2] at this ⊢
    by_cases c3 : 256 < g.prods.length
    · rw [if_pos c3] at this; cases this
    rw [if_neg c3] at this
    rw [if_neg (by omega)]
    exact this
  · have hx := List.getElem?_eq_getElem hi
    obtain ⟨j, hj⟩ := less_mem hx
    have := hg.prod j (List.getElem?_eq_some_iff.1 hj).1
    unfold prodD at this ⊢
    rw [hj] at this
    rw [hx]
    exact prodErr_other rfl rfl this
theorem less_right {g : Gram} {at_ : Nat} {p : Prod} (hg : RightG g) (h : g.prods[at_]? = some p) (h1 : 1 < (ofRule g p.left).length) : (checkOf (lessG g at_)).kind = 0 := by
  obtain ⟨a1, a2, a3, a4, a5⟩ := less_parts hg (List.getElem?_eq_some_iff.1 h).1
  refine (right_iff _).2 ⟨a1, fun i hi => by rw [a2]; exact hg.tok i hi, fun i hi => by rw [a3]; exact hg.rule i hi, a4, a5, fun i hi => ?_⟩
  have hc := less_count h (i : Int)
  have hs := hg.someOf (show i < g.rules.length from hi)
  unfold noneD
  rw [if_neg (by
    intro e
    by_cases he : p.left = (i : Int)
    · rw [he] at h1; rw [if_pos he] at hc; omega
    · rw [if_neg he] at hc; omega)]
  rfl
theorem less_wrong {g : Gram} {at_ : Nat} {p : Prod} (hg : RightG g) (h : g.prods[at_]? = some p) (h1 : ¬ 1 < (ofRule g p.left).length) : checkOf (lessG g at_) = ⟨5, p.left, 0⟩ := by
  obtain ⟨a1, a2, a3, a4, a5⟩ := less_parts hg (List.getElem?_eq_some_iff.1 h).1
  obtain ⟨b1, b2⟩ := hg.left h
  obtain ⟨r, hr⟩ : ∃ r : Nat, p.left = (r : Int) := ⟨p.left.toNat, by omega⟩
  have hz : (ofRule (lessG g at_) r).length = 0 := by
    have hc := less_count h (r : Int)
    rw [if_pos hr] at hc
    rw [hr] at h1
    omega
  have hn : noneD (lessG g at_) r = ⟨5, r, 0⟩ := by unfold noneD; rw [if_pos hz]
  unfold checkOf wholeD
  rw [a1, orD_D0, orD_zero (first0_kind.2 (fun i hi => by rw [a2]; exact hg.tok i hi)), orD_zero (first0_kind.2 (fun i hi => by rw [a3]; exact hg.rule i hi)), orD_zero (first0_kind.2 a4), orD_zero a5, hr, ← hn]
  refine first0_hit (show r < g.rules.length by omega) (by rw [hn]; simp) (fun m hm => ?_)
  have hc := less_count h (m : Int)
  rw [if_neg (by omega)] at hc
  have hs := hg.someOf (show m < g.rules.length by omega)
  unfold noneD
  rw [if_neg (by omega)]
  rfl
end Go.Proofs.Ytaagkbgbghleiaa
