/-
  The document's item of any node; whether a grammar is right (the document's); the document's places.
-/
import Derived.Test.YtbjheaiiajpifaaLayF
import Derived.Test.YtbjheaiiajpifaaLayE
import Derived.Test.YtbjheaiiajpifaaLayB
namespace Go.Proofs.Ytbjheaiiajpifaa.T
open Go.RowKit Go.Shelf

theorem ref_Right38 (a b c : Value) (g : Gram) (w : World) (HG : GramIs w (Old w) a b c g) (s1 : g.toks.length ≤ 100000) (s2 : g.rules.length ≤ 100000) (s3 : g.prods.length ≤ 100000) (hz : Named g) :
    Calls Try.prog 62 #[.agg (gramCells a b c g)] w fun r w' => r = .returned (.bool (rightB g)) ∧ Below w.heap.size w w' := by
  have H := hidden (fun (w' : World) (hb : Below w.heap.size w w') => ref_Check a b c g w' (HG.old hb) s1 s2 s3 hz)
  obtain ⟨⟨A1, k1, rfl, v1, m1⟩, ⟨A2, k2, rfl, v2, m2⟩, ⟨A3, k3, rfl, v3, m3⟩⟩ := HG.vals
  have hb := Below.refl w.heap.size w
  have hq1 : ∀ w, (Op.equalIn 10000 71 (.agg #[.int .i64 (checkOf g).kind, .int .i64 (checkOf g).at_, .int .i64 (checkOf g).more]) (.agg #[.int .i64 0, .int .i64 0, .int .i64 0])).run Try.prog w = .ok (rightB g) w := fun w => by
    have := def_eq_run w (checkOf g) D0
    rw [right_eq] at this
    exact this
  generalize rightB g = rb at *
  generalize checkOf g = d at *
  unfold gramCells defC at *
  clear HG
  go_enter Try.func62, Try.ntmps62
  go_wp2_with fail
  refine (H.out _ ?_).mono ?_
  · exact (by repeat (first | (with_reducible exact Below.refl _ _) | (with_reducible assumption) | (with_reducible refine Below.drew ?_) | (with_reducible refine below_drewN ?_ _) | ((with_reducible refine below_alloc ?_ ?_); (focus (first | omega | (simp; done) | (simp; omega)))) | ((with_reducible refine below_set ?_ ?_); (focus (first | omega | (simp; done) | (simp; omega))))))
  rintro r w2 ⟨rfl, hb2⟩
  have hbw : Below w.heap.size w w2 := Below.trans (by repeat (first | (with_reducible exact Below.refl _ _) | (with_reducible assumption) | (with_reducible refine Below.drew ?_) | (with_reducible refine below_drewN ?_ _) | ((with_reducible refine below_alloc ?_ ?_); (focus (first | omega | (simp; done) | (simp; omega)))) | ((with_reducible refine below_set ?_ ?_); (focus (first | omega | (simp; done) | (simp; omega)))))) (hb2.mono (by simp))
  clear hb2 hb
  go_wp2
  go_ret
  exact ⟨rfl, hbw⟩

theorem ref_item38 (v a' b' c' : Value) (g : Gram) (t : List Node) (i : Nat) (hi : i < t.length) (w : World) (h4 : t.length ≤ 140737488355) (hT : Tree t) (HG : GramIs w (Old w) a' b' c' g) (hN : Nds w (Old w) v t) :
    Calls Try.prog 64 #[.agg (gramCells a' b' c' g), v, .int .i64 (i : Int)] w fun r w' => r = .returned (.tuple #[.agg (itCells (itemD (itemOf g t i))).toArray, .bool (itemOf g t i).isSome]) ∧ Below w.heap.size w w' := by
  by_cases h0 : i = 0
  · subst h0
    have e : itemOf g t 0 = none := by
      unfold itemOf
      rw [if_pos (Or.inl (show upN t 0 0 < 0 by rw [up_zero]; decide))]
    rw [e]
    exact ref_item_top v a' b' c' g t w h4 hT HG hN
  · obtain ⟨a, m, hup, hai, hm⟩ := up_kid hT (by omega) hi
    have hal : a < t.length := by omega
    have hx := List.getElem?_eq_getElem hal
    have hy := List.getElem?_eq_getElem hi
    have hidx := idx_nodup (kidsL_nodup t a) hm
    by_cases hor : t[a].kind ≠ 2 ∨ t[a].n < 0 ∨ (g.prods.length : Int) ≤ t[a].n ∨ t[i].kind = 4
    · have e : itemOf g t i = none := by
        unfold itemOf
        rw [hup, Int.toNat_natCast]
        by_cases h4' : t[i].kind = 4
        · rw [if_pos (Or.inr (by unfold badAt; rw [hy]; simpa using h4'))]
        · split
          · rfl
          · have : prodAt g t a = none := by
              unfold prodAt
              rw [hx]
              dsimp only
              split
              · rename_i h
                exact List.getElem?_eq_none (by omega)
              · rfl
            rw [this]
      rw [e]
      exact ref_item_none v a' b' c' g t i a _ _ hi hup hx hy hor w h4 hT HG hN
    · have h1 : t[a].kind = 2 := by omega
      have h2 : 0 ≤ t[a].n := by omega
      have h3 : t[a].n.toNat < g.prods.length := by omega
      have hp := List.getElem?_eq_getElem h3
      have e : itemOf g t i = (g.prods[t[a].n.toNat]).right[cntTo t (kidsL t a) m]? := by
        unfold itemOf
        rw [hup, Int.toNat_natCast, if_neg, hidx]
        · have : prodAt g t a = some g.prods[t[a].n.toNat] := by
            unfold prodAt
            rw [hx]
            dsimp only
            rw [if_pos ⟨h1, h2⟩, hp]
          rw [this]
        · intro h
          rcases h with h | h
          · omega
          · unfold badAt at h
            rw [hy] at h
            dsimp only at h
            rw [decide_eq_true_iff] at h
            omega
      rw [e]
      exact ref_item_some v a' b' c' g t i a m _ _ _ hi hup hx hy h1 h2 hp (by omega) hm w h4 hT HG hN

/-- Above a node; -1 above none. -/
def gapUpI (g : Gram) (t : List Node) (b : Nat) (k : Int) : Int := if k < 0 then 0 else gapUp g t b k.toNat
def inUpI (g : Gram) (t : List Node) (k : Int) : Int := if k < 0 then 0 else inUp g t k.toNat
theorem gapUp_step (g : Gram) (t : List Node) (b k : Nat) : gapUp g t b k = max (if noLeaf t k b = true then gapIt g t k else 0) (gapUpI g t b (upN t k k)) := by
  unfold gapUpI
  rcases upN_cases t k k with h | ⟨a, h⟩
  · rw [gapUp_none h, h, if_pos (show (-1 : Int) < 0 by decide)]
  · rw [gapUp_some h, h, if_neg (show ¬ ((a : Int) < 0) by omega), Int.toNat_natCast]
theorem inUp_step (g : Gram) (t : List Node) (k : Nat) : inUp g t k = inIt g t k + inUpI g t (upN t k k) := by
  unfold inUpI
  rcases upN_cases t k k with h | ⟨a, h⟩
  · rw [inUp_none h, h, if_pos (show (-1 : Int) < 0 by decide)]; omega
  · rw [inUp_some h, h, if_neg (show ¬ ((a : Int) < 0) by omega), Int.toNat_natCast]
theorem gapUpI_nonneg (g : Gram) (t : List Node) (b : Nat) (k : Int) : 0 ≤ gapUpI g t b k := by
  unfold gapUpI
  split
  · exact Int.le_refl _
  · exact gapUp_nonneg _ _ _ _
theorem leafFrom_eq {t : List Node} {l : Nat} (hl : isText t l = true) : ∀ n k, k ≤ l → l < k + n → (leafFrom t n k = (l : Int) ↔ noLeaf t k l = true) := by
  intro n
  induction n with
  | zero => intro k h1 h2; omega
  | succ n ih =>
    intro k h1 h2
    cases hk : isText t k with
    | true =>
      rw [leafFrom_yes hk]
      constructor
      · intro e
        have : k = l := by omega
        subst this
        exact noLeaf_self t k
      · intro h
        by_cases e : k = l
        · rw [e]
        · have := noLeaf_iff.1 h k (Nat.le_refl _) (by omega)
          rw [hk] at this
          cases this
    | false =>
      have hne : k ≠ l := fun e => by rw [e, hl] at hk; cases hk
      rw [leafFrom_no hk, ih (k + 1) (by omega) (by omega), noLeaf_split (a := k) (b := k + 1) (c := l) (by omega) (by omega), Bool.and_eq_true]
      constructor
      · exact fun h => ⟨noLeaf_iff.2 fun j a b => by rw [show j = k by omega]; exact hk, h⟩
      · exact fun h => h.2
theorem firstLeaf_eq {t : List Node} {k l : Nat} (hl : isText t l = true) (h1 : k ≤ l) (h2 : l < k + sz t k) : firstLeaf t k = (l : Int) ↔ noLeaf t k l = true := leafFrom_eq hl _ _ h1 h2
end Go.Proofs.Ytbjheaiiajpifaa.T
