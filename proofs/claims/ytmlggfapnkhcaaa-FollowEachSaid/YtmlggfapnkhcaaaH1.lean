/-
  What is brought to a rule, put behind one another. Plain. What predicts productions, where two clash, and the table. Plain. table.predict, table.Predict; the document's Predict. Take, of the program and of the document; Predict, of both. The document's Predict of layer 24. The document's predicts and predicted, of layer 24.
-/
import Derived.Test.YtmlggfapnkhcaaaFirstE
import Derived.Test.YtmlggfapnkhcaaaK1
import Derived.Test.YtmlggfapnkhcaaaNullV
import Derived.Test.YtmlggfapnkhcaaaTakeC
namespace Go.Proofs.Ytmlggfapnkhcaaa
open Go.RowKit Go.Shelf

/-- What the k-th item of a production brings to a rule. -/
noncomputable def bringOne (g : Gram) (r : Int) (p : Prod) (k : Nat) : List Int := match p.right[k]? with
  | some x => if (x.rule && decide (x.n = r)) = true then firsts22 g (p.right.drop (k + 1)) ++ (if voidOf g (p.right.drop (k + 1)) = true then (fol23 g).getD p.left.toNat [] else []) else []
  | none => []
noncomputable def bringK (g : Gram) (r : Int) (p : Prod) (k : Nat) : List Int := (List.range k).flatMap (bringOne g r p)
noncomputable def bringP (g : Gram) (r : Int) (n : Nat) : List Int := (if r = g.start then [(g.toks.length : Int)] else []) ++ (g.prods.take n).flatMap fun p => if atB (reachB g) p.left = true then bringK g r p p.right.length else []
noncomputable def bringS (g : Gram) (r : Int) (i : Nat) (p : Prod) (k : Nat) : List Int := bringP g r i ++ if atB (reachB g) p.left = true then bringK g r p k else []
theorem bringK_succ (g : Gram) (r : Int) (p : Prod) (k : Nat) : bringK g r p (k + 1) = bringK g r p k ++ bringOne g r p k := by
  unfold bringK
  rw [List.range_succ, List.flatMap_append]
  simp
theorem bringP_zero (g : Gram) (r : Int) : bringP g r 0 = if r = g.start then [(g.toks.length : Int)] else [] := by
  unfold bringP
  simp
theorem bringP_succ {g : Gram} {r : Int} {n : Nat} {p : Prod} (h : g.prods[n]? = some p) : bringP g r (n + 1) = bringP g r n ++ (if atB (reachB g) p.left = true then bringK g r p p.right.length else []) := by
  unfold bringP
  rw [List.take_add_one, h, List.flatMap_append, List.append_assoc]
  simp
theorem getD_len {N : Nat} {F : List (List Int)} (h : ∀ l ∈ F, Bd N l) (r : Nat) : (F.getD r []).length ≤ N := (getD_bd h r).len
theorem bringOne_len (g : Gram) (r : Int) (p : Prod) (k : Nat) : (bringOne g r p k).length ≤ 2 * g.toks.length + 1 := by
  unfold bringOne
  split
  · split
    · rename_i x _ _
      rw [List.length_append]
      have h1 := firsts_len g (p.right.drop (k + 1))
      have h2 := getD_len (bd_fol23 g) p.left.toNat
      split
      · omega
      · simp; omega
    · simp
  · simp
theorem bringK_len (g : Gram) (r : Int) (p : Prod) : ∀ k, (bringK g r p k).length ≤ k * (2 * g.toks.length + 1) := by
  intro k
  induction k with
  | zero => simp [bringK]
  | succ k ih =>
    rw [bringK_succ, List.length_append, Nat.succ_mul]
    have := bringOne_len g r p k
    omega
theorem prod_16 {g : Gram} (hr : rightB g = true) {p : Prod} (hp : p ∈ g.prods) : p.right.length ≤ 16 := by
  obtain ⟨i, hi, rfl⟩ := List.getElem_of_mem hp
  have h := (rightB_RightG hr).prod i hi
  unfold prodD at h
  rw [List.getElem?_eq_getElem hi] at h
  dsimp only at h
  unfold prodErr at h
  split at h
  · cases h
  · split at h
    · cases h
    · omega
theorem bringP_len {g : Gram} (hr : rightB g = true) (r : Int) : ∀ n, (bringP g r n).length ≤ 1 + n * (16 * (2 * g.toks.length + 1)) := by
  intro n
  induction n with
  | zero => rw [bringP_zero]; split <;> simp
  | succ n ih =>
    cases hx : g.prods[n]? with
    | none =>
      have e : bringP g r (n + 1) = bringP g r n := by
        have := List.getElem?_eq_none_iff.1 hx
        unfold bringP
        rw [List.take_of_length_le (by omega), List.take_of_length_le (by omega)]
      rw [e, Nat.succ_mul]; omega
    | some p =>
      rw [bringP_succ hx, List.length_append, Nat.succ_mul]
      have h1 := bringK_len g r p p.right.length
      have h2 := prod_16 hr (List.mem_of_getElem? hx)
      have h3 := Nat.mul_le_mul_right (2 * g.toks.length + 1) h2
      split
      · omega
      · simp; omega
theorem bringS_zero (g : Gram) (r : Int) (i : Nat) (p : Prod) : bringS g r i p 0 = bringP g r i := by
  unfold bringS bringK
  simp
theorem bringS_skip {g : Gram} {r : Int} {i : Nat} {p : Prod} {k : Nat} {x : Item} (hx : p.right[k]? = some x) (h : x.rule = false ∨ x.n ≠ r) : bringS g r i p (k + 1) = bringS g r i p k := by
  have e : bringOne g r p k = [] := by
    unfold bringOne
    rw [hx]
    dsimp only
    rcases h with h | h
    · rw [h]; simp
    · simp [h]
  unfold bringS
  rw [bringK_succ, e, List.append_nil]
theorem bringS_take {g : Gram} {r : Int} {i : Nat} {p : Prod} {k : Nat} {x : Item} (hrb : atB (reachB g) p.left = true) (hx : p.right[k]? = some x) (h : x.rule = true) (hn : x.n = r) : bringS g r i p (k + 1) = bringS g r i p k ++ firsts22 g (p.right.drop (k + 1)) ++ (if voidOf g (p.right.drop (k + 1)) = true then (fol23 g).getD p.left.toNat [] else []) := by
  have e : bringOne g r p k = firsts22 g (p.right.drop (k + 1)) ++ (if voidOf g (p.right.drop (k + 1)) = true then (fol23 g).getD p.left.toNat [] else []) := by
    unfold bringOne
    rw [hx]
    dsimp only
    rw [if_pos (by rw [h, hn]; simp)]
  unfold bringS
  rw [if_pos hrb, if_pos hrb, bringK_succ, e]
  simp only [List.append_assoc]
theorem bringS_end {g : Gram} {r : Int} {i : Nat} {p : Prod} (h : g.prods[i]? = some p) : bringS g r i p p.right.length = bringP g r (i + 1) := by
  rw [bringP_succ h]
  rfl
theorem bringS_dead {g : Gram} {r : Int} {i : Nat} {p : Prod} {k : Nat} (h : g.prods[i]? = some p) (hn : atB (reachB g) p.left = false) : bringS g r i p k = bringP g r (i + 1) := by
  rw [bringP_succ h]
  unfold bringS
  rw [if_neg (by rw [hn]; decide), if_neg (by rw [hn]; decide)]
theorem bringP_fin {g : Gram} (hr : rightB g = true) (h1 : g.prods.length ≤ 30) (h2 : g.toks.length ≤ 12) (r : Int) {n : Nat} (hn : n ≤ g.prods.length) : (bringP g r n).length ≤ 12001 := by
  have h := bringP_len hr r n
  have := Nat.mul_le_mul (show n ≤ 30 by omega) (show 16 * (2 * g.toks.length + 1) ≤ 400 by omega)
  omega
theorem bringS_fin {g : Gram} (hr : rightB g = true) (h1 : g.prods.length ≤ 30) (h2 : g.toks.length ≤ 12) (r : Int) {i : Nat} {p : Prod} (h : g.prods[i]? = some p) {k : Nat} (hk : k ≤ p.right.length) : (bringS g r i p k).length ≤ 12401 := by
  have hi := (List.getElem?_eq_some_iff.1 h).1
  have a := bringP_fin hr h1 h2 r (n := i) (by omega)
  unfold bringS
  rw [List.length_append]
  have b := bringK_len g r p k
  have c := prod_16 hr (List.mem_of_getElem? h)
  have d := Nat.mul_le_mul (show k ≤ 16 by omega) (show 2 * g.toks.length + 1 ≤ 25 by omega)
  split
  · omega
  · simp; omega
theorem fol23_get {g : Gram} (hr : rightB g = true) {r : Nat} (h : r < g.rules.length) : (fol23 g)[r]? = some (folR g (growsB g false) (reachB g) (r : Int)) := by
  unfold fol23
  rw [if_pos hr, folF_at h]
theorem each_follow {g : Gram} (hr : rightB g = true) {r : Nat} (h : r < g.rules.length) : (fol23 g)[r]? = some (setOf (bringP g (r : Int) g.prods.length)) := by
  rw [fol23_get hr h]
  congr 1
  have hw := whole22 hr
  have hat : ∀ (p : Prod), p ∈ g.prods → (fol23 g).getD p.left.toNat [] = folR g (growsB g false) (reachB g) p.left := by
    intro p hp
    have hl := hw.left p hp
    rw [List.getD_eq_getElem?_getD, fol23_get hr (by omega), show ((p.left.toNat : Nat) : Int) = p.left by omega]
    rfl
  refine asc_ext (asc_range _ _) (asc_setOf _) (fun z => ?_)
  rw [mem_setOf]
  show z ∈ folR g (growsB g false) (reachB g) (r : Int) ↔ _
  rw [mem_folR]
  unfold bringP
  rw [List.take_of_length_le (Nat.le_refl _), List.mem_append, List.mem_flatMap]
  constructor
  · rintro ⟨h0, h1, hf⟩
    generalize hrr : (r : Int) = rr at *
    cases hf with
    | end_ e => left; rw [if_pos rfl, e]; simp
    | @first p k x hp hrb hx hxr hz =>
      right
      refine ⟨p, hp, ?_⟩
      rw [if_pos hrb]
      unfold bringK
      rw [List.mem_flatMap]
      refine ⟨k, List.mem_range.2 (List.getElem?_eq_some_iff.1 hx).1, ?_⟩
      unfold bringOne
      rw [hx]
      dsimp only
      rw [if_pos (by rw [hxr]; simp), List.mem_append, firsts_prod hr hp]
      exact .inl hz
    | @up p k x hp hrb hx hxr hv hz =>
      right
      refine ⟨p, hp, ?_⟩
      rw [if_pos hrb]
      unfold bringK
      rw [List.mem_flatMap]
      refine ⟨k, List.mem_range.2 (List.getElem?_eq_some_iff.1 hx).1, ?_⟩
      unfold bringOne
      rw [hx]
      dsimp only
      rw [if_pos (by rw [hxr]; simp), List.mem_append, void_drop hr hp, if_pos hv, hat p hp, mem_folR]
      exact .inr ⟨h0, h1, hz⟩
  · rintro (hz | ⟨p, hp, hz⟩)
    · split at hz
      · rename_i e
        rw [List.mem_singleton] at hz
        subst hz
        rw [e]
        exact ⟨by omega, by omega, .end_ rfl⟩
      · cases hz
    · split at hz
      · rename_i hrb
        unfold bringK at hz
        rw [List.mem_flatMap] at hz
        obtain ⟨k, _, hz⟩ := hz
        unfold bringOne at hz
        split at hz
        · rename_i x hx
          split at hz
          · rename_i hxr
            rw [Bool.and_eq_true, decide_eq_true_iff] at hxr
            rw [← hxr.2]
            rw [List.mem_append, firsts_prod hr hp, void_drop hr hp] at hz
            rcases hz with hz | hz
            · have := mem_firstL.1 hz
              exact ⟨this.1, by omega, .first hp hrb hx hxr.1 hz⟩
            · split at hz
              · rename_i hv
                rw [hat p hp, mem_folR] at hz
                exact ⟨hz.1, hz.2.1, .up hp hrb hx hxr.1 hv hz.2.2⟩
              · cases hz
          · cases hz
        · cases hz
      · cases hz
theorem fol_reached {g : Gram} (hs : Sound g) {z r : Int} (h : Fol g (growsB g false) (reachB g) z r) : atB (reachB g) r = true := by
  cases h with
  | end_ e => exact reach_start_at hs
  | first hp hrb hx hxr _ => exact reach_next hs hp (List.mem_of_getElem? hx) hxr hrb
  | up hp hrb hx hxr _ _ => exact reach_next hs hp (List.mem_of_getElem? hx) hxr hrb
theorem each_unreached {g : Gram} (hr : rightB g = true) {r : Nat} (h : r < g.rules.length) (hn : atB (reachB g) (r : Int) = false) : setOf (bringP g (r : Int) g.prods.length) = [] := by
  have e := each_follow hr h
  rw [fol23_get hr h, Option.some.injEq] at e
  rw [← e]
  apply List.eq_nil_iff_forall_not_mem.2
  intro z hz
  have := fol_reached (rightB_sound hr) (mem_folR.1 hz).2.2
  rw [hn] at this
  cases this
theorem start_follows {g : Gram} (hr : rightB g = true) : folHas g g.start g.toks.length = true := by
  have hs := (rightB_sound hr).start
  unfold folHas
  rw [if_pos ⟨hs.1, by rw [fol23_len hr]; exact hs.2⟩, holdsB_iff, List.getD_eq_getElem?_getD, fol23_get hr (by omega)]
  show (g.toks.length : Int) ∈ folR g _ _ _
  rw [mem_folR, show ((g.start.toNat : Nat) : Int) = g.start by omega]
  exact ⟨by omega, by omega, .end_ rfl⟩
end Go.Proofs.Ytmlggfapnkhcaaa

namespace Go.Proofs.Ytmlggfapnkhcaaa
open Go.RowKit Go.Shelf

/-- The tokens at which a production may be taken. -/
noncomputable def predP (g : Gram) (p : Prod) : List Int := if voidOf g p.right = true then unionOf (firsts22 g p.right) ((fol23 g).getD p.left.toNat []) else firsts22 g p.right
noncomputable def predN (g : Gram) (i : Int) : List Int := if rightB g = true ∧ 0 ≤ i ∧ i < g.prods.length then (match g.prods[i.toNat]? with | some p => predP g p | none => []) else []
theorem bd_firstsN (g : Gram) (l : List Item) : Bd (g.toks.length + 1) (firsts22 g l) := bd_more (bd_firsts g l) (Nat.le_succ _)
theorem bd_predP (g : Gram) (p : Prod) : Bd (g.toks.length + 1) (predP g p) := by
  have hF := getD_bd (bd_fol23 g) p.left.toNat
  unfold predP
  split
  · rw [unionOf_asc (asc_firsts g p.right) hF.1]
    exact (bd_firstsN g p.right).union hF
  · exact bd_firstsN g p.right
theorem predN_at {g : Gram} (hr : rightB g = true) {i : Nat} {p : Prod} (h : g.prods[i]? = some p) : predN g (i : Int) = predP g p := by
  have hi := (List.getElem?_eq_some_iff.1 h).1
  unfold predN
  rw [if_pos ⟨hr, by omega, by omega⟩, Int.toNat_natCast, h]

/-! ### The productions of a place -/
noncomputable def inCell (g : Gram) (r t : Int) (i : Nat) : Bool := match g.prods[i]? with
  | some p => decide (p.left = r) && holdsB (t ∈ predP g p)
  | none => false
noncomputable def cellTo (g : Gram) (n : Nat) (r t : Int) : List Int := ((List.range n).filter (inCell g r t)).map (fun (i : Nat) => (i : Int))
noncomputable def cell24 (g : Gram) (r t : Int) : List Int := cellTo g g.prods.length r t
theorem cellTo_zero (g : Gram) (r t : Int) : cellTo g 0 r t = [] := rfl
theorem cellTo_succ {g : Gram} {i : Nat} {p : Prod} (h : g.prods[i]? = some p) (r t : Int) : cellTo g (i + 1) r t = cellTo g i r t ++ if p.left = r ∧ t ∈ predP g p then [(i : Int)] else [] := by
  unfold cellTo
  rw [List.range_succ, List.filter_append, List.map_append]
  congr 1
  have e : inCell g r t i = (decide (p.left = r) && holdsB (t ∈ predP g p)) := by unfold inCell; rw [h]
  by_cases h1 : p.left = r ∧ t ∈ predP g p
  · rw [if_pos h1]
    simp [e, h1.1, holdsB_true h1.2]
  · rw [if_neg h1]
    have e2 : inCell g r t i = false := by
      rw [e]
      by_cases h2 : p.left = r
      · rw [holdsB_false (fun h3 => h1 ⟨h2, h3⟩)]; simp
      · simp [h2]
    simp [e2]
theorem cellTo_len (g : Gram) (r t : Int) (n : Nat) : (cellTo g n r t).length ≤ n := by
  unfold cellTo
  rw [List.length_map]
  have := List.length_filter_le (inCell g r t) (List.range n)
  simpa using this
theorem mem_cellTo {g : Gram} {n : Nat} {r t z : Int} : z ∈ cellTo g n r t ↔ ∃ (i : Nat) (p : Prod), z = (i : Int) ∧ i < n ∧ g.prods[i]? = some p ∧ p.left = r ∧ t ∈ predP g p := by
  unfold cellTo
  rw [List.mem_map]
  constructor
  · rintro ⟨i, hi, rfl⟩
    rw [List.mem_filter, List.mem_range] at hi
    have h := hi.2
    unfold inCell at h
    split at h
    · rename_i p hp
      rw [Bool.and_eq_true, decide_eq_true_iff, holdsB_iff] at h
      exact ⟨i, p, rfl, hi.1, hp, h.1, h.2⟩
    · cases h
  · rintro ⟨i, p, rfl, hi, hp, h1, h2⟩
    refine ⟨i, List.mem_filter.2 ⟨List.mem_range.2 hi, ?_⟩, rfl⟩
    unfold inCell
    rw [hp]
    dsimp only
    rw [Bool.and_eq_true, decide_eq_true_iff, holdsB_iff]
    exact ⟨h1, h2⟩
theorem cell_nat {g : Gram} {n : Nat} {r t z : Int} (h : z ∈ cellTo g n r t) : 0 ≤ z ∧ z < n := by
  obtain ⟨i, _, rfl, hi, _⟩ := mem_cellTo.1 h
  omega
/-- A place that has a production lies in the table. -/
theorem cell_in {g : Gram} (hr : rightB g = true) {n : Nat} {r t : Int} (h : cellTo g n r t ≠ []) : (0 ≤ r ∧ r < g.rules.length) ∧ 0 ≤ t ∧ t < g.toks.length + 1 := by
  obtain ⟨z, hz⟩ := List.exists_mem_of_ne_nil _ h
  obtain ⟨i, p, rfl, _, hp, h1, h2⟩ := mem_cellTo.1 hz
  have a := (whole22 hr).left p (List.mem_of_getElem? hp)
  have b := (bd_predP g p).2 t h2
  rw [h1] at a
  exact ⟨a, b.1, by omega⟩

/-! ### Filling: so many productions, and of one more so many tokens -/
noncomputable def fillTo (g : Gram) (i : Nat) (p : Prod) (k : Nat) (r t : Int) : List Int := cellTo g i r t ++ if p.left = r ∧ t ∈ (predP g p).take k then [(i : Int)] else []
theorem fillTo_zero (g : Gram) (i : Nat) (p : Prod) : fillTo g i p 0 = cellTo g i := by
  funext r t
  unfold fillTo
  rw [if_neg (by simp), List.append_nil]
theorem fillTo_end {g : Gram} {i : Nat} {p : Prod} (h : g.prods[i]? = some p) : fillTo g i p (predP g p).length = cellTo g (i + 1) := by
  funext r t
  unfold fillTo
  rw [cellTo_succ h, List.take_of_length_le (Nat.le_refl _)]
theorem fillTo_step {g : Gram} {i : Nat} {p : Prod} {k : Nat} {x : Int} (hx : (predP g p)[k]? = some x) : fillTo g i p (k + 1) = fun r t => if r = p.left ∧ t = x then fillTo g i p k p.left x ++ [(i : Int)] else fillTo g i p k r t := by
  have hA := (bd_predP g p).1
  have hk := (List.getElem?_eq_some_iff.1 hx).1
  have hnew : x ∉ (predP g p).take k := by
    intro hm
    obtain ⟨j, hj, e⟩ := List.getElem_of_mem hm
    rw [List.length_take] at hj
    rw [List.getElem_take] at e
    have := (List.pairwise_iff_getElem.1 hA) j k (by omega) hk (by omega)
    rw [List.getElem?_eq_getElem hk] at hx
    cases hx
    omega
  have ht : (predP g p).take (k + 1) = (predP g p).take k ++ [x] := by rw [List.take_add_one, hx]; rfl
  funext r t
  unfold fillTo
  rw [ht]
  by_cases h1 : r = p.left ∧ t = x
  · obtain ⟨rfl, rfl⟩ := h1
    rw [if_pos (show p.left = p.left ∧ t ∈ (predP g p).take k ++ [t] from ⟨rfl, by simp⟩), if_pos ⟨rfl, rfl⟩, if_neg (fun h => hnew h.2), List.append_nil]
  · rw [if_neg h1]
    congr 1
    by_cases h2 : p.left = r ∧ t ∈ (predP g p).take k
    · rw [if_pos h2, if_pos ⟨h2.1, List.mem_append.2 (.inl h2.2)⟩]
    · rw [if_neg h2, if_neg]
      rintro ⟨e, hm⟩
      rcases List.mem_append.1 hm with hm | hm
      · exact h2 ⟨e, hm⟩
      · rw [List.mem_singleton] at hm
        exact h1 ⟨e.symm, hm⟩
theorem fillTo_len (g : Gram) (i : Nat) (p : Prod) (k : Nat) (r t : Int) : (fillTo g i p k r t).length ≤ i + 1 := by
  unfold fillTo
  rw [List.length_append]
  have := cellTo_len g r t i
  split <;> simp <;> omega

/-! ### The first place that has two -/
def before24 (a b : Int × Int) : Prop := a.1 < b.1 ∨ a.1 = b.1 ∧ a.2 < b.2
noncomputable def two24 (g : Gram) (q : Int × Int) : Bool := decide (2 ≤ (cell24 g q.1 q.2).length)
def rowAt24 (g : Gram) (r : Nat) : List (Int × Int) := (List.range (g.toks.length + 1)).map fun (t : Nat) => ((r : Int), (t : Int))
def pairs24 (g : Gram) : List (Int × Int) := (List.range g.rules.length).flatMap (rowAt24 g)
noncomputable def clash24 (g : Gram) : Option (Int × Int) := if rightB g = true then (pairs24 g).find? (two24 g) else none
theorem mem_pairs {g : Gram} {q : Int × Int} : q ∈ pairs24 g ↔ (0 ≤ q.1 ∧ q.1 < g.rules.length) ∧ 0 ≤ q.2 ∧ q.2 < g.toks.length + 1 := by
  unfold pairs24 rowAt24
  rw [List.mem_flatMap]
  constructor
  · rintro ⟨r, hr, hq⟩
    rw [List.mem_map] at hq
    obtain ⟨t, ht, rfl⟩ := hq
    rw [List.mem_range] at hr ht
    exact ⟨⟨by simp, by simp; omega⟩, by simp, by simp; omega⟩
  · rintro ⟨⟨h1, h2⟩, h3, h4⟩
    refine ⟨q.1.toNat, List.mem_range.2 (by omega), List.mem_map.2 ⟨q.2.toNat, List.mem_range.2 (by omega), ?_⟩⟩
    apply Prod.ext
    · show ((q.1.toNat : Nat) : Int) = q.1; omega
    · show ((q.2.toNat : Nat) : Int) = q.2; omega
theorem pairs_rise (g : Gram) : (pairs24 g).Pairwise before24 := by
  unfold pairs24
  rw [List.pairwise_flatMap]
  refine ⟨fun r _ => ?_, ?_⟩
  · unfold rowAt24
    rw [List.pairwise_map]
    refine List.pairwise_lt_range.imp fun {a b} h => ?_
    exact .inr ⟨rfl, by show (a : Int) < b; omega⟩
  · refine List.pairwise_lt_range.imp fun {a b} h => ?_
    intro x hx y hy
    unfold rowAt24 at hx hy
    rw [List.mem_map] at hx hy
    obtain ⟨_, _, rfl⟩ := hx
    obtain ⟨_, _, rfl⟩ := hy
    exact .inl (by show (a : Int) < b; omega)
theorem find_least {l : List (Int × Int)} {f : Int × Int → Bool} (hl : l.Pairwise before24) {q : Int × Int} (hq : q ∈ l) (h : f q = true) (hm : ∀ q' ∈ l, f q' = true → ¬ before24 q' q) : l.find? f = some q := by
  induction l with
  | nil => cases hq
  | cons a l ih =>
    obtain ⟨h1, h2⟩ := List.pairwise_cons.1 hl
    rw [List.find?_cons]
    rcases List.mem_cons.1 hq with rfl | hq'
    · rw [h]
    · have : f a = false := by
        cases e : f a
        · rfl
        · exact absurd (h1 q hq') (hm a (by simp) e)
      rw [this]
      exact ih h2 hq' (fun q' hq'' => hm q' (List.mem_cons_of_mem _ hq''))
theorem two_in {g : Gram} (hr : rightB g = true) {q : Int × Int} (h : two24 g q = true) : q ∈ pairs24 g := by
  unfold two24 at h
  have h := of_decide_eq_true h
  refine mem_pairs.2 (cell_in hr (n := g.prods.length) (fun e => ?_))
  unfold cell24 at h
  rw [e] at h
  simp at h
theorem clash_is {g : Gram} (hr : rightB g = true) {q : Int × Int} (h : two24 g q = true) (hm : ∀ q', two24 g q' = true → ¬ before24 q' q) : clash24 g = some q := by
  unfold clash24
  rw [if_pos hr]
  exact find_least (pairs_rise g) (two_in hr h) h (fun q' _ => hm q')
theorem clash_no {g : Gram} (h : ∀ q, two24 g q = false) : clash24 g = none := by
  unfold clash24
  split
  · rw [List.find?_eq_none]
    intro q _
    rw [h q]; decide
  · rfl
theorem clash_two {g : Gram} {q : Int × Int} (h : clash24 g = some q) : two24 g q = true := by
  unfold clash24 at h
  split at h
  · exact List.find?_some h
  · cases h
theorem clash_none {g : Gram} (hr : rightB g = true) (h : clash24 g = none) (q : Int × Int) : two24 g q = false := by
  cases e : two24 g q
  · rfl
  · unfold clash24 at h
    rw [if_pos hr, List.find?_eq_none] at h
    exact absurd e (h q (two_in hr e))

/-! ### The table -/
def headOr : List Int → Int
  | [] => -1
  | x :: _ => x
noncomputable def row24 (g : Gram) (r : Int) : List Int := (List.range (g.toks.length + 1)).map fun (t : Nat) => headOr (cell24 g r (t : Int))
noncomputable def table24 (g : Gram) : List (List Int) := if rightB g = true ∧ clash24 g = none then (List.range g.rules.length).map fun (r : Nat) => row24 g (r : Int) else []
noncomputable def err24 (g : Gram) : Int := if rightB g = true then (if clash24 g = none then 0 else 15) else 3
noncomputable def atD24 (g : Gram) : Defect := match clash24 g with
  | some q => ⟨15, q.1, q.2⟩
  | none => D0
noncomputable def second24 (g : Gram) : Int := match clash24 g with
  | some q => (cell24 g q.1 q.2).getD 1 0
  | none => -1
theorem row24_len (g : Gram) (r : Int) : (row24 g r).length = g.toks.length + 1 := by simp [row24]
theorem row24_at {g : Gram} {r : Int} {t : Nat} (h : t < g.toks.length + 1) : (row24 g r)[t]? = some (headOr (cell24 g r (t : Int))) := by
  unfold row24
  rw [List.getElem?_map, List.getElem?_range h]
  rfl
theorem table24_len {g : Gram} (hr : rightB g = true) (hc : clash24 g = none) : (table24 g).length = g.rules.length := by
  unfold table24
  rw [if_pos ⟨hr, hc⟩]
  simp
theorem table24_at {g : Gram} (hr : rightB g = true) (hc : clash24 g = none) {r : Nat} (h : r < g.rules.length) : (table24 g)[r]? = some (row24 g (r : Int)) := by
  unfold table24
  rw [if_pos ⟨hr, hc⟩, List.getElem?_map, List.getElem?_range h]
  rfl
/-- The number at a place. -/
def take24 (t : List (List Int)) (r k : Int) : Int := if 0 ≤ r ∧ r < t.length then (if 0 ≤ k ∧ k < (t.getD r.toNat []).length then (t.getD r.toNat []).getD k.toNat (-1) else -1) else -1
theorem take_table {g : Gram} (hr : rightB g = true) (hc : clash24 g = none) {r k : Nat} (h1 : r < g.rules.length) (h2 : k < g.toks.length + 1) : take24 (table24 g) (r : Int) (k : Int) = headOr (cell24 g (r : Int) (k : Int)) := by
  have e : (table24 g).getD r [] = row24 g (r : Int) := by rw [List.getD_eq_getElem?_getD, table24_at hr hc h1]; rfl
  unfold take24
  rw [if_pos ⟨by omega, by rw [table24_len hr hc]; omega⟩, Int.toNat_natCast, e, if_pos ⟨by omega, by rw [row24_len]; omega⟩, Int.toNat_natCast, List.getD_eq_getElem?_getD, row24_at h2]
  rfl
theorem headOr_neg {l : List Int} (h : ∀ z ∈ l, 0 ≤ z) : 0 ≤ headOr l ↔ l ≠ [] := by
  cases l with
  | nil => simp [headOr]
  | cons x l => simp [headOr, h x (by simp)]
/-- At a rule stands a production just with a token with which it begins, or, if it comes to nothing, with one that follows it. -/
theorem cell_empty {g : Gram} (hr : rightB g = true) {r : Nat} (h : r < g.rules.length) (k : Int) : cell24 g (r : Int) k ≠ [] ↔ k ∈ (all22 g).getD r [] ∨ atB (growsB g false) (r : Int) = true ∧ k ∈ (fol23 g).getD r [] := by
  have hA : (all22 g).getD r [] = firstR g (growsB g false) g.toks.length (r : Int) := by
    unfold all22
    rw [if_pos hr, List.getD_eq_getElem?_getD, allF_at h]
    rfl
  have hv : ∀ p ∈ g.prods, voidOf g p.right = p.right.all (itemSo (growsB g false) false) := fun p hp => voidOf_right hr hp
  have hf : ∀ p ∈ g.prods, firsts22 g p.right = firstL g (growsB g false) g.toks.length p.right := fun p hp => by
    have := firsts_prod hr hp (n := 0)
    rwa [List.drop_zero] at this
  have hg : atB (growsB g false) (r : Int) = true ↔ ∃ p, p ∈ g.prods ∧ p.left = (r : Int) ∧ p.right.all (itemSo (growsB g false) false) = true := by
    rw [atB_grows ⟨by omega, by omega⟩, grows_iff (rightB_sound hr)]
  have hpred : ∀ p ∈ g.prods, p.left = (r : Int) → (k ∈ predP g p ↔ k ∈ firsts22 g p.right ∨ voidOf g p.right = true ∧ k ∈ (fol23 g).getD r []) := by
    intro p hp hl
    unfold predP
    rw [hl, Int.toNat_natCast]
    by_cases e : voidOf g p.right = true
    · rw [if_pos e, mem_unionOf]; simp [e]
    · rw [if_neg e]; simp [e]
  rw [hA, mem_firstR, begins_iff, hg]
  constructor
  · intro hne
    obtain ⟨z, hz⟩ := List.exists_mem_of_ne_nil _ hne
    obtain ⟨i, p, rfl, _, hp, h1, h2⟩ := mem_cellTo.1 hz
    have hpm := List.mem_of_getElem? hp
    rcases (hpred p hpm h1).1 h2 with h2 | ⟨h2, h3⟩
    · rw [hf p hpm, mem_firstL] at h2
      exact .inl ⟨h2.1, h2.2.1, p, hpm, h1, h2.2.2⟩
    · rw [hv p hpm] at h2
      exact .inr ⟨⟨p, hpm, h1, h2⟩, h3⟩
  · have key : ∀ p ∈ g.prods, p.left = (r : Int) → k ∈ predP g p → cell24 g (r : Int) k ≠ [] := by
      intro p hp hl hk e
      obtain ⟨i, hi, rfl⟩ := List.getElem_of_mem hp
      have : (i : Int) ∈ cell24 g (r : Int) k := mem_cellTo.2 ⟨i, _, rfl, hi, List.getElem?_eq_getElem hi, hl, hk⟩
      rw [e] at this
      cases this
    rintro (⟨h0, h1, p, hp, hl, hs⟩ | ⟨⟨p, hp, hl, hs⟩, hk⟩)
    · refine key p hp hl ((hpred p hp hl).2 (.inl ?_))
      rw [hf p hp, mem_firstL]
      exact ⟨h0, h1, hs⟩
    · refine key p hp hl ((hpred p hp hl).2 (.inr ⟨?_, hk⟩))
      rw [hv p hp]
      exact hs
end Go.Proofs.Ytmlggfapnkhcaaa

namespace Go.Proofs.Ytmlggfapnkhcaaa
open Go.RowKit Go.Shelf
attribute [local simp] wide_fn

-- FIRSTOFN
set_option maxRecDepth 20000 in
set_option maxHeartbeats 8000000 in
theorem first_OfN (a b c v : Value) (g : Gram) (l : List Item) (w : World) (HG : GramIs w (Old w) a b c g) (hsm : Small g) (hR : Rd w (Old w) 4 v l.length (l.flatMap itCells)) :
    Calls Try.prog 19 #[.agg (gramCells a b c g), v] w fun r w' => (∃ u, r = .returned u ∧ Hid (Ints w' (fun k => w.heap.size ≤ k ∧ k < w'.heap.size) u (firsts22 g l))) ∧ Below w.heap.size w w' := by
  have HKn := hidden (fun (w' : World) (hb : Below w.heap.size w w') => first_know a b c g w' (HG.old hb) hsm)
  have HRg := hidden (fun (w' : World) (hb : Below w.heap.size w w') => first_right a b c v g l w' (HG.old hb) (Rd.old hR hb))
  have HRo := hidden (fun (w' : World) (hb : Below w.heap.size w w') => Rd.old hR hb)
  have hN := hsm.toks
  obtain ⟨⟨A1, k1, rfl, v1, m1⟩, ⟨A2, k2, rfl, v2, m2⟩, ⟨A3, k3, rfl, v3, m3⟩⟩ := HG.vals
  obtain ⟨A, c, rfl, hc1, hc2⟩ := hR.val
  have hb0 : Below w.heap.size w (w.alloc (.cells #[.slice A1 g.toks.length k1, .slice A2 g.rules.length k2, .slice A3 g.prods.length k3, .int .i64 g.start, .int .i64 g.states, .int .i64 g.text, .int .i64 g.nodes, .int .i64 g.pairs] 26)) := (by repeat (first | (with_reducible exact Below.refl _ _) | (with_reducible assumption) | (with_reducible refine Below.drew ?_) | (with_reducible refine below_drewN ?_ _) | ((with_reducible refine below_alloc ?_ ?_); (focus (first | omega | (simp; done) | (simp; omega)))) | ((with_reducible refine below_set ?_ ?_); (focus (first | omega | (simp; done) | (simp; omega))))))
  have HB0 := hidden (Holds.new w 26 #[.slice A1 g.toks.length k1, .slice A2 g.rules.length k2, .slice A3 g.prods.length k3, .int .i64 g.start, .int .i64 g.states, .int .i64 g.text, .int .i64 g.nodes, .int .i64 g.pairs])
  generalize hP : firsts22 g l = P
  have HP := hidden hP
  clear HG hR hP hsm
  unfold gramCells at *
  go_enter Try.func19, Try.ntmps19
  obtain ⟨s0, s1, s2, s3, s4, s5, s6, s7⟩ := eight22 HB0.out
  go_wp2_with fail
  refine (HKn.out _ hb0).mono ?_
  rintro r w2 ⟨⟨vk, rfl, hk⟩, hb2⟩
  replace HB0 := hidden (HB0.out.below hb2 HB0.out.lt)
  replace hb0 := hb0.trans (hb2.mono hb0.size)
  clear s0 s1 s2 s3 s4 s5 s6 s7 hb2 HKn
  cases hg : rightB g with
  | false =>
    have hk := hk.out
    unfold KnownIs at hk
    rw [hg] at hk
    obtain rfl : vk = .pointer none := hk
    have HE : Hid (P = []) := hidden (by rw [← HP.out]; unfold firsts22; rw [hg]; rfl)
    go_wp2
    go_ret
    exact ⟨⟨_, rfl, hidden (by rw [HE.out]; exact Rd.nil _ _ _)⟩, by first | exact hb0 | exact hb0.drew | exact below_drewN hb0 _⟩
  | true =>
    have hk := hk.out
    unfold KnownIs at hk
    rw [if_pos hg] at hk
    obtain ⟨K, q, qe, rfl, hq, hka⟩ := hk
    have HKa := hidden hka
    clear hka
    obtain ⟨s0, s1, s2, s3, s4, s5, s6, s7⟩ := eight22 HB0.out
    go_wp2_with fail
    refine (HRg.out _ (by (first | assumption | exact Below.drew (Below.refl _ _) | exact Below.refl _ _))).mono ?_
    rintro r w3 ⟨rfl, hb3⟩
    replace HKa := hidden (HKa.out.later hb3)
    replace hb0 := hb0.trans (hb3.mono hb0.size)
    clear s0 s1 s2 s3 s4 s5 s6 s7 hb3 HRg
    cases hi : itemsIn g l with
    | false =>
      have HE : Hid (P = []) := hidden (by rw [← HP.out]; unfold firsts22; rw [hi, Bool.and_false]; rfl)
      go_wp2
      go_ret
      exact ⟨⟨_, rfl, hidden (by rw [HE.out]; exact Rd.nil _ _ _)⟩, hb0⟩
    | true =>
      have HE : Hid (P = ofF (growsB g false) (allF g (growsB g false)) l []) := hidden (by rw [← HP.out, of_all hi]; unfold firsts22; rw [hg, hi]; rfl)
      have HOf := hidden (known_of w3 K q g.toks.length _ (.slice A l.length c) (growsB g false) (allF g (growsB g false)) l HKa.out (bd_allF g _) hN (by rw [growsB_len, allF_len]) (itemsOk_in hi (allF_len g _)) (HRo.out _ hb0))
      go_wp2_with fail
      refine HOf.out.mono ?_
      rintro r w4 ⟨⟨u, rfl, hu, _⟩, hb4⟩
      obtain ⟨Au, cu, rfl, _, _⟩ := hu.out.rd.val
      have HU : Hid (Ints w4 (fun k => w.heap.size ≤ k ∧ k < w4.heap.size) (.slice Au (ofF (growsB g false) (allF g (growsB g false)) l []).length cu) P) := hidden (by rw [HE.out]; exact Mine.rd hu.out (fun _ _ h1 h2 => ⟨Nat.le_trans hb0.size h1, h2⟩))
      have hbe := hb0.trans (hb4.mono hb0.size)
      clear hu hb4 HOf HKa
      generalize ofF (growsB g false) (allF g (growsB g false)) l [] = X at *
      go_wp2
      go_ret
      exact ⟨⟨_, rfl, HU⟩, hbe⟩
-- END FIRSTOFN
theorem predP_is {g : Gram} {p : Prod} {m : Nat} (hm : p.left = (m : Int)) {fm : List Int} (h : (fol23 g)[m]? = some fm) : predP g p = if voidOf g p.right = true then mergeU (firsts22 g p.right) fm else firsts22 g p.right := by
  have e : (fol23 g).getD p.left.toNat [] = fm := by rw [hm, Int.toNat_natCast, List.getD_eq_getElem?_getD, h]; rfl
  have hF := getD_bd (bd_fol23 g) p.left.toNat
  rw [e] at hF
  unfold predP
  rw [e, unionOf_asc (asc_firsts g p.right) hF.1]

set_option maxRecDepth 20000 in
set_option maxHeartbeats 8000000 in
theorem table_predict (a b c vb l1 : Value) (g : Gram) (p : Prod) (w : World) (HG : GramIs w (Old w) a b c g) (hsm : Small g) (hr : rightB g = true) (hp : p ∈ g.prods) (hR : Rd w (Old w) 4 l1 p.right.length (p.right.flatMap itCells)) (hF : Rows2 w (Old w) vb (fol23 g)) :
    Calls Try.prog 100 #[.agg (gramCells a b c g), vb, .agg #[.int .i64 p.left, l1]] w fun r w' => (∃ u, r = .returned u ∧ Hid (Ints w' (fun k => w.heap.size ≤ k ∧ k < w'.heap.size) u (predP g p))) ∧ Below w.heap.size w w' := by
  have HOf := hidden (fun (w' : World) (hb : Below w.heap.size w w') => first_OfN a b c l1 g p.right w' (HG.old hb) hsm (Rd.old hR hb))
  have HVo := hidden (fun (w' : World) (hb : Below w.heap.size w w') => null_Void a b c l1 g p.right w' (HG.old hb) hsm (Rd.old hR hb))
  have HFo := hidden (fun (w' : World) (hb : Below w.heap.size w w') => Recs.old hF hb)
  have hpl := (whole22 hr).left p hp
  obtain ⟨m, hm⟩ : ∃ m : Nat, p.left = (m : Int) := ⟨p.left.toNat, by omega⟩
  have hml : m < (fol23 g).length := by rw [fol23_len hr]; omega
  have hg := List.getElem?_eq_getElem hml
  have hl2 := (bd_fol23 g _ (List.getElem_mem hml)).len
  generalize (fol23 g)[m] = fm at *
  have HPd := hidden (predP_is hm hg)
  have HgF := hidden hg
  have hl1 := firsts_len g p.right
  have hN := hsm.toks
  obtain ⟨A4, k4, rfl, hk4, hm4⟩ := hR.val
  obtain ⟨⟨A1, k1, rfl, v1, m1⟩, ⟨A2, k2, rfl, v2, m2⟩, ⟨A3, k3, rfl, v3, m3⟩⟩ := HG.vals
  obtain ⟨Ab, cb, rfl, hcb1, hcb2⟩ := hF.value
  rw [hm]
  have hb1 : Below w.heap.size w ((w.alloc (.cells #[.slice A1 g.toks.length k1, .slice A2 g.rules.length k2, .slice A3 g.prods.length k3, .int .i64 g.start, .int .i64 g.states, .int .i64 g.text, .int .i64 g.nodes, .int .i64 g.pairs] 26)).alloc (.cells #[.int .i64 (m : Int), .slice A4 p.right.length k4] 45)) := (by repeat (first | (with_reducible exact Below.refl _ _) | (with_reducible assumption) | (with_reducible refine Below.drew ?_) | (with_reducible refine below_drewN ?_ _) | ((with_reducible refine below_alloc ?_ ?_); (focus (first | omega | (simp; done) | (simp; omega)))) | ((with_reducible refine below_set ?_ ?_); (focus (first | omega | (simp; done) | (simp; omega))))))
  have HG1 : Hid (Holds ((w.alloc (.cells #[.slice A1 g.toks.length k1, .slice A2 g.rules.length k2, .slice A3 g.prods.length k3, .int .i64 g.start, .int .i64 g.states, .int .i64 g.text, .int .i64 g.nodes, .int .i64 g.pairs] 26)).alloc (.cells #[.int .i64 (m : Int), .slice A4 p.right.length k4] 45)) w.heap.size 26 #[.slice A1 g.toks.length k1, .slice A2 g.rules.length k2, .slice A3 g.prods.length k3, .int .i64 g.start, .int .i64 g.states, .int .i64 g.text, .int .i64 g.nodes, .int .i64 g.pairs]) := hidden (by repeat (first | (with_reducible assumption) | ((with_reducible refine holds_new ?_); (focus (first | rfl | (simp; done)))) | (with_reducible refine Holds.alloc ?_ _) | (with_reducible refine Holds.drew ?_)))
  have HP1 : Hid (Holds ((w.alloc (.cells #[.slice A1 g.toks.length k1, .slice A2 g.rules.length k2, .slice A3 g.prods.length k3, .int .i64 g.start, .int .i64 g.states, .int .i64 g.text, .int .i64 g.nodes, .int .i64 g.pairs] 26)).alloc (.cells #[.int .i64 (m : Int), .slice A4 p.right.length k4] 45)) (w.heap.size + 1) 45 #[.int .i64 (m : Int), .slice A4 p.right.length k4]) := hidden (by repeat (first | (with_reducible assumption) | ((with_reducible refine holds_new ?_); (focus (first | rfl | (simp; done)))) | (with_reducible refine Holds.alloc ?_ _) | (with_reducible refine Holds.drew ?_)))
  obtain ⟨s0, s1, s2, s3, s4, s5, s6, s7⟩ := eight22 HG1.out
  clear HG hsm hR hF hg hpl hr hp
  unfold gramCells maxLen at *
  generalize fol23 g = F at *
  generalize predP g p = pp at *
  generalize firsts22 g p.right = fs at *
  generalize voidOf g p.right = vo at *
  go_enter Try.func100, Try.ntmps100
  go_upto_region 1 with fail
  generalize ((w.alloc (.cells #[.slice A1 g.toks.length k1, .slice A2 g.rules.length k2, .slice A3 g.prods.length k3, .int .i64 g.start, .int .i64 g.states, .int .i64 g.text, .int .i64 g.nodes, .int .i64 g.pairs] 26)).alloc (.cells #[.int .i64 (m : Int), .slice A4 p.right.length k4] 45)) = w1 at *
  have c1 : w1.cell? ⟨w.heap.size + 1, 1, none⟩ = some (.slice A4 p.right.length k4) := HP1.out.cell 1
  go_wp2_with fail
  refine (HOf.out _ hb1).mono ?_
  rintro e w2 ⟨⟨u2, rfl, hu2⟩, hb2⟩
  have hl : Hid (Ints w2 (fun k => w.heap.size ≤ k ∧ k < w2.heap.size) u2 fs) := hidden (hu2.out.mono (fun k hk => ⟨Nat.le_trans hb1.size hk.1, hk.2⟩))
  replace HG1 := hidden (HG1.out.below hb2 HG1.out.lt)
  replace HP1 := hidden (HP1.out.below hb2 HP1.out.lt)
  replace hb1 := hb1.trans (hb2.mono hb1.size)
  clear hb2 s0 s1 s2 s3 s4 s5 s6 s7 c1 hu2 HOf
  obtain ⟨A5, k5, rfl, _, _⟩ := hl.out.val
  have c1 : w2.cell? ⟨w.heap.size + 1, 1, none⟩ = some (.slice A4 p.right.length k4) := HP1.out.cell 1
  obtain ⟨s0, s1, s2, s3, s4, s5, s6, s7⟩ := eight22 HG1.out
  go_wp2_with fail
  refine (HVo.out _ hb1).mono ?_
  rintro e w3 ⟨rfl, hb3⟩
  replace HP1 := hidden (HP1.out.below hb3 HP1.out.lt)
  replace hb1 := hb1.trans (hb3.mono hb1.size)
  have hl3 : Hid (Ints w3 (fun k => w.heap.size ≤ k ∧ k < w3.heap.size) (.slice A5 fs.length k5) fs) := hidden ((Rd.below hl.out hb3 (fun _ h => h.2)).mono (fun k hk => ⟨hk.1, Nat.lt_of_lt_of_le hk.2 hb3.size⟩))
  clear hl
  clear hb3 s0 s1 s2 s3 s4 s5 s6 s7 c1 HVo HG1
  cases vo
  · rw [if_neg (by decide)] at HPd
    go_wp2
    go_ret
    exact ⟨⟨_, rfl, hidden (by rw [HPd.out]; exact hl3.out)⟩, hb1⟩
  · rw [if_pos rfl] at HPd
    have c0 : w3.cell? ⟨w.heap.size + 1, 0, none⟩ = some (.int .i64 (m : Int)) := HP1.out.cell 0
    obtain ⟨bu, ou, ur, rfl, hTu, hcu, hru⟩ := Rows2.row (HFo.out _ hb1) HgF.out
    obtain ⟨Ar, cr, rfl, _, _⟩ := hru.val
    have hTu' : bu < w3.heap.size := hTu
    have HU := hidden (many_Union w3 _ _ _ _ (hl3.out.mono (fun _ h => h.2)) hru (by omega))
    clear hru hTu HFo
    go_wp2_with fail
    refine HU.out.mono ?_
    rintro e w4 ⟨⟨u4, rfl, hu4⟩, hb4⟩
    have hb5 := hb1.trans (hb4.mono hb1.size)
    have hR4 := hidden (Mine.rd (T := fun k => w.heap.size ≤ k ∧ k < w4.heap.size) hu4.out (fun _ _ h1 h2 => ⟨Nat.le_trans hb1.size h1, h2⟩))
    obtain ⟨A6, k6, rfl⟩ := hu4.out.value
    clear hb4 hu4 HU
    go_wp2
    go_ret
    exact ⟨⟨_, rfl, hidden (by rw [HPd.out]; exact hR4.out)⟩, hb5⟩
end Go.Proofs.Ytmlggfapnkhcaaa

namespace Go.Proofs.Ytmlggfapnkhcaaa
open Go.RowKit Go.Shelf
attribute [local simp] wide_fn

theorem keep_ten {wr w1 w2 : World} {p b o b' o' : Nat} {t : TypeId} {a0 a1 a2 a3 a4 a5 a6 a7 v v' : Value} (H : Holds wr p t #[a0, a1, a2, a3, a4, a5, a6, a7]) (hc : wr.cell? ⟨b, o, none⟩ = some v) (hc' : wr.cell? ⟨b', o', none⟩ = some v') (hb : Below wr.heap.size wr w1) (hb2 : Below w1.heap.size w1 w2) :
    w2.cell? ⟨p, 0, none⟩ = some a0 ∧ w2.cell? ⟨p, 1, none⟩ = some a1 ∧ w2.cell? ⟨p, 2, none⟩ = some a2 ∧ w2.cell? ⟨p, 3, none⟩ = some a3 ∧ w2.cell? ⟨p, 4, none⟩ = some a4 ∧ w2.cell? ⟨p, 5, none⟩ = some a5 ∧ w2.cell? ⟨p, 6, none⟩ = some a6 ∧ w2.cell? ⟨p, 7, none⟩ = some a7 ∧ w2.cell? ⟨b, o, none⟩ = some v ∧ w2.cell? ⟨b', o', none⟩ = some v' ∧ Below wr.heap.size wr w2 := by
  have hbb := hb.trans (hb2.mono hb.size)
  obtain ⟨x0, x1, x2, x3, x4, x5, x6, x7⟩ := eight22 (H.below hbb H.lt)
  exact ⟨x0, x1, x2, x3, x4, x5, x6, x7, cell_onI hc hbb, cell_onI hc' hbb, hbb⟩
theorem take_cases (F : List (List Int)) (r t : Int) : (r < 0 ∧ take24 F r t = -1) ∨ (0 ≤ r ∧ (F.length : Int) ≤ r ∧ take24 F r t = -1) ∨ ∃ (m : Nat) (l : List Int), r = (m : Int) ∧ F[m]? = some l ∧ ((t < 0 ∧ take24 F r t = -1) ∨ (0 ≤ t ∧ (l.length : Int) ≤ t ∧ take24 F r t = -1) ∨ ∃ (k : Nat) (z : Int), t = (k : Int) ∧ l[k]? = some z ∧ take24 F r t = z) := by
  by_cases h0 : r < 0
  · exact .inl ⟨h0, by unfold take24; rw [if_neg (by omega)]⟩
  · by_cases h1 : (F.length : Int) ≤ r
    · exact .inr (.inl ⟨by omega, h1, by unfold take24; rw [if_neg (by omega)]⟩)
    · obtain ⟨m, rfl⟩ : ∃ m : Nat, r = (m : Int) := ⟨r.toNat, by omega⟩
      have hm : m < F.length := by omega
      have hx := List.getElem?_eq_getElem hm
      refine .inr (.inr ⟨m, F[m], rfl, hx, ?_⟩)
      have hD : F.getD (m : Int).toNat [] = F[m] := by rw [Int.toNat_natCast, List.getD_eq_getElem?_getD, hx]; rfl
      have e : take24 F (m : Int) t = if 0 ≤ t ∧ t < (F[m]).length then (F[m]).getD t.toNat (-1) else -1 := by
        unfold take24
        rw [if_pos ⟨by omega, by omega⟩, hD]
      rw [e]
      by_cases h2 : t < 0
      · exact .inl ⟨h2, if_neg (by omega)⟩
      · by_cases h3 : ((F[m]).length : Int) ≤ t
        · exact .inr (.inl ⟨by omega, h3, if_neg (by omega)⟩)
        · obtain ⟨k, rfl⟩ : ∃ k : Nat, t = (k : Int) := ⟨t.toNat, by omega⟩
          have hk : k < (F[m]).length := by omega
          have hz := List.getElem?_eq_getElem hk
          refine .inr (.inr ⟨k, (F[m])[k], rfl, hz, ?_⟩)
          rw [if_pos ⟨by omega, by omega⟩, Int.toNat_natCast, List.getD_eq_getElem?_getD, hz]
          rfl
set_option maxRecDepth 20000 in
set_option maxHeartbeats 4000000 in
theorem table_Take (v : Value) (F : List (List Int)) (r t : Int) (T : Nat → Prop) (w : World) (hF : Rows2 w T v F) :
    Calls Try.prog 53 #[v, .int .i64 r, .int .i64 t] w fun e w' => e = .returned (.int .i64 (take24 F r t)) ∧ w = w' := by
  obtain ⟨A, c, rfl, hc1, hc2⟩ := hF.value
  have HC := hidden (take_cases F r t)
  generalize take24 F r t = res at *
  rcases HC.out with ⟨h0, h1⟩ | ⟨h0, h1, h2⟩ | ⟨m, l, h0, hx, hc⟩
  · have d0 : decide (r < 0) = true := decide_eq_true h0
    have HE := hidden h1
    clear h0 h1 hF HC
    go_enter Try.func53, Try.ntmps53
    go_wp2
    go_ret
    exact ⟨by rw [HE.out]; rfl, rfl⟩
  · have d0 : decide (r < 0) = false := decide_eq_false (by omega)
    have d1 : decide ((F.length : Int) ≤ r) = true := decide_eq_true h1
    have HE := hidden h2
    clear h0 h1 h2 hF HC
    go_enter Try.func53, Try.ntmps53
    go_wp2
    go_ret
    exact ⟨by rw [HE.out]; rfl, rfl⟩
  · have hm := (List.getElem?_eq_some_iff.1 hx).1
    obtain ⟨b1, o1, u, rfl, _, c0, hr⟩ := Rows2.row hF hx
    obtain ⟨A2, c2, rfl, _, _⟩ := hr.val
    have HR := hidden hr
    have HC2 := hidden hc
    subst h0
    have d0 : decide ((m : Int) < 0) = false := decide_eq_false (by omega)
    have d1 : decide ((F.length : Int) ≤ (m : Int)) = false := decide_eq_false (by omega)
    clear hF hr hc HC hx
    rcases HC2.out with ⟨h0, h1⟩ | ⟨h0, h1, h2⟩ | ⟨k, z, h0, hz, h1⟩
    · have d2 : decide (t < 0) = true := decide_eq_true h0
      have d3 : decide (0 ≤ t) = false := decide_eq_false (by omega)
      have HE := hidden h1
      clear h0 h1 HC2
      go_enter Try.func53, Try.ntmps53
      go_wp2
      go_ret
      exact ⟨by rw [HE.out]; rfl, rfl⟩
    · have d2 : decide (t < 0) = false := decide_eq_false (by omega)
      have d3 : decide (0 ≤ t) = true := decide_eq_true h0
      have d4 : decide ((l.length : Int) ≤ t) = true := decide_eq_true h1
      have d5 : decide (t < (l.length : Int)) = false := decide_eq_false (by omega)
      have HE := hidden h2
      clear h0 h1 h2 HC2
      go_enter Try.func53, Try.ntmps53
      go_wp2
      go_ret
      exact ⟨by rw [HE.out]; rfl, rfl⟩
    · have hk := (List.getElem?_eq_some_iff.1 hz).1
      subst h0
      obtain ⟨b2, o2, rfl, _, z0⟩ := row_at HR.out hz
      have d2 : decide ((k : Int) < 0) = false := decide_eq_false (by omega)
      have d3 : decide (0 ≤ (k : Int)) = true := decide_eq_true (by omega)
      have d4 : decide ((l.length : Int) ≤ (k : Int)) = false := decide_eq_false (by omega)
      have d5 : decide ((k : Int) < (l.length : Int)) = true := decide_eq_true (by omega)
      have HE := hidden h1
      clear h1 HC2 hz HR
      go_enter Try.func53, Try.ntmps53
      go_wp2
      go_ret
      exact ⟨by rw [HE.out]; rfl, rfl⟩
set_option maxRecDepth 20000 in
set_option maxHeartbeats 4000000 in
theorem ref_Take24 (v : Value) (F : List (List Int)) (r t : Int) (T : Nat → Prop) (w : World) (hF : Rows2 w T v F) :
    Calls Try.prog 54 #[v, .int .i64 r, .int .i64 t] w fun e w' => e = .returned (.int .i64 (take24 F r t)) ∧ w = w' := by
  obtain ⟨A, c, rfl, hc1, hc2⟩ := hF.value
  have HC := hidden (take_cases F r t)
  generalize take24 F r t = res at *
  rcases HC.out with ⟨h0, h1⟩ | ⟨h0, h1, h2⟩ | ⟨m, l, h0, hx, hc⟩
  · have d0 : decide (r < 0) = true := decide_eq_true h0
    have HE := hidden h1
    clear h0 h1 hF HC
    go_enter Try.func54, Try.ntmps54
    go_wp2
    go_ret
    exact ⟨by rw [HE.out]; rfl, rfl⟩
  · have d0 : decide (r < 0) = false := decide_eq_false (by omega)
    have d1 : decide ((F.length : Int) ≤ r) = true := decide_eq_true h1
    have HE := hidden h2
    clear h0 h1 h2 hF HC
    go_enter Try.func54, Try.ntmps54
    go_wp2
    go_ret
    exact ⟨by rw [HE.out]; rfl, rfl⟩
  · have hm := (List.getElem?_eq_some_iff.1 hx).1
    obtain ⟨b1, o1, u, rfl, _, c0, hr⟩ := Rows2.row hF hx
    obtain ⟨A2, c2, rfl, _, _⟩ := hr.val
    have HR := hidden hr
    have HC2 := hidden hc
    subst h0
    have d0 : decide ((m : Int) < 0) = false := decide_eq_false (by omega)
    have d1 : decide ((F.length : Int) ≤ (m : Int)) = false := decide_eq_false (by omega)
    clear hF hr hc HC hx
    rcases HC2.out with ⟨h0, h1⟩ | ⟨h0, h1, h2⟩ | ⟨k, z, h0, hz, h1⟩
    · have d2 : decide (t < 0) = true := decide_eq_true h0
      have d3 : decide (0 ≤ t) = false := decide_eq_false (by omega)
      have HE := hidden h1
      clear h0 h1 HC2
      go_enter Try.func54, Try.ntmps54
      go_wp2
      go_ret
      exact ⟨by rw [HE.out]; rfl, rfl⟩
    · have d2 : decide (t < 0) = false := decide_eq_false (by omega)
      have d3 : decide (0 ≤ t) = true := decide_eq_true h0
      have d4 : decide ((l.length : Int) ≤ t) = true := decide_eq_true h1
      have d5 : decide (t < (l.length : Int)) = false := decide_eq_false (by omega)
      have HE := hidden h2
      clear h0 h1 h2 HC2
      go_enter Try.func54, Try.ntmps54
      go_wp2
      go_ret
      exact ⟨by rw [HE.out]; rfl, rfl⟩
    · have hk := (List.getElem?_eq_some_iff.1 hz).1
      subst h0
      obtain ⟨b2, o2, rfl, _, z0⟩ := row_at HR.out hz
      have d2 : decide ((k : Int) < 0) = false := decide_eq_false (by omega)
      have d3 : decide (0 ≤ (k : Int)) = true := decide_eq_true (by omega)
      have d4 : decide ((l.length : Int) ≤ (k : Int)) = false := decide_eq_false (by omega)
      have d5 : decide ((k : Int) < (l.length : Int)) = true := decide_eq_true (by omega)
      have HE := hidden h1
      clear h1 HC2 hz HR
      go_enter Try.func54, Try.ntmps54
      go_wp2
      go_ret
      exact ⟨by rw [HE.out]; rfl, rfl⟩
theorem predN_cases (g : Gram) (i : Int) : (rightB g = false ∧ predN g i = []) ∨ (rightB g = true ∧ i < 0 ∧ predN g i = []) ∨ (rightB g = true ∧ 0 ≤ i ∧ (g.prods.length : Int) ≤ i ∧ predN g i = []) ∨ (rightB g = true ∧ ∃ (m : Nat) (p : Prod), i = (m : Int) ∧ g.prods[m]? = some p ∧ predN g i = predP g p) := by
  cases hr : rightB g
  · exact .inl ⟨rfl, by unfold predN; rw [hr, if_neg (by simp)]⟩
  · by_cases h0 : i < 0
    · exact .inr (.inl ⟨rfl, h0, by unfold predN; rw [if_neg (by omega)]⟩)
    · by_cases h1 : (g.prods.length : Int) ≤ i
      · exact .inr (.inr (.inl ⟨rfl, by omega, h1, by unfold predN; rw [if_neg (by omega)]⟩))
      · obtain ⟨m, rfl⟩ : ∃ m : Nat, i = (m : Int) := ⟨i.toNat, by omega⟩
        have hx := List.getElem?_eq_getElem (show m < g.prods.length by omega)
        exact .inr (.inr (.inr ⟨rfl, m, _, rfl, hx, predN_at hr hx⟩))

set_option maxRecDepth 20000 in
set_option maxHeartbeats 8000000 in
theorem table_Predict (a b c : Value) (g : Gram) (i : Int) (w : World) (HG : GramIs w (Old w) a b c g) (hsm : Small g) :
    Calls Try.prog 60 #[.agg (gramCells a b c g), .int .i64 i] w fun r w' => (∃ u, r = .returned u ∧ Hid (Ints w' (fun k => w.heap.size ≤ k ∧ k < w'.heap.size) u (predN g i))) ∧ Below w.heap.size w w' := by
  have HRt := hidden (fun (w' : World) (hb : Below w.heap.size w w') => gram_Right a b c g w' (HG.old hb) hsm.toks hsm.rules hsm.prods hsm.names)
  have HFo := hidden (fun (w' : World) (hb : Below w.heap.size w w') => follow_All a b c g w' (HG.old hb) hsm)
  have HPp := hidden (fun (hr : rightB g = true) (w' : World) (hb : Below w.heap.size w w') vb l1 (p : Prod) (hp : p ∈ g.prods) hR hF => table_predict a b c vb l1 g p w' (HG.old hb) hsm hr hp hR hF)
  have HC := hidden (predN_cases g i)
  have HGo := hidden HG.2.2
  obtain ⟨⟨A1, k1, rfl, v1, m1⟩, ⟨A2, k2, rfl, v2, m2⟩, ⟨A3, k3, rfl, v3, m3⟩⟩ := HG.vals
  have hb1 := below_new w (.cells #[.slice A1 g.toks.length k1, .slice A2 g.rules.length k2, .slice A3 g.prods.length k3, .int .i64 g.start, .int .i64 g.states, .int .i64 g.text, .int .i64 g.nodes, .int .i64 g.pairs] 26)
  have HG1 := hidden (Holds.new w 26 #[.slice A1 g.toks.length k1, .slice A2 g.rules.length k2, .slice A3 g.prods.length k3, .int .i64 g.start, .int .i64 g.states, .int .i64 g.text, .int .i64 g.nodes, .int .i64 g.pairs])
  obtain ⟨s0, s1, s2, s3, s4, s5, s6, s7⟩ := eight22 HG1.out
  clear HG hsm
  unfold gramCells at *
  generalize hpn : predN g i = pn at *
  clear hpn
  go_enter Try.func60, Try.ntmps60
  go_wp2_with fail
  refine (HRt.out _ hb1).mono ?_
  rintro e w2 ⟨rfl, hb2⟩
  replace HG1 := hidden (HG1.out.below hb2 HG1.out.lt)
  replace hb1 := hb1.trans (hb2.mono hb1.size)
  clear hb2 s0 s1 s2 s3 s4 s5 s6 s7 HRt
  obtain ⟨s0, s1, s2, s3, s4, s5, s6, s7⟩ := eight22 HG1.out
  have hgl := HG1.out.lt
  rcases HC.out with ⟨hr, hE⟩ | ⟨hr, h0, hE⟩ | ⟨hr, h0, h1, hE⟩ | ⟨hr, m, p, hi, hx, hE⟩
  · have HE := hidden hE
    rw [hr]
    clear hE hr HC
    go_wp2
    go_ret
    exact ⟨⟨_, rfl, hidden (by rw [HE.out]; exact Rd.nil _ _ _)⟩, hb1⟩
  · have HE := hidden hE
    rw [hr]
    have d0 : decide (i < 0) = true := decide_eq_true h0
    clear hE hr HC h0
    go_wp2
    go_ret
    exact ⟨⟨_, rfl, hidden (by rw [HE.out]; exact Rd.nil _ _ _)⟩, hb1⟩
  · have HE := hidden hE
    rw [hr]
    have d0 : decide (i < 0) = false := decide_eq_false (by omega)
    have d1 : decide ((g.prods.length : Int) ≤ i) = true := decide_eq_true h1
    clear hE hr HC h0 h1
    go_wp2
    go_ret
    exact ⟨⟨_, rfl, hidden (by rw [HE.out]; exact Rd.nil _ _ _)⟩, hb1⟩
  · have HE := hidden hE
    subst hi
    have hm := (List.getElem?_eq_some_iff.1 hx).1
    have HPm := hidden (List.mem_of_getElem? hx)
    have d0 : decide ((m : Int) < 0) = false := decide_eq_false (by omega)
    have d1 : decide ((g.prods.length : Int) ≤ (m : Int)) = false := decide_eq_false (by omega)
    have HPq := hidden (HPp.out hr)
    obtain ⟨b1, o1, l1, rfl, hT, hat, hin⟩ := HGo.out.at_ hx
    have hin : Rd w (Old w) 4 l1 p.right.length (p.right.flatMap itCells) := hin
    have hT2 : b1 < w.heap.size := hT
    have hT' : b1 < w2.heap.size := Nat.lt_of_lt_of_le hT2 hb1.size
    have y0 : w2.cell? ⟨b1, o1 + m * 2, none⟩ = some (.int .i64 p.left) := (hb1.cell (p := ⟨b1, o1 + m * 2, none⟩) hT2).trans (hat 0 _ rfl)
    have y1' := (hb1.cell (p := ⟨b1, o1 + m * 2 + 1, none⟩) hT2).trans (hat 1 _ rfl)
    obtain ⟨A4, k4, rfl, hk4, hm4⟩ := hin.val
    have y1 : w2.cell? ⟨b1, o1 + m * 2 + 1, none⟩ = some (.slice A4 p.right.length k4) := y1'
    have HIn := hidden (fun (wx : World) (hb : Below w.heap.size w wx) => Rd.old hin hb)
    rw [hr]
    clear hE hr HC hx hat y1' hin hT hT2 HPp HGo
    have HHd := hidden HG1.out
    have HY := hidden (And.intro y0 y1)
    go_wp2_with fail
    go_region_held3 (fun w' => w'.cell? ⟨w.heap.size, 0, none⟩ = some (.slice A1 g.toks.length k1) ∧ w'.cell? ⟨w.heap.size, 1, none⟩ = some (.slice A2 g.rules.length k2) ∧ w'.cell? ⟨w.heap.size, 2, none⟩ = some (.slice (some ⟨b1, o1, none⟩) g.prods.length k3) ∧ w'.cell? ⟨w.heap.size, 3, none⟩ = some (.int .i64 g.start) ∧ w'.cell? ⟨w.heap.size, 4, none⟩ = some (.int .i64 g.states) ∧ w'.cell? ⟨w.heap.size, 5, none⟩ = some (.int .i64 g.text) ∧ w'.cell? ⟨w.heap.size, 6, none⟩ = some (.int .i64 g.nodes) ∧ w'.cell? ⟨w.heap.size, 7, none⟩ = some (.int .i64 g.pairs) ∧ w'.cell? ⟨b1, o1 + m * 2, none⟩ = some (.int .i64 p.left) ∧ w'.cell? ⟨b1, o1 + m * 2 + 1, none⟩ = some (.slice A4 p.right.length k4) ∧ Below w2.heap.size w2 w')
      (first | exact ⟨s0, s1, s2, s3, s4, s5, s6, s7, y0, y1, (Below.refl _ _).drew⟩ | (go_split_ands; exact keep_ten HHd.out HY.out.1 HY.out.2 (by (first | assumption | exact Below.drew (Below.refl _ _) | exact Below.refl _ _)) (by assumption)))
      (first | (go_at_call 29; go_split_ands; refine (HFo.out _ (hb1.trans (Below.mono (by (first | assumption | exact Below.drew (Below.refl _ _) | exact Below.refl _ _)) hb1.size))).mono ?_; rintro e w3 ⟨⟨u3, rfl, hu3⟩, hb3⟩) | (go_at_call 100; go_split_ands; refine (HPq.out _ (hb1.drew.more hb3) _ _ p HPm.out (HIn.out _ (hb1.drew.more hb3)) hu3.out).mono ?_; rintro e w4 ⟨⟨u4, rfl, hu4⟩, hb4⟩))
    have hbe := (hb1.drew.more hb3).more hb4
    have hz := hb1.size
    have hz3 := hb3.size
    have HU : Hid (Ints w4 (fun k => w.heap.size ≤ k ∧ k < w4.heap.size) u4 pn) := hidden (by rw [HE.out]; exact hu4.out.mono (fun k hk => ⟨by have := hk.1; have : w2.heap.size ≤ w3.heap.size := hz3; omega, hk.2⟩))
    clear hb3 hb4 hu3 hu4
    obtain ⟨A5, c5, rfl, _, _⟩ := HU.out.val
    go_wp2
    go_ret
    exact ⟨⟨_, rfl, HU⟩, hbe⟩
end Go.Proofs.Ytmlggfapnkhcaaa

namespace Go.Proofs.Ytmlggfapnkhcaaa
open Go.RowKit Go.Shelf
attribute [local simp] wide_fn

theorem predP_isD {g : Gram} {p : Prod} {m : Nat} (hm : p.left = (m : Int)) {fm : List Int} (h : (fol23 g)[m]? = some fm) : predP g p = if voidOf g p.right = true then unionOf (firsts22 g p.right) fm else firsts22 g p.right := by
  have e : (fol23 g).getD p.left.toNat [] = fm := by rw [hm, Int.toNat_natCast, List.getD_eq_getElem?_getD, h]; rfl
  unfold predP
  rw [e]

set_option maxRecDepth 20000 in
set_option maxHeartbeats 8000000 in
set_option linter.unusedVariables false in
theorem ref_Predict24 (a b c : Value) (g : Gram) (i : Int) (w : World) (HG : GramIs w (Old w) a b c g) (hsm : Small g) (hT9 : g.toks.length ≤ 90000) :
    Calls Try.prog 61 #[.agg (gramCells a b c g), .int .i64 i] w fun r w' => (∃ u, r = .returned u ∧ Hid (Ints w' (fun k => w.heap.size ≤ k ∧ k < w'.heap.size) u (predN g i))) ∧ Below w.heap.size w w' := by
  have HRt := hidden (fun (w' : World) (hb : Below w.heap.size w w') => ref_Right21 a b c g w' (HG.old hb) hsm.toks hsm.rules hsm.prods hsm.names)
  have HFo := hidden (fun (w' : World) (hb : Below w.heap.size w w') => ref_All23 a b c g w' (HG.old hb) hsm hT9)
  have HOf := hidden (fun (w' : World) (hb : Below w.heap.size w w') v (l : List Item) hR => ref_Of22 a b c v g l w' (HG.old hb) hsm hR)
  have HVo := hidden (fun (w' : World) (hb : Below w.heap.size w w') v (l : List Item) hR => ref_Void21 a b c v g l w' (HG.old hb) hsm hR)
  have HC := hidden (predN_cases g i)
  have HGo := hidden HG.2.2
  have hN := hsm.toks
  have HW := hidden (fun (h : rightB g = true) => whole22 h)
  have HFl := hidden (fun (h : rightB g = true) => fol23_len h)
  have HBd := hidden (bd_fol23 g)
  have HLn := hidden (firsts_len g)
  have HPd := hidden (fun (p : Prod) (m : Nat) (hm : p.left = (m : Int)) (fm : List Int) (h : (fol23 g)[m]? = some fm) => predP_isD (g := g) hm h)
  obtain ⟨⟨A1, k1, rfl, v1, m1⟩, ⟨A2, k2, rfl, v2, m2⟩, ⟨A3, k3, rfl, v3, m3⟩⟩ := HG.vals
  have hb1 := below_new w (.cells #[.slice A1 g.toks.length k1, .slice A2 g.rules.length k2, .slice A3 g.prods.length k3, .int .i64 g.start, .int .i64 g.states, .int .i64 g.text, .int .i64 g.nodes, .int .i64 g.pairs] 26)
  have HG1 := hidden (Holds.new w 26 #[.slice A1 g.toks.length k1, .slice A2 g.rules.length k2, .slice A3 g.prods.length k3, .int .i64 g.start, .int .i64 g.states, .int .i64 g.text, .int .i64 g.nodes, .int .i64 g.pairs])
  obtain ⟨s0, s1, s2, s3, s4, s5, s6, s7⟩ := eight22 HG1.out
  clear HG hsm
  unfold gramCells at *
  generalize hpn : predN g i = pn at *
  clear hpn
  go_enter Try.func61, Try.ntmps61
  go_wp2_with fail
  refine (HRt.out _ hb1).mono ?_
  rintro e w2 ⟨rfl, hb2⟩
  replace HG1 := hidden (HG1.out.below hb2 HG1.out.lt)
  replace hb1 := hb1.trans (hb2.mono hb1.size)
  clear hb2 s0 s1 s2 s3 s4 s5 s6 s7 HRt
  obtain ⟨s0, s1, s2, s3, s4, s5, s6, s7⟩ := eight22 HG1.out
  have hgl := HG1.out.lt
  rcases HC.out with ⟨hr, hE⟩ | ⟨hr, h0, hE⟩ | ⟨hr, h0, h1, hE⟩ | ⟨hr, m, p, hi, hx, hE⟩
  · have HE := hidden hE
    rw [hr]
    clear hE hr HC
    go_wp2
    go_ret
    exact ⟨⟨_, rfl, hidden (by rw [HE.out]; exact rd_none _)⟩, hb1.alloc hb1.size _⟩
  · have HE := hidden hE
    rw [hr]
    have d0 : decide (i < 0) = true := decide_eq_true h0
    clear hE hr HC h0
    go_wp2
    go_ret
    exact ⟨⟨_, rfl, hidden (by rw [HE.out]; exact rd_none _)⟩, hb1.alloc hb1.size _⟩
  · have HE := hidden hE
    rw [hr]
    have d0 : decide (i < 0) = false := decide_eq_false (by omega)
    have d1 : decide ((g.prods.length : Int) ≤ i) = true := decide_eq_true h1
    clear hE hr HC h0 h1
    go_wp2
    go_ret
    exact ⟨⟨_, rfl, hidden (by rw [HE.out]; exact rd_none _)⟩, hb1.alloc hb1.size _⟩
  · have HE := hidden hE
    subst hi
    have hm := (List.getElem?_eq_some_iff.1 hx).1
    have d0 : decide ((m : Int) < 0) = false := decide_eq_false (by omega)
    have d1 : decide ((g.prods.length : Int) ≤ (m : Int)) = false := decide_eq_false (by omega)
    have hpl := (HW.out hr).left p (List.mem_of_getElem? hx)
    obtain ⟨n, hn⟩ : ∃ n : Nat, p.left = (n : Int) := ⟨p.left.toNat, by omega⟩
    have hnl : n < (fol23 g).length := by rw [HFl.out hr]; omega
    have hF := List.getElem?_eq_getElem hnl
    have hl2 := (HBd.out _ (List.getElem_mem hnl)).len
    generalize (fol23 g)[n] = fm at *
    have HPq := hidden (HPd.out p n hn fm hF)
    have HgF := hidden hF
    have hl1 := HLn.out p.right
    have HOf' := hidden (fun (w' : World) (hb : Below w.heap.size w w') (v : Value) hR => HOf.out w' hb v p.right hR)
    have HVo' := hidden (fun (w' : World) (hb : Below w.heap.size w w') (v : Value) hR => HVo.out w' hb v p.right hR)
    obtain ⟨b1, o1, l1, rfl, hT, hat, hin⟩ := HGo.out.at_ hx
    have hin : Rd w (Old w) 4 l1 p.right.length (p.right.flatMap itCells) := hin
    have hT2 : b1 < w.heap.size := hT
    have hT' : b1 < w2.heap.size := Nat.lt_of_lt_of_le hT2 hb1.size
    have y0 : w2.cell? ⟨b1, o1 + m * 2, none⟩ = some (.int .i64 (n : Int)) := by rw [← hn]; exact (hb1.cell (p := ⟨b1, o1 + m * 2, none⟩) hT2).trans (hat 0 _ rfl)
    have y1' := (hb1.cell (p := ⟨b1, o1 + m * 2 + 1, none⟩) hT2).trans (hat 1 _ rfl)
    obtain ⟨A4, k4, rfl, hk4, hm4⟩ := hin.val
    have y1 : w2.cell? ⟨b1, o1 + m * 2 + 1, none⟩ = some (.slice A4 p.right.length k4) := y1'
    have HIn := hidden (fun (wx : World) (hb : Below w.heap.size w wx) => Rd.old hin hb)
    rw [hr]
    clear hE hr HC hx hat y1' hin hT hT2 HGo HOf HVo hF HPd HW HFl HBd HLn hn hpl
    have HHd := hidden HG1.out
    have HY := hidden (And.intro y0 y1)
    generalize predP g p = pp at *
    generalize firsts22 g p.right = fs at *
    generalize voidOf g p.right = vo at *
    generalize fol23 g = F at *
    have hnI : (n : Int) < (F.length : Int) := by omega
    go_wp2_with fail
    go_region_held3 (fun w' => w'.cell? ⟨w.heap.size, 0, none⟩ = some (.slice A1 g.toks.length k1) ∧ w'.cell? ⟨w.heap.size, 1, none⟩ = some (.slice A2 g.rules.length k2) ∧ w'.cell? ⟨w.heap.size, 2, none⟩ = some (.slice (some ⟨b1, o1, none⟩) g.prods.length k3) ∧ w'.cell? ⟨w.heap.size, 3, none⟩ = some (.int .i64 g.start) ∧ w'.cell? ⟨w.heap.size, 4, none⟩ = some (.int .i64 g.states) ∧ w'.cell? ⟨w.heap.size, 5, none⟩ = some (.int .i64 g.text) ∧ w'.cell? ⟨w.heap.size, 6, none⟩ = some (.int .i64 g.nodes) ∧ w'.cell? ⟨w.heap.size, 7, none⟩ = some (.int .i64 g.pairs) ∧ w'.cell? ⟨b1, o1 + m * 2, none⟩ = some (.int .i64 (n : Int)) ∧ w'.cell? ⟨b1, o1 + m * 2 + 1, none⟩ = some (.slice A4 p.right.length k4) ∧ Below w2.heap.size w2 w')
      (first | exact ⟨s0, s1, s2, s3, s4, s5, s6, s7, y0, y1, (Below.refl _ _).drew⟩ | (go_split_ands; exact keep_ten HHd.out HY.out.1 HY.out.2 (by (first | assumption | exact Below.drew (Below.refl _ _) | exact Below.refl _ _)) (by assumption)))
      (first | (go_at_call 20; go_split_ands; refine (HOf'.out _ (hb1.trans (Below.mono (by (first | assumption | exact Below.drew (Below.refl _ _) | exact Below.refl _ _)) hb1.size)) _ (HIn.out _ (hb1.trans (Below.mono (by (first | assumption | exact Below.drew (Below.refl _ _) | exact Below.refl _ _)) hb1.size)))).mono ?_; rintro e w3 ⟨⟨u3, rfl, hu3⟩, hb3⟩))
    have hb13 := hb1.drew.more hb3
    have hb23 := (Below.refl w2.heap.size w2).drew.more hb3
    have HL3 : Hid (Ints w3 (fun k => w.heap.size ≤ k ∧ k < w3.heap.size) u3 fs) := hidden (Mine.rd hu3.out (fun q _ h1 h2 => ⟨by have : w2.heap.size ≤ q := h1; have := hb1.size; omega, h2⟩))
    have HH3 := hidden (HHd.out.below hb23 hgl)
    have HY3 := hidden (And.intro (cell_onI HY.out.1 hb23) (cell_onI HY.out.2 hb23))
    have hT3 : b1 < w3.heap.size := Nat.lt_of_lt_of_le hT' hb23.size
    clear hb3 hu3 hb1 hb23 HHd HY y0 y1 s0 s1 s2 s3 s4 s5 s6 s7 HOf' hT' hgl HG1
    have hgl := HH3.out.lt
    obtain ⟨y0, y1⟩ := HY3.out
    obtain ⟨s0, s1, s2, s3, s4, s5, s6, s7⟩ := eight22 HH3.out
    obtain ⟨A5, c5, rfl, _, _⟩ := HL3.out.val
    go_wp2_with fail
    go_region_held3 (fun w' => w'.cell? ⟨w.heap.size, 0, none⟩ = some (.slice A1 g.toks.length k1) ∧ w'.cell? ⟨w.heap.size, 1, none⟩ = some (.slice A2 g.rules.length k2) ∧ w'.cell? ⟨w.heap.size, 2, none⟩ = some (.slice (some ⟨b1, o1, none⟩) g.prods.length k3) ∧ w'.cell? ⟨w.heap.size, 3, none⟩ = some (.int .i64 g.start) ∧ w'.cell? ⟨w.heap.size, 4, none⟩ = some (.int .i64 g.states) ∧ w'.cell? ⟨w.heap.size, 5, none⟩ = some (.int .i64 g.text) ∧ w'.cell? ⟨w.heap.size, 6, none⟩ = some (.int .i64 g.nodes) ∧ w'.cell? ⟨w.heap.size, 7, none⟩ = some (.int .i64 g.pairs) ∧ w'.cell? ⟨b1, o1 + m * 2, none⟩ = some (.int .i64 (n : Int)) ∧ w'.cell? ⟨b1, o1 + m * 2 + 1, none⟩ = some (.slice A4 p.right.length k4) ∧ Below w3.heap.size w3 w')
      (first | exact ⟨s0, s1, s2, s3, s4, s5, s6, s7, y0, y1, (Below.refl _ _).drew⟩ | (go_split_ands; exact keep_ten HH3.out HY3.out.1 HY3.out.2 (by (first | assumption | exact Below.drew (Below.refl _ _) | exact Below.refl _ _)) (by assumption)))
      (first | (go_at_call 36; go_split_ands; refine (HVo'.out _ (hb13.trans (Below.mono (by (first | assumption | exact Below.drew (Below.refl _ _) | exact Below.refl _ _)) hb13.size)) _ (HIn.out _ (hb13.trans (Below.mono (by (first | assumption | exact Below.drew (Below.refl _ _) | exact Below.refl _ _)) hb13.size)))).mono ?_; rintro e w4 ⟨rfl, hb4⟩))
    have hb14 := hb13.drew.more hb4
    have hb34 := (Below.refl w3.heap.size w3).drew.more hb4
    have HL4 : Hid (Ints w4 (fun k => w.heap.size ≤ k ∧ k < w4.heap.size) (.slice A5 fs.length c5) fs) := hidden ((Rd.below HL3.out hb34 (fun _ h => h.2)).mono (fun k hk => ⟨hk.1, Nat.lt_of_lt_of_le hk.2 hb34.size⟩))
    have HH4 := hidden (HH3.out.below hb34 hgl)
    have HY4 := hidden (And.intro (cell_onI HY3.out.1 hb34) (cell_onI HY3.out.2 hb34))
    have hT4 : b1 < w4.heap.size := Nat.lt_of_lt_of_le hT3 hb34.size
    clear hb4 hb13 hb34 HH3 HY3 y0 y1 s0 s1 s2 s3 s4 s5 s6 s7 HVo' hT3 hgl HL3
    cases vo
    · rw [if_neg (by decide)] at HPq
      go_wp2
      go_ret
      exact ⟨⟨_, rfl, hidden (by rw [HE.out, HPq.out]; exact HL4.out)⟩, hb14⟩
    · rw [if_pos rfl] at HPq
      have hgl := HH4.out.lt
      have HF4 := hidden (HFo.out _ hb14.drew)
      have HL4d : Hid (Ints w4.drew (Old w4.drew) (.slice A5 fs.length c5) fs) := hidden (HL4.out.mono (fun _ h => h.2))
      have hlt4 := HH4.out.lt
      go_wp2_with fail
      refine (wpIn_wide (n := 5)).1 ?_
      refine wpIn_region_take (fun wv => Below w4.heap.size w4 wv) 11 (by kernel_rfl) ?_
      have hCd : Below w4.heap.size w4 w4.drew := (Below.refl _ _).drew
      refine take_read (i := 0) (v := ?_) (by kernel_rfl) (by rfl) rfl (by rfl) (by kernel_rfl) (by kernel_rfl) (fun _ _ _ h => h) hCd ⟨Or.inl ⟨by rfl, fun wv hw => ?_⟩, fun _ => rfl⟩ ?_
      rotate_left
      · clear hw
        go_simp
        try rfl
      refine take_read (i := 1) (v := ?_) (by kernel_rfl) (by rfl) rfl (by rfl) (by kernel_rfl) (by kernel_rfl) (fun _ _ _ h => h) hCd ⟨Or.inl ⟨by rfl, fun wv hw => ?_⟩, fun _ => rfl⟩ ?_
      rotate_left
      · obtain ⟨r0, r1, r2, r3, r4, r5, r6, r7⟩ := eight22 (HH4.out.below hw HH4.out.lt); clear hw
        go_simp
        try rfl
      refine take_read (i := 3) (v := ?_) (by kernel_rfl) (by rfl) rfl (by rfl) (by kernel_rfl) (by kernel_rfl) (fun _ _ _ h => h) hCd ⟨Or.inl ⟨by rfl, fun wv hw => ?_⟩, fun _ => rfl⟩ ?_
      rotate_left
      · clear hw
        go_simp
        try rfl
      refine take_read (i := 4) (v := ?_) (by kernel_rfl) (by rfl) rfl (by rfl) (by kernel_rfl) (by kernel_rfl) (fun _ _ _ h => h) hCd ⟨Or.inl ⟨by rfl, fun wv hw => ?_⟩, fun _ => rfl⟩ ?_
      rotate_left
      · obtain ⟨r0, r1, r2, r3, r4, r5, r6, r7⟩ := eight22 (HH4.out.below hw HH4.out.lt); clear hw
        go_simp
        try rfl
      refine take_read (i := 5) (v := ?_) (by kernel_rfl) (by rfl) rfl (by rfl) (by kernel_rfl) (by kernel_rfl) (fun _ _ _ h => h) hCd ⟨Or.inl ⟨by rfl, fun wv hw => ?_⟩, fun _ => rfl⟩ ?_
      rotate_left
      · clear hw
        go_simp
        try rfl
      refine take_read (i := 6) (v := ?_) (by kernel_rfl) (by rfl) rfl (by rfl) (by kernel_rfl) (by kernel_rfl) (fun _ _ _ h => h) hCd ⟨Or.inl ⟨by rfl, fun wv hw => ?_⟩, fun _ => rfl⟩ ?_
      rotate_left
      · clear hw
        go_simp
        try rfl
      refine take_read (i := 7) (v := ?_) (by kernel_rfl) (by rfl) rfl (by rfl) (by kernel_rfl) (by kernel_rfl) (fun _ _ _ h => h) hCd ⟨Or.inl ⟨by rfl, fun wv hw => ?_⟩, fun _ => rfl⟩ ?_
      rotate_left
      · clear hw
        go_simp
        try rfl
      refine take_read (i := 8) (v := ?_) (by kernel_rfl) (by rfl) rfl (by rfl) (by kernel_rfl) (by kernel_rfl) (fun _ _ _ h => h) hCd ⟨Or.inl ⟨by rfl, fun wv hw => ?_⟩, fun _ => rfl⟩ ?_
      rotate_left
      · have q := cell_onI HY4.out.1 hw; clear hw
        go_simp
        try rfl
      refine take_only (i := 2) (by kernel_rfl) rfl rfl (by rfl) (fun K hK => ?_)
      go_simp
      refine CallsIn.mono (F := Fence.wide) (callsIn_wide.2 HF4.out) ?_
      rintro e w5 ⟨⟨u5, rfl, hu5⟩, hb5⟩
      refine hK _ _ (hCd.more hb5) ?_
      clear hK K
      obtain ⟨Af, cf, rfl, _, _⟩ := hu5.out.value
      obtain ⟨bu, ou, ur, rfl, hTu, hcu, hru⟩ := Rows2.row hu5.out HgF.out
      obtain ⟨Ar, cr, rfl, _, _⟩ := hru.val
      have hTu' : bu < w5.heap.size := hTu
      have hC5 : Below w4.heap.size w4 w5 := hCd.more hb5
      refine take_only (i := 9) (by kernel_rfl) rfl rfl (by rfl) (fun K hK => ?_)
      go_simp
      refine hK _ _ hC5 ?_
      clear hK K
      refine take_only (i := 10) (by kernel_rfl) rfl rfl (by rfl) (fun K hK => ?_)
      go_simp
      refine hK _ _ hC5 ?_
      clear hK K
      refine take_tail (by kernel_rfl) (by kernel_rfl) ?_
      simp only [List.drop_succ_cons, List.drop_zero]
      have HUn := hidden (ref11_Union _ _ _ _ w5 (Rd.old HL4d.out hb5) hru (by omega) (by omega))
      clear hu5 hru hTu HF4 HL4d hCd HFo
      gi_wp2_with fail
      refine CallsIn.mono (F := Fence.wide) (callsIn_wide.2 HUn.out) ?_
      rintro e w6 ⟨⟨u6, rfl, hu6⟩, hb6⟩
      have hb15 := hb14.drew.more hb5
      have hbe := hb15.more hb6
      have hz5 := hb15.size
      have HU : Hid (Ints w6 (fun k => w.heap.size ≤ k ∧ k < w6.heap.size) u6 pn) := hidden (by rw [HE.out, HPq.out]; exact hu6.out.mono (fun k hk => ⟨by have := hk.1; omega, hk.2⟩))
      clear hb5 hb6 hu6 hb15 hC5 HUn
      obtain ⟨A6, c6, rfl, _, _⟩ := HU.out.val
      gi_wp2_with fail
      go_wp2
      go_ret
      exact ⟨⟨_, rfl, HU⟩, hbe⟩
end Go.Proofs.Ytmlggfapnkhcaaa

namespace Go.Proofs.Ytmlggfapnkhcaaa
open Go.RowKit Go.Shelf
attribute [local simp] wide_fn

noncomputable def predL (g : Gram) : List (List Int) := g.prods.map (predP g)
theorem predL_at {g : Gram} {i : Nat} {p : Prod} (h : g.prods[i]? = some p) : (predL g)[i]? = some (predP g p) := by unfold predL; rw [List.getElem?_map, h]; rfl
theorem predL_len (g : Gram) : (predL g).length = g.prods.length := by simp [predL]
theorem cellTo_same {g : Gram} {i : Nat} {p : Prod} (h : g.prods[i]? = some p) {r t : Int} (hn : p.left ≠ r ∨ holdsB (t ∈ predP g p) = false) : cellTo g (i + 1) r t = cellTo g i r t := by
  rw [cellTo_succ h, if_neg, List.append_nil]
  rintro ⟨h1, h2⟩
  rcases hn with hn | hn
  · exact hn h1
  · rw [holdsB_true h2] at hn; cases hn
theorem cellTo_more {g : Gram} {i : Nat} {p : Prod} (h : g.prods[i]? = some p) {r t : Int} (h1 : p.left = r) (h2 : holdsB (t ∈ predP g p) = true) : cellTo g (i + 1) r t = cellTo g i r t ++ [(i : Int)] := by
  rw [cellTo_succ h, if_pos ⟨h1, holdsB_iff.1 h2⟩]

set_option maxRecDepth 20000 in
set_option maxHeartbeats 8000000 in
theorem ref_predicts (a b c va : Value) (g : Gram) (r t : Int) (w : World) (HG : GramIs w (Old w) a b c g) (h30 : g.prods.length ≤ 100000) (hA : Rows2 w (Old w) va (predL g)) :
    Calls Try.prog 99 #[.agg (gramCells a b c g), va, .int .i64 r, .int .i64 t] w fun e w' => (∃ u, e = .returned u ∧ Hid (IntsM w' w.heap.size u (cell24 g r t))) ∧ Below w.heap.size w w' := by
  have HGo := hidden HG.2.2
  have HAo := hidden (fun (w' : World) (hb : Below w.heap.size w w') => Recs.old hA hb)
  have HS := hidden (fun (i : Nat) (p : Prod) (h : g.prods[i]? = some p) hn => cellTo_same h (r := r) (t := t) hn)
  have HM := hidden (fun (i : Nat) (p : Prod) (h : g.prods[i]? = some p) h1 h2 => cellTo_more h (r := r) (t := t) h1 h2)
  have HPl := hidden (fun (i : Nat) (p : Prod) (h : g.prods[i]? = some p) => predL_at h)
  have HLn := hidden (fun (i : Nat) => cellTo_len g r t i)
  have HPn := hidden (predL_len g)
  obtain ⟨⟨A1, k1, rfl, v1, m1⟩, ⟨A2, k2, rfl, v2, m2⟩, ⟨A3, k3, rfl, v3, m3⟩⟩ := HG.vals
  obtain ⟨Ap, cp, hvp, hcp1, hcp2⟩ := hA.value
  rw [HPn.out] at hvp
  subst hvp
  have HB0 := hidden (Holds.new w 26 #[.slice A1 g.toks.length k1, .slice A2 g.rules.length k2, .slice A3 g.prods.length k3, .int .i64 g.start, .int .i64 g.states, .int .i64 g.text, .int .i64 g.nodes, .int .i64 g.pairs])
  clear HG hA
  unfold gramCells maxLen at *
  have HM0 : Hid (IntsM ((w.alloc (.cells #[.slice A1 g.toks.length k1, .slice A2 g.rules.length k2, .slice A3 g.prods.length k3, .int .i64 g.start, .int .i64 g.states, .int .i64 g.text, .int .i64 g.nodes, .int .i64 g.pairs] 26)).alloc (.cells #[] 3)) (w.heap.size + 1) (.slice (some ⟨w.heap.size + 1, 0, none⟩) 0 0) (cellTo g 0 r t)) := hidden (Mine.fresh_nil _ _ _ _ _)
  have hb0 : Below w.heap.size w ((w.alloc (.cells #[.slice A1 g.toks.length k1, .slice A2 g.rules.length k2, .slice A3 g.prods.length k3, .int .i64 g.start, .int .i64 g.states, .int .i64 g.text, .int .i64 g.nodes, .int .i64 g.pairs] 26)).alloc (.cells #[] 3)) := (by repeat (first | (with_reducible exact Below.refl _ _) | (with_reducible assumption) | (with_reducible refine Below.drew ?_) | (with_reducible refine below_drewN ?_ _) | ((with_reducible refine below_alloc ?_ ?_); (focus (first | omega | (simp; done) | (simp; omega)))) | ((with_reducible refine below_set ?_ ?_); (focus (first | omega | (simp; done) | (simp; omega))))))
  have HB1 := hidden (HB0.out.alloc (.cells #[] 3))
  go_enter Try.func99, Try.ntmps99
  go_upto_region 2 with fail
  generalize (w.alloc (.cells #[.slice A1 g.toks.length k1, .slice A2 g.rules.length k2, .slice A3 g.prods.length k3, .int .i64 g.start, .int .i64 g.states, .int .i64 g.text, .int .i64 g.nodes, .int .i64 g.pairs] 26)).alloc (.cells #[] 3) = w1 at *
  have HBo := hidden (fun (wx : World) (hb : Below (w.heap.size + 1) w1 wx) => HB1.out.below hb (Nat.lt_succ_self _))
  have hz1 : w.heap.size + 1 ≤ w1.heap.size := HB1.out.lt
  have hb1 := hidden (Below.refl (w.heap.size + 1) w1)
  clear HB0
  go_wp2
  go_loopg [9, 10] g.prods.length (fun gh vv ii wx => ∃ i : Nat, i ≤ g.prods.length ∧ gh = g.prods.length - i ∧ ii = .int .i64 i ∧ Hid (IntsM wx (w.heap.size + 1) vv (cellTo g i r t)) ∧ Hid (Below (w.heap.size + 1) w1 wx))
  case atStart => exact ⟨0, by omega, by omega, rfl, HM0, hb1⟩
  case round =>
    clear HM0 hb1
    obtain ⟨i, hi, rfl, rfl, HI, hbx⟩ := hrel
    obtain ⟨s0, s1, s2, s3, s4, s5, s6, s7⟩ := eight22 (HBo.out _ hbx.out)
    have hbz := hbx.out.size
    have hgl : w.heap.size < wr.heap.size := by omega
    have hbw := hb0.trans (hbx.out.mono (Nat.le_succ _))
    by_cases hil : i < g.prods.length
    · have hx := List.getElem?_eq_getElem hil
      generalize g.prods[i] = p at *
      have HSi := hidden (HS.out i p hx)
      have HMi := hidden (HM.out i p hx)
      have HPi := hidden (HPl.out i p hx)
      have hli := HLn.out i
      obtain ⟨b1, o1, l1, rfl, hT, hat, -⟩ := HGo.out.at_ hx
      have hT2 : b1 < w.heap.size := hT
      have hT' : b1 < wr.heap.size := Nat.lt_of_lt_of_le hT2 hbw.size
      have y0 : wr.cell? ⟨b1, o1 + i * 2, none⟩ = some (.int .i64 p.left) := (hbw.cell (p := ⟨b1, o1 + i * 2, none⟩) hT2).trans (hat 0 _ rfl)
      obtain ⟨Al, cl, rfl⟩ := HI.out.value
      by_cases hpl : p.left = r
      · have hd : (p.left == r) = true := by simpa using hpl
        obtain ⟨bu, ou, ur, rfl, hTu, hcu, hru⟩ := Rows2.row (HAo.out _ hbw) HPi.out
        obtain ⟨Ar, cr, rfl, _, _⟩ := hru.val
        have hTu' : bu < wr.heap.size := hTu
        have HH := hidden (ref11_has (.slice Ar (predP g p).length cr) (predP g p) t (Old wr) wr hru)
        have HMj := hidden (HMi.out hpl)
        have HSj := hidden (fun h => HSi.out (.inr h))
        clear hat hx hT hT2 hru hTu hbw HSi HMi hpl
        generalize holdsB (t ∈ predP g p) = hh at *
        go_wp2_with fail
        refine HH.out.mono ?_
        rintro e w3 ⟨rfl, rfl⟩
        clear HH
        cases hh
        · have HSk : Hid (IntsM wr (w.heap.size + 1) (.slice Al (cellTo g i r t).length cl) (cellTo g (i + 1) r t)) := hidden (by rw [HSj.out rfl]; exact HI.out)
          clear HI HMj HSj
          go_wp2
          go_roundg (g.prods.length - (i + 1))
          case measure => omega
          case rel => exact ⟨i + 1, by omega, rfl, by go_num, HSk, hbx⟩
        · have HE := hidden (HMj.out rfl)
          clear HMj HSj
          go_wp2_with (at_builtin; refine wpList_append_i rfl _ _ rfl (w.heap.size + 1) _ _ HI (i : Int) rfl rfl rfl (by first | rfl | simp) (by omega) (by omega) ?_; intro v' w' hA hb2 hK)
          rw [← HE.out] at hA
          have hbn := hidden (hbx.out.trans hb2)
          clear HI hb2 hK hbx
          go_roundg (g.prods.length - (i + 1))
          case measure => omega
          case rel => exact ⟨i + 1, by omega, rfl, by go_num, hA, hbn⟩
      · have hd : (p.left == r) = false := by simpa using hpl
        have HSk : Hid (IntsM wr (w.heap.size + 1) (.slice Al (cellTo g i r t).length cl) (cellTo g (i + 1) r t)) := hidden (by rw [HSi.out (.inl hpl)]; exact HI.out)
        clear HI HMi HSi hpl hat hx hT hT2 hbw
        go_wp2
        go_roundg (g.prods.length - (i + 1))
        case measure => omega
        case rel => exact ⟨i + 1, by omega, rfl, by go_num, HSk, hbx⟩
    · obtain rfl : i = g.prods.length := by omega
      obtain ⟨Al, cl, rfl⟩ := HI.out.value
      have HF : Hid (IntsM wr w.heap.size (.slice Al (cellTo g g.prods.length r t).length cl) (cell24 g r t)) := hidden (Mine.base HI.out (Nat.le_succ _))
      clear HI
      go_wp2
      go_ret
      exact ⟨⟨_, rfl, HF⟩, hbw⟩

set_option maxRecDepth 20000 in
set_option maxHeartbeats 8000000 in
theorem ref_predicted (a b c : Value) (g : Gram) (w : World) (HG : GramIs w (Old w) a b c g) (hsm : Small g) (hT9 : g.toks.length ≤ 90000) (hr : rightB g = true) :
    Calls Try.prog 98 #[.agg (gramCells a b c g)] w fun e w' => (∃ u, e = .returned u ∧ Hid (Rows2 w' (Old w') u (predL g))) ∧ Below w.heap.size w w' := by
  have HPp := hidden (fun (w' : World) (hb : Below w.heap.size w w') (i : Int) => ref_Predict24 a b c g i w' (HG.old hb) hsm hT9)
  have h30 := hsm.prods
  have HPa := hidden (fun (i : Nat) (p : Prod) (h : g.prods[i]? = some p) => predN_at hr h)
  have HPl := hidden (fun (i : Nat) (p : Prod) (h : g.prods[i]? = some p) => predL_at h)
  have HPn := hidden (predL_len g)
  have HTk := hidden (fun (i : Nat) (p : Prod) (h : g.prods[i]? = some p) => (show (predL g).take (i + 1) = (predL g).take i ++ [predP g p] by rw [List.take_add_one, predL_at h]; rfl))
  have HTf : Hid ((predL g).take g.prods.length = predL g) := hidden (List.take_of_length_le (by rw [predL_len]; exact Nat.le_refl _))
  obtain ⟨⟨A1, k1, rfl, v1, m1⟩, ⟨A2, k2, rfl, v2, m2⟩, ⟨A3, k3, rfl, v3, m3⟩⟩ := HG.vals
  have HB0 := hidden (Holds.new w 26 #[.slice A1 g.toks.length k1, .slice A2 g.rules.length k2, .slice A3 g.prods.length k3, .int .i64 g.start, .int .i64 g.states, .int .i64 g.text, .int .i64 g.nodes, .int .i64 g.pairs])
  clear HG hsm hr
  unfold gramCells at *
  have hb0 : Below w.heap.size w ((w.alloc (.cells #[.slice A1 g.toks.length k1, .slice A2 g.rules.length k2, .slice A3 g.prods.length k3, .int .i64 g.start, .int .i64 g.states, .int .i64 g.text, .int .i64 g.nodes, .int .i64 g.pairs] 26)).alloc (.cells #[] 34)) := (by repeat (first | (with_reducible exact Below.refl _ _) | (with_reducible assumption) | (with_reducible refine Below.drew ?_) | (with_reducible refine below_drewN ?_ _) | ((with_reducible refine below_alloc ?_ ?_); (focus (first | omega | (simp; done) | (simp; omega)))) | ((with_reducible refine below_set ?_ ?_); (focus (first | omega | (simp; done) | (simp; omega))))))
  have HB1 := hidden (HB0.out.alloc (.cells #[] 34))
  go_enter Try.func98, Try.ntmps98
  go_upto_region 2 with fail
  have hz1 : w.heap.size + 1 < ((w.alloc (.cells #[.slice A1 g.toks.length k1, .slice A2 g.rules.length k2, .slice A3 g.prods.length k3, .int .i64 g.start, .int .i64 g.states, .int .i64 g.text, .int .i64 g.nodes, .int .i64 g.pairs] 26)).alloc (.cells #[] 34)).heap.size := by simp
  generalize (w.alloc (.cells #[.slice A1 g.toks.length k1, .slice A2 g.rules.length k2, .slice A3 g.prods.length k3, .int .i64 g.start, .int .i64 g.states, .int .i64 g.text, .int .i64 g.nodes, .int .i64 g.pairs] 26)).alloc (.cells #[] 34) = w1 at *
  have HBo := hidden (fun (wx : World) (hb : Below (w.heap.size + 1) w1 wx) => HB1.out.below hb (Nat.lt_succ_self _))
  have hb1 := hidden (Below.refl (w.heap.size + 1) w1)
  have HM1 : Hid (Rows2M (fun _ => False) w1 (w.heap.size + 1) (.slice (some ⟨w.heap.size + 1, 0, none⟩) 0 0) ((predL g).take 0)) := hidden (Rows2M.empty _ _ _ (fun q hq => by simp [Value.ownBlock] at hq; subst hq; exact ⟨id, hz1⟩))
  clear HB0
  go_wp2
  go_loopg [3, 4] g.prods.length (fun gh vv ii wx => ∃ i : Nat, i ≤ g.prods.length ∧ gh = g.prods.length - i ∧ ii = .int .i64 i ∧ Hid (Rows2M (fun _ => False) wx (w.heap.size + 1) vv ((predL g).take i)) ∧ Hid (Below (w.heap.size + 1) w1 wx))
  case atStart => exact ⟨0, by omega, by omega, rfl, HM1, hb1⟩
  case round =>
    clear HM1 hb1
    obtain ⟨i, hi, rfl, rfl, HM, hbx⟩ := hrel
    obtain ⟨s0, s1, s2, s3, s4, s5, s6, s7⟩ := eight22 (HBo.out _ hbx.out)
    have hbz := hbx.out.size
    have hgl : w.heap.size < wr.heap.size := by omega
    have hbw := hb0.trans (hbx.out.mono (Nat.le_succ _))
    by_cases hil : i < g.prods.length
    · have hx := List.getElem?_eq_getElem hil
      generalize g.prods[i] = p at *
      have HC := hidden (HPp.out _ hbw (i : Int))
      rw [HPa.out i p hx] at HC
      have HTi := hidden (HTk.out i p hx)
      have hlt : ((predL g).take i).length = i := by rw [List.length_take, HPn.out]; omega
      obtain ⟨Al, cl, hv⟩ := HM.out.value
      rw [hlt] at hv
      subst hv
      have HLt := hidden hlt
      clear hx hlt
      generalize (predL g).take i = L at *
      go_wp2_with fail
      refine HC.out.mono ?_
      rintro e w3 ⟨⟨u3, rfl, hu3⟩, hb3⟩
      have HM3 := hidden (HM.out.below hb3)
      have hz3 := hb3.size
      have HU3 : Hid (Ints w3 (fun b => b < w3.heap.size ∧ (Value.slice Al i cl).ownBlock ≠ some b ∧ ¬ False) u3 (predP g p)) := hidden (hu3.out.mono (fun k hk => ⟨hk.2, fun e => by
        obtain ⟨_, _, _, h3, _⟩ := HM.out
        have := (h3 k e).2
        have := hk.1
        omega, id⟩))
      have hbx3 := hidden (hbx.out.trans (hb3.mono (by omega)))
      clear HM hb3 hu3 HC s0 s1 s2 s3 s4 s5 s6 s7
      obtain ⟨A5, c5, rfl, _, _⟩ := HU3.out.val
      have hLl : L.length ≤ 1000000000 := by rw [HLt.out]; omega
      go_wp2_with (at_builtin; refine wpList_append_ii rfl _ _ rfl (w.heap.size + 1) _ L HM3 _ (predP g p) HU3 rfl rfl rfl (by first | rfl | simp) hLl (by omega) (by intro k hk; exact hk.elim) ?_; intro v' w' hA hb9 hK)
      rw [← HTi.out] at hA
      have hbn := hidden (hbx3.out.trans hb9)
      clear hK hb9 HM3 HU3 hbx3
      go_roundg (g.prods.length - (i + 1))
      case measure => omega
      case rel => exact ⟨i + 1, by omega, rfl, by go_num, hA, hbn⟩
    · obtain rfl : i = g.prods.length := by omega
      rw [HTf.out] at HM
      have HF := hidden HM.out.old
      obtain ⟨Al, cl, rfl⟩ := HM.out.value
      clear HM
      go_wp2
      go_ret
      exact ⟨⟨_, rfl, HF⟩, hbw⟩
end Go.Proofs.Ytmlggfapnkhcaaa
