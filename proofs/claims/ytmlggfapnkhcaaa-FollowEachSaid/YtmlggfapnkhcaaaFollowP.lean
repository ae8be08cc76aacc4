/-
  The tokens that stand behind rules, plainly.
-/
import Derived.Test.YtmlggfapnkhcaaaFirstA
import Derived.Test.YtmlggfapnkhcaaaSetsT
namespace Go.Proofs.Ytmlggfapnkhcaaa
open Go.RowKit Go.Shelf

/-- A token stands behind a rule; the number of tokens is the end's. -/
inductive Fol (g : Gram) (em rb : List Bool) (t : Int) : Int → Prop
  | end_ : t = (g.toks.length : Int) → Fol g em rb t g.start
  | first {p : Prod} {k : Nat} {x : Item} : p ∈ g.prods → atB rb p.left = true → p.right[k]? = some x → x.rule = true → t ∈ firstL g em g.toks.length (p.right.drop (k + 1)) → Fol g em rb t x.n
  | up {p : Prod} {k : Nat} {x : Item} : p ∈ g.prods → atB rb p.left = true → p.right[k]? = some x → x.rule = true → (p.right.drop (k + 1)).all (itemSo em false) = true → Fol g em rb t p.left → Fol g em rb t x.n
noncomputable def folR (g : Gram) (em rb : List Bool) (r : Int) : List Int := ((List.range (g.toks.length + 1)).filter fun (t : Nat) => holdsB (Fol g em rb (t : Int) r)).map fun (t : Nat) => (t : Int)
noncomputable def folF (g : Gram) (em rb : List Bool) : List (List Int) := (List.range g.rules.length).map fun (r : Nat) => folR g em rb (r : Int)
theorem mem_folR {g : Gram} {em rb : List Bool} {r z : Int} : z ∈ folR g em rb r ↔ 0 ≤ z ∧ z < g.toks.length + 1 ∧ Fol g em rb z r := by
  unfold folR
  rw [mem_range_set (f := fun t => Fol g em rb (t : Int) r)]
  constructor
  · rintro ⟨h0, h1, h2⟩; rw [show ((z.toNat : Nat) : Int) = z by omega] at h2; exact ⟨h0, by omega, h2⟩
  · rintro ⟨h0, h1, h2⟩; refine ⟨h0, by omega, ?_⟩; rw [show ((z.toNat : Nat) : Int) = z by omega]; exact h2
theorem folF_len (g : Gram) (em rb : List Bool) : (folF g em rb).length = g.rules.length := by simp [folF]
theorem folF_at {g : Gram} {em rb : List Bool} {r : Nat} (h : r < g.rules.length) : (folF g em rb)[r]? = some (folR g em rb (r : Int)) := by
  unfold folF
  rw [List.getElem?_map, List.getElem?_range h]; rfl
theorem bd_folR (g : Gram) (em rb : List Bool) (r : Int) : Bd (g.toks.length + 1) (folR g em rb r) := ⟨asc_range _ _, fun z hz => by have := mem_folR.1 hz; exact ⟨this.1, by omega⟩⟩
theorem bd_folF (g : Gram) (em rb : List Bool) : ∀ r ∈ folF g em rb, Bd (g.toks.length + 1) r := by
  intro r hr
  unfold folF at hr
  obtain ⟨i, _, rfl⟩ := List.mem_map.1 hr
  exact bd_folR _ _ _ _

/-! ### One row more in the place of a row -/
def bringF (F : List (List Int)) (r : Nat) (t : List Int) : List (List Int) := F.set r (mergeU (F.getD r []) t)
theorem bringF_len (F : List (List Int)) (r : Nat) (t : List Int) : (bringF F r t).length = F.length := by simp [bringF]
theorem getD_bd {N : Nat} {F : List (List Int)} (h : ∀ l ∈ F, Bd N l) (r : Nat) : Bd N (F.getD r []) := by
  rw [List.getD_eq_getElem?_getD]
  cases e : F[r]? with
  | none => exact Bd.nil _
  | some l => exact h l (List.mem_of_getElem? e)
theorem bringF_bd {N : Nat} {F : List (List Int)} (h : ∀ l ∈ F, Bd N l) {r : Nat} {t : List Int} (ht : Bd N t) : ∀ l ∈ bringF F r t, Bd N l := by
  intro l hl
  unfold bringF at hl
  rcases List.mem_or_eq_of_mem_set hl with hl | rfl
  · exact h l hl
  · exact (getD_bd h r).union ht
theorem bringF_getD {F : List (List Int)} {r : Nat} (hr : r < F.length) (t : List Int) (i : Nat) : (bringF F r t).getD i [] = if r = i then mergeU (F.getD r []) t else F.getD i [] := by
  unfold bringF
  rw [List.getD_eq_getElem?_getD, List.getElem?_set]
  split
  · subst_vars; first | rfl | (rw [if_pos hr]; rfl)
  · rw [List.getD_eq_getElem?_getD]
theorem bringF_no {N : Nat} {F : List (List Int)} (h : ∀ l ∈ F, Bd N l) {r : Nat} (hr : r < F.length) {t : List Int} (ht : Bd N t) (hn : decide ((F.getD r []).length < (mergeU (F.getD r []) t).length) = false) : bringF F r t = F ∧ ∀ z ∈ t, z ∈ F.getD r [] := by
  have hA := (getD_bd h r).1
  have he := asc_len hA (asc_union hA ht.1) (fun z hz => mem_union.2 (.inl hz))
  have hn := of_decide_eq_false hn
  have e := he.2 (by have := he.1; omega)
  refine ⟨?_, fun z hz => by rw [e]; exact mem_union.2 (.inr hz)⟩
  unfold bringF
  rw [← e]
  apply List.ext_getElem?
  intro i
  rw [List.getElem?_set]
  split
  · rename_i h1
    subst h1
    first | rw [List.getD_eq_getElem?_getD, List.getElem?_eq_getElem hr]; rfl | (rw [if_pos hr, List.getD_eq_getElem?_getD, List.getElem?_eq_getElem hr]; rfl)
  · rfl
theorem bringF_tot {N : Nat} {F : List (List Int)} (h : ∀ l ∈ F, Bd N l) {r : Nat} (hr : r < F.length) {t : List Int} (ht : Bd N t) : tot F ≤ tot (bringF F r t) ∧ (decide ((F.getD r []).length < (mergeU (F.getD r []) t).length) = true → tot F < tot (bringF F r t)) := by
  have hA := (getD_bd h r).1
  have he := asc_len hA (asc_union hA ht.1) (fun z hz => mem_union.2 (.inl hz))
  have := tot_set F r (mergeU (F.getD r []) t) hr
  unfold bringF
  refine ⟨by omega, fun hd => ?_⟩
  have := of_decide_eq_true hd
  omega

/-- What is known, between two steps. -/
structure KnownB (g : Gram) (em rb : List Bool) (F : List (List Int)) : Prop where
  len : F.length = g.rules.length
  bd : ∀ l ∈ F, Bd (g.toks.length + 1) l
  is_ : ∀ (r : Nat) (z : Int), z ∈ F.getD r [] → Fol g em rb z r
  start : (g.toks.length : Int) ∈ F.getD g.start.toNat []
/-- What must stand behind a rule in a production does. -/
def ClosedAt (g : Gram) (em : List Bool) (F : List (List Int)) (p : Prod) (k : Nat) : Prop :=
  ∀ x, p.right[k]? = some x → x.rule = true → ∀ z, (z ∈ firstL g em g.toks.length (p.right.drop (k + 1)) ∨ (p.right.drop (k + 1)).all (itemSo em false) = true ∧ z ∈ F.getD p.left.toNat []) → z ∈ F.getD x.n.toNat []
theorem KnownB.all {g : Gram} {em rb : List Bool} {F : List (List Int)} (h : KnownB g em rb F) (hc : ∀ p ∈ g.prods, atB rb p.left = true → ∀ k, ClosedAt g em F p k) : F = folF g em rb := by
  have key : ∀ z r, Fol g em rb z r → z ∈ F.getD r.toNat [] := by
    intro z r hf
    induction hf with
    | end_ e => rw [e]; exact h.start
    | first hp hr hx h1 h2 => exact hc _ hp hr _ _ hx h1 z (.inl h2)
    | up hp hr hx h1 h2 _ ih => exact hc _ hp hr _ _ hx h1 z (.inr ⟨h2, ih⟩)
  apply List.ext_getElem?
  intro i
  by_cases hi : i < F.length
  · have hi' : i < g.rules.length := by have := h.len; omega
    rw [folF_at hi', List.getElem?_eq_getElem hi]
    have hD : F.getD i [] = F[i] := by rw [List.getD_eq_getElem?_getD, List.getElem?_eq_getElem hi]; rfl
    have hB := h.bd _ (List.getElem_mem hi)
    simp only [Option.some.injEq]
    refine asc_ext hB.1 (bd_folR g em rb i).1 (fun z => ?_)
    rw [mem_folR]
    constructor
    · intro hz
      have := hB.2 z hz
      exact ⟨this.1, by omega, h.is_ i z (by rw [hD]; exact hz)⟩
    · rintro ⟨_, _, hf⟩
      have := key z _ hf
      rwa [Int.toNat_natCast, hD] at this
  · have := h.len
    rw [List.getElem?_eq_none (by omega), List.getElem?_eq_none (by rw [folF_len]; omega)]
theorem KnownB.tot_le {g : Gram} {em rb : List Bool} {F : List (List Int)} (h : KnownB g em rb F) : tot F ≤ (g.toks.length + 1) * g.rules.length := by
  have := Go.Proofs.Ytmlggfapnkhcaaa.tot_le F h.bd
  rwa [h.len] at this

/-- What stands behind, in a production of which post is what is left; Fl: what stands behind its rule. -/
def TailIs (g : Gram) (em : List Bool) (post : List Item) (Fl t : List Int) : Prop := Bd (g.toks.length + 1) t ∧ ∀ z, z ∈ t ↔ z ∈ firstL g em g.toks.length post ∨ post.all (itemSo em false) = true ∧ z ∈ Fl
theorem bd_more {N M : Nat} {l : List Int} (h : Bd N l) (hn : N ≤ M) : Bd M l := ⟨h.1, fun z hz => by have := h.2 z hz; omega⟩
theorem bd_firstL (g : Gram) (em : List Bool) (l : List Item) : Bd g.toks.length (firstL g em g.toks.length l) := ⟨asc_range _ _, fun z hz => by have := mem_firstL.1 hz; exact ⟨this.1, this.2.1⟩⟩
theorem mem_firstL_nil {g : Gram} {em : List Bool} {z : Int} : z ∉ firstL g em g.toks.length [] := fun h => by
  obtain ⟨_, _, x, hx, _⟩ := mem_firstL.1 h
  cases hx
theorem mem_firstL_tok {g : Gram} {em : List Bool} {x : Item} {l : List Item} (hr : x.rule = false) (hn : 0 ≤ x.n ∧ x.n < g.toks.length) {z : Int} : z ∈ firstL g em g.toks.length (x :: l) ↔ z = x.n := by
  rw [mem_firstL]
  unfold StartsL headsOf
  rw [if_neg (by rw [hr]; simp)]
  constructor
  · rintro ⟨_, _, y, hy, ⟨_, h⟩ | ⟨h, _⟩⟩
    · rw [List.mem_singleton] at hy; subst hy; exact h.symm
    · rw [List.mem_singleton] at hy; subst hy; rw [hr] at h; cases h
  · rintro rfl
    exact ⟨hn.1, hn.2, x, by simp, .inl ⟨hr, rfl⟩⟩
theorem mem_firstL_rule {g : Gram} {em : List Bool} {x : Item} {l : List Item} (hr : x.rule = true) {z : Int} : z ∈ firstL g em g.toks.length (x :: l) ↔ z ∈ firstR g em g.toks.length x.n ∨ atB em x.n = true ∧ z ∈ firstL g em g.toks.length l := by
  rw [mem_firstL, mem_firstL, mem_firstR]
  unfold StartsL
  rw [headsOf, hr, Bool.true_and]
  by_cases he : atB em x.n = true
  · rw [if_pos he]
    constructor
    · rintro ⟨a, b, y, hy, h⟩
      rcases List.mem_cons.1 hy with rfl | hy
      · rcases h with ⟨h, _⟩ | ⟨_, h⟩
        · rw [hr] at h; cases h
        · exact .inl ⟨a, b, h⟩
      · exact .inr ⟨he, a, b, y, hy, h⟩
    · rintro (⟨a, b, h⟩ | ⟨_, a, b, y, hy, h⟩)
      · exact ⟨a, b, x, by simp, .inr ⟨hr, h⟩⟩
      · exact ⟨a, b, y, List.mem_cons_of_mem _ hy, h⟩
  · rw [if_neg he]
    constructor
    · rintro ⟨a, b, y, hy, h⟩
      rw [List.mem_singleton] at hy
      subst hy
      rcases h with ⟨h, _⟩ | ⟨_, h⟩
      · rw [hr] at h; cases h
      · exact .inl ⟨a, b, h⟩
    · rintro (⟨a, b, h⟩ | ⟨h, _⟩)
      · exact ⟨a, b, x, by simp, .inr ⟨hr, h⟩⟩
      · exact absurd h he
section
variable {g : Gram} {em : List Bool} {post : List Item} {Fl t : List Int} {x : Item}
theorem TailIs.none (hF : Bd (g.toks.length + 1) Fl) : TailIs g em [] Fl Fl := ⟨hF, fun z => by
  constructor
  · intro h; exact .inr ⟨rfl, h⟩
  · rintro (h | ⟨_, h⟩)
    · exact absurd h mem_firstL_nil
    · exact h⟩
theorem TailIs.tok (hr : x.rule = false) (hn : 0 ≤ x.n ∧ x.n < g.toks.length) : TailIs g em (x :: post) Fl [x.n] := by
  refine ⟨Bd.one ⟨hn.1, by omega⟩, fun z => ?_⟩
  rw [mem_firstL_tok hr hn, List.mem_singleton, List.all_cons]
  constructor
  · exact .inl
  · rintro (h | ⟨h, _⟩)
    · exact h
    · unfold itemSo at h; rw [hr] at h; simp at h
theorem TailIs.rule (hr : x.rule = true) (h : TailIs g em post Fl t) : TailIs g em (x :: post) Fl (if atB em x.n = true then mergeU t (firstR g em g.toks.length x.n) else firstR g em g.toks.length x.n) := by
  have hR := bd_more (bd_firstR g em g.toks.length x.n) (Nat.le_succ _)
  by_cases he : atB em x.n = true
  · rw [if_pos he]
    refine ⟨h.1.union hR, fun z => ?_⟩
    rw [mem_union, h.2, mem_firstL_rule hr, List.all_cons]
    have hi : itemSo em false x = true := by unfold itemSo; rw [if_pos hr]; exact he
    rw [hi, Bool.true_and]
    constructor
    · rintro ((h | h) | h)
      · exact .inl (.inr ⟨he, h⟩)
      · exact .inr h
      · exact .inl (.inl h)
    · rintro ((h | ⟨_, h⟩) | h)
      · exact .inr h
      · exact .inl (.inl h)
      · exact .inl (.inr h)
  · rw [if_neg he]
    refine ⟨hR, fun z => ?_⟩
    rw [mem_firstL_rule hr, List.all_cons]
    have hi : itemSo em false x = false := by unfold itemSo; rw [if_pos hr]; simpa using he
    rw [hi, Bool.false_and]
    constructor
    · exact fun h => .inl (.inl h)
    · rintro ((h | ⟨h, _⟩) | ⟨h, _⟩)
      · exact h
      · exact absurd h he
      · cases h
/-- As the document puts it together. -/
theorem TailIs.doc (hF : Bd (g.toks.length + 1) Fl) : TailIs g em post Fl (if post.all (itemSo em false) = true then unionOf (firstL g em g.toks.length post) Fl else firstL g em g.toks.length post) := by
  have hL := bd_firstL g em post
  by_cases he : post.all (itemSo em false) = true
  · rw [if_pos he, unionOf_asc hL.1 hF.1]
    refine ⟨(bd_more hL (Nat.le_succ _)).union hF, fun z => ?_⟩
    rw [mem_union, he]
    simp
  · rw [if_neg he]
    refine ⟨bd_more hL (Nat.le_succ _), fun z => ?_⟩
    simp [he]
end
/-- A step: what stands behind the k-th item, brought to its rule. -/
theorem KnownB.bring {g : Gram} (hs : Whole22 g) {em rb : List Bool} {F : List (List Int)} (h : KnownB g em rb F) {p : Prod} (hp : p ∈ g.prods) (hrb : atB rb p.left = true) {k : Nat} {x : Item} (hx : p.right[k]? = some x) (hr : x.rule = true) {Fl t : List Int} (hFl : ∀ z ∈ Fl, Fol g em rb z p.left) (ht : TailIs g em (p.right.drop (k + 1)) Fl t) : KnownB g em rb (bringF F x.n.toNat t) := by
  have hxn := hs.rule p hp x (List.mem_of_getElem? hx) hr
  have hlt : x.n.toNat < F.length := by have := h.len; omega
  refine ⟨by rw [bringF_len]; exact h.len, bringF_bd h.bd ht.1, fun r z hz => ?_, ?_⟩
  · rw [bringF_getD hlt] at hz
    split at hz
    · rename_i e
      rcases mem_union.1 hz with hz | hz
      · have := h.is_ _ z hz
        rwa [e] at this
      · rw [show (r : Int) = x.n by omega]
        rcases (ht.2 z).1 hz with hz | ⟨hv, hz⟩
        · exact .first hp hrb hx hr hz
        · exact .up hp hrb hx hr hv (hFl z hz)
    · exact h.is_ r z hz
  · rw [bringF_getD hlt]
    split
    · rename_i e
      exact mem_union.2 (.inl (by rw [e]; exact h.start))
    · exact h.start
theorem KnownB.first_ {g : Gram} (hst : 0 ≤ g.start ∧ g.start < g.rules.length) (em rb : List Bool) : KnownB g em rb ((List.replicate g.rules.length []).set g.start.toNat [(g.toks.length : Int)]) := by
  have hat : ∀ r : Nat, ((List.replicate g.rules.length ([] : List Int)).set g.start.toNat [(g.toks.length : Int)]).getD r [] = if g.start.toNat = r then [(g.toks.length : Int)] else [] := by
    intro r
    rw [List.getD_eq_getElem?_getD, List.getElem?_set]
    split
    · rw [if_pos (by simp; omega)]; rfl
    · rw [List.getElem?_replicate]
      split <;> rfl
  refine ⟨by simp, fun l hl => ?_, fun r z hz => ?_, ?_⟩
  · rcases List.mem_or_eq_of_mem_set hl with hl | rfl
    · rw [List.mem_replicate] at hl; rw [hl.2]; exact Bd.nil _
    · exact Bd.one ⟨by omega, by omega⟩
  · rw [hat] at hz
    split at hz
    · rename_i e
      rw [List.mem_singleton] at hz
      rw [show (r : Int) = g.start by omega]
      exact .end_ hz
    · cases hz
  · rw [hat, if_pos rfl]; simp
end Go.Proofs.Ytmlggfapnkhcaaa
