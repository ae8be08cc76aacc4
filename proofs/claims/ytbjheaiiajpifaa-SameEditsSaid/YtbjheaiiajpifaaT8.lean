/-
  Other nodes in the place of a part: plain laws. arena.Put. facsimileref27.One: the row is the call's own, the leads are shared. facsimileref27.Put.
-/
import Derived.Test.YtbjheaiiajpifaaB1
import Derived.Test.YtbjheaiiajpifaaT3
import Derived.StillTailTactics
import Derived.RegionTactic
namespace Go.Proofs.Ytbjheaiiajpifaa.T
open Go.RowKit Go.Shelf

/-- The node at k, its size turned by d where its stretch goes past i, if k is past a. -/
def bump (i : Nat) (d : Int) (a : Int) (k : Nat) (x : Node) : Node := if a < k ∧ (i : Int) < k + x.size then { x with size := x.size + d } else x
/-- What stands ahead of the place, so turned. -/
def bumps (t : List Node) (i : Nat) (d : Int) (a : Int) : List Node := (t.take i).mapIdx (bump i d a)
def putL (t : List Node) (i : Nat) (s : List Node) : List Node := bumps t i ((s.length : Int) - sz t i) (-1) ++ s ++ t.drop (i + sz t i)
noncomputable def putB (t : List Node) (i : Int) (s : List Node) : Bool := placeB t i && treeB s
noncomputable def putOf (t : List Node) (i : Int) (s : List Node) : List Node := if putB t i s then putL t i.toNat s else []

theorem bumps_len (t : List Node) (i : Nat) (d a : Int) (hi : i ≤ t.length) : (bumps t i d a).length = i := by unfold bumps; simp; omega
theorem bumps_at {t : List Node} {i : Nat} {d a : Int} {k : Nat} (hi : i ≤ t.length) (hk : k < i) : (bumps t i d a)[k]? = some (bump i d a k (t[k]'(by omega))) := by
  unfold bumps
  rw [List.getElem?_mapIdx, List.getElem?_take_of_lt hk, List.getElem?_eq_getElem (show k < t.length by omega)]
  rfl
theorem upN_noneP {t : List Node} {i : Nat} : ∀ (j k : Nat), upN t i j < (k : Int) → k < j → ¬ i < k + sz t k := by
  intro j
  induction j with
  | zero => intro k _ h; omega
  | succ j ih =>
    intro k h hk
    unfold upN at h
    by_cases hc : i < j + sz t j
    · rw [if_pos hc] at h; omega
    · rw [if_neg hc] at h
      by_cases e : k = j
      · subst e; exact hc
      · exact ih k h (by omega)
theorem upN_hit {t : List Node} {i : Nat} {a : Nat} : ∀ j, upN t i j = (a : Int) → i < a + sz t a := by
  intro j
  induction j with
  | zero => intro h; unfold upN at h; omega
  | succ j ih =>
    intro h
    unfold upN at h
    by_cases hc : i < j + sz t j
    · rw [if_pos hc] at h
      obtain rfl : j = a := by omega
      exact hc
    · rw [if_neg hc] at h; exact ih h
/-- Nothing between a node and the one above it goes past the node. -/
theorem bumps_start {t : List Node} (h : Tree t) {i : Nat} (hi : i < t.length) (d : Int) : bumps t i d (upN t i i) = t.take i := by
  apply List.ext_getElem?
  intro k
  by_cases hk : k < i
  · rw [bumps_at (by omega) hk, List.getElem?_take_of_lt hk, List.getElem?_eq_getElem (show k < t.length by omega)]
    unfold bump
    rw [if_neg]
    rintro ⟨h1, h2⟩
    have hn := (tree_node h (show k < t.length by omega)).2.2
    exact upN_noneP i k h1 hk (by omega)
  · rw [List.getElem?_eq_none (by rw [bumps_len _ _ _ _ (by omega)]; omega), List.getElem?_eq_none (by simp; omega)]
/-- The next one above. -/
theorem bumps_next {t : List Node} (h : Tree t) {i : Nat} (hi : i < t.length) (d : Int) {a : Nat} (ha : a < i) (hs : i < a + sz t a) : bumps t i d (upN t a a) = (bumps t i d a).set a { (t[a]'(by omega)) with size := (sz t a : Int) + d } := by
  have hla : (bumps t i d (a : Int)).length = i := bumps_len _ _ _ _ (by omega)
  apply List.ext_getElem?
  intro k
  by_cases hk : k < i
  · have hn := (tree_node h (show k < t.length by omega)).2.2
    rw [bumps_at (by omega) hk]
    by_cases e : k = a
    · subst e
      rw [List.getElem?_set_self (by omega)]
      unfold bump
      rw [if_pos, hn]
      have hlt : upN t k k < k := by
        rcases upN_cases t k k with h1 | ⟨m, h1⟩
        · omega
        · have := upN_lt k h1; omega
      exact ⟨hlt, by omega⟩
    · rw [List.getElem?_set_ne (by omega), bumps_at (by omega) hk]
      unfold bump
      by_cases hka : k < a
      · have hno : ¬ (upN t a a < (k : Int) ∧ (i : Int) < k + t[k].size) := by
          rintro ⟨h1, h2⟩
          exact upN_noneP a k h1 hka (by omega)
        rw [if_neg hno, if_neg (fun h => by omega)]
      · have hlt : upN t a a < a := by
          rcases upN_cases t a a with h1 | ⟨m, h1⟩
          · omega
          · have := upN_lt a h1; omega
        by_cases hc : (i : Int) < k + t[k].size
        · rw [if_pos ⟨by omega, hc⟩, if_pos ⟨by omega, hc⟩]
        · rw [if_neg (fun h => hc h.2), if_neg (fun h => hc h.2)]
  · rw [List.getElem?_eq_none (by rw [bumps_len _ _ _ _ (by omega)]; omega), List.getElem?_eq_none (by rw [List.length_set]; omega)]
/-- The one above goes past the place too. -/
theorem up_past {t : List Node} (h : Tree t) {i a b : Nat} (hi : i < t.length) (ha : a < i) (hs : i < a + sz t a) (hb : upN t a a = (b : Int)) : b < a ∧ i < b + sz t b := by
  have h1 := upN_lt a hb
  have h2 := upN_hit a hb
  obtain ⟨_, h4, h5⟩ := tree_step h (show b < t.length by omega) h1 h2
  exact ⟨h1, by omega⟩
end Go.Proofs.Ytbjheaiiajpifaa.T

namespace Go.Proofs.Ytbjheaiiajpifaa.T
open Go.RowKit Go.Shelf

theorem allCells_size (t : List Node) (ls : List Value) (k : Nat) (sd : Int) (h : ls.length = t.length) (hk : k < t.length) : allCells (t.set k { t[k] with size := sd }) ls = (allCells t ls).set (k * 5 + 2) (.int .i64 sd) := by
  apply List.ext_getElem?
  intro m
  have hl : (allCells (t.set k { t[k] with size := sd }) ls).length = t.length * 5 := by rw [allCells_len _ _ (by simp [h])]; simp
  have hl2 := allCells_len t ls h
  by_cases hm : m < t.length * 5
  · obtain ⟨i, j, hj, rfl⟩ : ∃ i j, j < 5 ∧ m = i * 5 + j := ⟨m / 5, m % 5, Nat.mod_lt _ (by decide), by omega⟩
    have hi : i < t.length := by omega
    have hat : ∀ (u : List Node) (hu : u.length = t.length), (allCells u ls)[i * 5 + j]? = (ndCells (u[i]'(by omega)) (ls[i]'(by omega)))[j]? := by
      intro u hu
      have hz : (u.zip ls)[i]? = some (u[i]'(by omega), ls[i]'(by omega)) := by
        rw [List.getElem?_zip_eq_some]
        exact ⟨List.getElem?_eq_getElem _, List.getElem?_eq_getElem _⟩
      exact flat_at (fun x : Node × Value => ndCells x.1 x.2) 5 (fun _ => rfl) (u.zip ls) i j _ hz hj
    rw [hat _ (by simp)]
    by_cases e : i * 5 + j = k * 5 + 2
    · obtain rfl : i = k := by omega
      obtain rfl : j = 2 := by omega
      rw [List.getElem?_set_self (by omega)]
      simp [ndCells]
    · rw [List.getElem?_set_ne (by omega), hat t rfl]
      by_cases ei : i = k
      · subst ei
        rw [List.getElem_set_self]
        have : j ≠ 2 := by omega
        obtain rfl | rfl | rfl | rfl : j = 0 ∨ j = 1 ∨ j = 3 ∨ j = 4 := by omega
        all_goals simp [ndCells]
      · rw [List.getElem_set_ne (by omega)]
  · rw [List.getElem?_eq_none (by omega), List.getElem?_eq_none (by rw [List.length_set]; omega)]

/-- A node's size is written anew. -/
theorem Own.resize_at {w : World} {B : Nat} {v : Value} {t : List Node} (h : Own w B v t) {k : Nat} (hk : k < t.length) : ∃ g cap, v = .slice (some ⟨g, 0, none⟩) t.length cap ∧ t.length ≤ cap ∧ cap ≤ maxLen ∧ B ≤ g ∧
    w.cell? ⟨g, k * 5 + 2, none⟩ = some (.int .i64 t[k].size) ∧ w.frozen? ⟨g, k * 5 + 2, none⟩ = false ∧ ∀ sd : Int, Own (w.setCell ⟨g, k * 5 + 2, none⟩ (.int .i64 sd)) B v (t.set k { t[k] with size := sd }) := by
  obtain ⟨ls, h1, h2, h3⟩ := h
  have h0 : 0 < t.length := by omega
  obtain ⟨g, cap, rfl, c1, c2, c3, c4, c5⟩ := h2.open_ h0
  have hfz : w.frozen? ⟨g, k * 5 + 2, none⟩ = false := by
    rcases (h2.own h0).2 with ⟨_, e⟩ | ⟨g', cap', cur, hv, _, hg, _⟩
    · omega
    · simp only [Value.slice.injEq, Option.some.injEq, Addr.mk.injEq] at hv
      obtain ⟨⟨rfl, _⟩, _, _⟩ := hv
      exact Holds.frozen hg _
  have hz : (t.zip ls)[k]? = some (t[k], ls[k]'(by omega)) := by
    rw [List.getElem?_zip_eq_some]; exact ⟨List.getElem?_eq_getElem hk, List.getElem?_eq_getElem _⟩
  have hcell : (allCells t ls)[k * 5 + 2]? = some (.int .i64 t[k].size) := by
    unfold allCells
    rw [flat_at (fun x : Node × Value => ndCells x.1 x.2) 5 (fun _ => rfl) (t.zip ls) k 2 _ hz (by omega)]
    rfl
  refine ⟨g, cap, rfl, c1, c2, c3, c5 _ _ hcell, hfz, fun sd => ⟨ls, by simp [h1], ?_, fun i y l' a b => ?_⟩⟩
  · rw [allCells_size t ls k sd h1 hk, List.length_set]
    exact h2.stored h0 _ _
  · obtain ⟨y', hy', hy2⟩ : ∃ y', t[i]? = some y' ∧ y'.lead = y.lead := by
      by_cases e : i = k
      · subst e
        rw [List.getElem?_set_self hk] at a
        simp at a; subst a
        exact ⟨t[i], List.getElem?_eq_getElem hk, rfl⟩
      · rw [List.getElem?_set_ne (fun h => e h.symm)] at a
        exact ⟨y, a, rfl⟩
    obtain ⟨p1, p2⟩ := h3 i y' l' hy' b
    rw [hy2] at p1
    exact ⟨p1.set (p := ⟨g, k * 5 + 2, none⟩) (fun e => (p2 _ e).1 rfl) _, fun q hq => ⟨(p2 q hq).1, (p2 q hq).2.1, by have := (p2 q hq).2.2; simpa [World.setCell] using this⟩⟩

theorem Nds.tail {w : World} {T : Nat → Prop} {b off c : Nat} {t : List Node} (h : Nds w T (.slice (some ⟨b, off, none⟩) t.length c) t) {E : Nat} (hE : E ≤ t.length) (hc : c ≤ maxLen) (hlc : t.length ≤ c) (h0 : t ≠ []) :
    Nds w T (.slice (if c = E then some ⟨b, off, none⟩ else some ⟨b, off + E * 5, none⟩) (t.length - E) (c - E)) (t.drop E) := by
  by_cases e : c = E
  · have h1 : t.length - E = 0 := by omega
    have h2 : c - E = 0 := by omega
    rw [if_pos e, h1, h2, List.drop_of_length_le (by omega)]
    exact ⟨[], rfl, ⟨rfl, _, 0, rfl, Nat.le_refl _, by decide, fun h => absurd h (Nat.lt_irrefl 0)⟩, fun i x l h => by simp at h⟩
  · rw [if_neg e]
    have := h.part E (t.length - E) (c' := c - E) (by omega) (by omega) (by omega) h0
    rwa [List.take_of_length_le (by simp)] at this
theorem Nds.head {w : World} {T : Nat → Prop} {b off c : Nat} {t : List Node} (h : Nds w T (.slice (some ⟨b, off, none⟩) t.length c) t) {i : Nat} (hi : i ≤ t.length) (hc : c ≤ maxLen) (hlc : t.length ≤ c) (h0 : t ≠ []) :
    Nds w T (.slice (some ⟨b, off, none⟩) i i) (t.take i) := by
  have := h.part 0 i (c' := i) (by omega) (Nat.le_refl _) (by omega) h0
  simpa using this
theorem three_parts {w : World} {v1 v2 v3 : Value} {t1 t2 t3 : List Node} (h1 : Nds w (Old w) v1 t1) (h2 : Nds w (Old w) v2 t2) (h3 : Nds w (Old w) v3 t3) :
    Parts (w.alloc (.cells #[v1, v2, v3] 27)) (fun k => k < (w.alloc (.cells #[v1, v2, v3] 27)).heap.size) (.slice (some ⟨w.heap.size, 0, none⟩) 3 3) [t1, t2, t3] := by
  have hT : ∀ k, Old w k → k < (w.alloc (.cells #[v1, v2, v3] 27)).heap.size := fun k hk => by have : k < w.heap.size := hk; simp; omega
  refine ⟨[v1, v2, v3], rfl, Rd.fresh (cs := [v1, v2, v3]) (n := 3) (size := 1) rfl (Nat.le_refl _) (by decide) (by simp) rfl, fun i t u a b => ?_⟩
  match i, a, b with
  | 0, a, b => simp at a b; subst a b; exact (h1.alloc _).mono hT
  | 1, a, b => simp at a b; subst a b; exact (h2.alloc _).mono hT
  | 2, a, b => simp at a b; subst a b; exact (h3.alloc _).mono hT
  | n + 3, a, b => simp at a

end Go.Proofs.Ytbjheaiiajpifaa.T

namespace Go.Proofs.Ytbjheaiiajpifaa.T
open Go.RowKit Go.Shelf

/-- v reads as the nodes t: a row of the call's own, from B on; the leads in T. -/
def NOwn (w : World) (B : Nat) (T : Nat → Prop) (v : Value) (t : List Node) : Prop :=
  ∃ ls : List Value, ls.length = t.length ∧ Mine w B 58 5 v t.length (allCells t ls) ∧ ∀ (i : Nat) (x : Node) (l : Value), t[i]? = some x → ls[i]? = some l → Pcs w T l x.lead
section
variable {w w' : World} {B : Nat} {T : Nat → Prop} {v : Value} {t : List Node}
theorem NOwn.below (h : NOwn w B T v t) (hb : Below w.heap.size w w') : NOwn w' B T v t := by
  obtain ⟨ls, h1, h2, h3⟩ := h
  exact ⟨ls, h1, h2.below hb, fun i x l a b => (h3 i x l a b).keeps (Keeps.of_below hb)⟩
theorem NOwn.nds (h : NOwn w B T v t) (hT : ∀ k, T k → k < w.heap.size) : Nds w (Old w) v t := by
  obtain ⟨ls, h1, h2, h3⟩ := h
  exact ⟨ls, h1, h2.rd (fun g _ _ h => h), fun i x l a b => (h3 i x l a b).mono hT⟩
/-- What an append of nodes that are read leaves. -/
theorem NOwn.append (h : NOwn w B T v t) {t2 : List Node} {u : Value} (hu : Nds w T u t2) (hT : ∀ k, T k → v.ownBlock ≠ some k) :
    ∃ xs news, Mine w B 58 5 v t.length xs ∧ Rd w T 5 u t2.length news ∧ (∀ x ∈ news, x.oneCell' = true) ∧ ∀ v' w', Appended w B 58 5 v (t.length + t2.length) (xs ++ news) v' w' → NOwn w' B T v' (t ++ t2) := by
  obtain ⟨ls, h1, h2, h3⟩ := h
  obtain ⟨l2, g1, g2, g3⟩ := hu
  refine ⟨_, _, h2, g2, nd_oneCell t2 l2 (fun l hl => ?_), fun v' w' hA => ⟨ls ++ l2, by simp [h1, g1], ?_, fun i x l a b => ?_⟩⟩
  · obtain ⟨i, hi, e⟩ := List.mem_iff_getElem.1 hl
    obtain ⟨A, c, e2, _⟩ := (g3 i _ l (List.getElem?_eq_getElem (show i < t2.length by omega)) (by rw [List.getElem?_eq_getElem hi, e])).value
    rw [e2]; rfl
  · rw [allCells_append _ _ _ _ h1, List.length_append]
    exact hA.mine
  · have hk : Keeps T w w' := hA.keeps.mono (fun k hk => hT k hk)
    rcases Nat.lt_or_ge i t.length with h | h
    · rw [List.getElem?_append_left h] at a
      rw [List.getElem?_append_left (by omega)] at b
      exact (h3 i x l a b).keeps hk
    · rw [List.getElem?_append_right h] at a
      rw [List.getElem?_append_right (by omega), h1] at b
      exact (g3 _ x l a b).keeps hk
/-- The first node's size is written anew. -/
theorem NOwn.resize {x : Node} (h : NOwn w B T v (x :: t)) (hT : ∀ k, T k → v.ownBlock ≠ some k) (s : Int) : ∃ g cap, v = .slice (some ⟨g, 0, none⟩) (t.length + 1) cap ∧ t.length + 1 ≤ cap ∧ cap ≤ maxLen ∧ B ≤ g ∧
    (∃ u, w.cell? ⟨g, 2, none⟩ = some u) ∧ w.frozen? ⟨g, 2, none⟩ = false ∧ NOwn (w.setCell ⟨g, 2, none⟩ (.int .i64 s)) B T v ({ x with size := s } :: t) := by
  obtain ⟨ls, h1, h2, h3⟩ := h
  have h0 : 0 < (x :: t).length := by simp
  obtain ⟨g, cap, rfl, c1, c2, c3, c4, c5⟩ := h2.open_ h0
  obtain ⟨l, ls, rfl⟩ : ∃ l ls', ls = l :: ls' := by
    cases ls with
    | nil => simp at h1
    | cons l ls' => exact ⟨l, ls', rfl⟩
  have hcells : allCells (x :: t) (l :: ls) = ndCells x l ++ allCells t ls := by simp [allCells]
  have hcells' : allCells ({ x with size := s } :: t) (l :: ls) = (allCells (x :: t) (l :: ls)).set 2 (.int .i64 s) := by
    rw [hcells]; simp [allCells, ndCells]
  have hfz : w.frozen? ⟨g, 2, none⟩ = false := by
    rcases (h2.own h0).2 with ⟨_, e⟩ | ⟨g', cap', cur, hv, _, hg, _⟩
    · simp at e
    · simp only [Value.slice.injEq, Option.some.injEq, Addr.mk.injEq] at hv
      obtain ⟨⟨rfl, _⟩, _, _⟩ := hv
      exact Holds.frozen hg _
  refine ⟨g, cap, rfl, c1, c2, c3, ⟨_, c5 2 _ (by rw [hcells]; rfl)⟩, hfz, l :: ls, by simpa using h1, ?_, fun i y l' a b => ?_⟩
  · rw [hcells']
    exact h2.stored h0 2 _
  · obtain ⟨y', hy', hy2⟩ : ∃ y', (x :: t)[i]? = some y' ∧ y'.lead = y.lead := by
      cases i with
      | zero => simp at a; subst a; exact ⟨x, by simp, rfl⟩
      | succ i => exact ⟨y, by simpa using a, rfl⟩
    have p1 := h3 i y' l' hy' b
    rw [hy2] at p1
    exact p1.keeps ((Keeps.refl _ _).setCell (p := ⟨g, 2, none⟩) (fun e => hT _ e rfl) _)
end

theorem take_flat {ts : List (List Node)} {k : Nat} (hk : k < ts.length) : (ts.take (k + 1)).flatten = (ts.take k).flatten ++ ts[k] ∧ (ts.take k).flatten.length + ts[k].length ≤ ts.flatten.length := by
  have e : (ts.take (k + 1)).flatten = (ts.take k).flatten ++ ts[k] := by rw [List.take_succ_eq_append_getElem hk, List.flatten_append]; simp
  refine ⟨e, ?_⟩
  rw [← List.length_append, ← e]
  have : ts.flatten.length = (ts.take (k + 1)).flatten.length + (ts.drop (k + 1)).flatten.length := by rw [← List.length_append, ← List.flatten_append, List.take_append_drop]
  omega

end Go.Proofs.Ytbjheaiiajpifaa.T

namespace Go.Proofs.Ytbjheaiiajpifaa.T
open Go.RowKit Go.Shelf

/-- One node more, whose lead lies in T. -/
theorem NOwn.push {w : World} {B : Nat} {T : Nat → Prop} {v : Value} {t : List Node} (h : NOwn w B T v t) (x : Node) (l : Value) (hl : Pcs w T l x.lead) (hT : ∀ k, T k → v.ownBlock ≠ some k) :
    ∃ xs, Mine w B 58 5 v t.length xs ∧ ∀ v' w', Appended w B 58 5 v (t.length + 1) (xs ++ ndCells x l) v' w' → NOwn w' B T v' (t ++ [x]) := by
  obtain ⟨ls, h1, h2, h3⟩ := h
  refine ⟨_, h2, fun v' w' hA => ⟨ls ++ [l], by simp [h1], ?_, fun i y l' a b => ?_⟩⟩
  · rw [allCells_append _ _ _ _ h1, List.length_append]
    have : allCells [x] [l] = ndCells x l := by simp [allCells]
    rw [this]
    exact hA.mine
  · have hk : Keeps T w w' := hA.keeps.mono (fun k hk => hT k hk)
    rcases Nat.lt_or_ge i t.length with h | h
    · rw [List.getElem?_append_left h] at a
      rw [List.getElem?_append_left (by omega)] at b
      exact (h3 i y l' a b).keeps hk
    · rw [List.getElem?_append_right h] at a
      rw [List.getElem?_append_right (by omega), h1] at b
      have e : i - t.length = 0 := by
        have := (List.getElem?_eq_some_iff.1 a).1
        simp at this; omega
      rw [e] at a b
      simp at a b; subst a b
      exact Rd.keeps hl hk

theorem bumpTo_step {t : List Node} {i : Nat} {d : Int} {k : Nat} (hk : k < t.length) : (t.take (k + 1)).mapIdx (bump i d (-1)) = (t.take k).mapIdx (bump i d (-1)) ++ [bump i d (-1) k t[k]] := by
  rw [List.take_succ_eq_append_getElem hk, List.mapIdx_append]
  simp [List.length_take, Nat.min_eq_left (Nat.le_of_lt hk)]

set_option maxRecDepth 20000 in
set_option maxHeartbeats 8000000 in
theorem ref_put (v u : Value) (t s : List Node) (i : Int) (w : World) (h4 : t.length ≤ 1000000) (h5 : s.length ≤ 1000000) (hN : Nds w (Old w) v t) (hM : Nds w (Old w) u s) :
    Calls Try.prog 27 #[v, .int .i64 i, u] w fun r w' => (∃ x, r = .returned (.tuple #[x, .bool (putB t i s)]) ∧ Hid (Nds w' (Old w') x (putOf t i s))) ∧ Below w.heap.size w w' := by
  have HN := hidden (fun (w' : World) (hw : Below w.heap.size w w') => hN.old hw)
  have HM := hidden (fun (w' : World) (hw : Below w.heap.size w w') => hM.old hw)
  have HP := hidden (fun (w' : World) (hw : Below w.heap.size w w') => ref_place v t i w' (by omega) (HN.out w' hw))
  have HR := hidden (fun (w' : World) (hw : Below w.heap.size w w') => ref_right u s w' (by omega) (HM.out w' hw))
  have hb := Below.refl w.heap.size w
  obtain ⟨A2, c2, rfl, hd1, hd2⟩ := hM.value
  unfold maxLen at hd2
  have HE : Hid (∀ (w' : World) (A : Option Addr), Nds w' (Old w') (.slice A 0 0) []) := hidden (fun w' A => ⟨[], rfl, ⟨rfl, _, 0, rfl, Nat.le_refl _, by decide, fun h => absurd h (Nat.lt_irrefl 0)⟩, fun i x l h => by simp at h⟩)
  unfold putOf putB
  cases hp : placeB t i with
  | false =>
    obtain ⟨A, c, rfl, hc1, hc2⟩ := hN.value
    unfold maxLen at hc2
    rw [hp] at HP
    clear hN hM HN HM hp
    go_enter Try.func27, Try.ntmps27
    go_wp2_with fail
    refine (HP.out w hb).mono ?_
    rintro r wg ⟨rfl, hbg⟩
    replace hb := hb.trans (hbg.mono hb.size)
    clear hbg
    go_wp2
    go_ret2
    exact ⟨⟨_, rfl, hidden (HE.out _ _)⟩, hb.alloc hb.size _⟩
  | true =>
    rw [hp] at HP
    obtain ⟨p1, p2, p3⟩ := placeB_iff.1 hp
    obtain ⟨I, rfl⟩ := Int.eq_ofNat_of_zero_le p1
    obtain ⟨b, off, c, rfl, hc1, hc2, hbT, hatT⟩ := hN.open_ (by intro e; subst e; simp at p2; omega)
    unfold maxLen at hc2
    have HT := hidden p3
    have p2 : I < t.length := by omega
    simp only [Int.toNat_natCast]
    have hN0 := hidden hN
    have hM0 := hidden hM
    clear hN hM hp p1 p3 hatT
    cases hs : treeB s with
    | false =>
      rw [hs] at HR
      clear HN HM hs
      simp only [Bool.and_false, Bool.false_eq_true, if_false]
      go_enter Try.func27, Try.ntmps27
      go_wp2_with fail
      refine (HP.out w hb).mono ?_
      rintro r wg ⟨rfl, hbg⟩
      replace hb := hb.trans (hbg.mono hb.size)
      clear hbg
      go_wp2_with fail
      refine (HR.out _ hb).mono ?_
      rintro r wg ⟨rfl, hbg⟩
      replace hb := hb.trans (hbg.mono hb.size)
      clear hbg
      go_wp2
      go_ret2
      exact ⟨⟨_, rfl, hidden (HE.out _ _)⟩, hb.alloc hb.size _⟩
    | true =>
      rw [hs] at HR
      clear hs
      simp only [Bool.and_true, if_true]
      have n1 := (tree_node HT.out p2).1
      have n2 := (tree_node HT.out p2).2.1
      have HX2 := hidden (fun (w' : World) (hw : Below w.heap.size w w') => (HN.out w' hw).size_cell HT.out p2)
      obtain ⟨d, hd⟩ : ∃ d : Int, d = (s.length : Int) - sz t I := ⟨_, rfl⟩
      have HI := node_info
      go_enter Try.func27, Try.ntmps27
      go_wp2_with fail
      refine (HP.out w hb).mono ?_
      rintro r wg ⟨rfl, hbg⟩
      replace hb := hb.trans (hbg.mono hb.size)
      clear hbg
      go_wp2_with fail
      refine (HR.out _ hb).mono ?_
      rintro r wg ⟨rfl, hbg⟩
      replace hb := hb.trans (hbg.mono hb.size)
      clear hbg
      clear HP HR
      go_wp2
      go_loopw [8, 9] (fun o ii wr => ∃ k : Nat, k ≤ I ∧ ii = .int .i64 k ∧ Hid (NOwn wr w.heap.size (Old w) o ((t.take k).mapIdx (bump I d (-1)))) ∧ Hid (∀ g, o.ownBlock = some g → w.heap.size ≤ g) ∧ Below w.heap.size w wr) (fun _ ii _ => I - (intOf ii).toNat)
      case atStart => exact ⟨0, by omega, rfl, hidden ⟨[], rfl, .inr ⟨rfl, rfl, _, rfl⟩, fun i x l h => by simp at h⟩, hidden (fun g hg => by simp [Value.ownBlock] at hg; have := hb.size; omega), hb.alloc hb.size _⟩
      case round =>
        obtain ⟨k, hk, rfl, HO, HG, hb⟩ := hrel
        have hbz := hb.size
        by_cases hlt : k < I
        · have hkt : k < t.length := by omega
          obtain ⟨b', off', c', hv, _, _, _, hat⟩ := (hN0.out.below hb (fun _ h => h)).open_ (by intro e; subst e; simp at p2)
          simp only [Value.slice.injEq, Option.some.injEq, Addr.mk.injEq] at hv
          obtain ⟨⟨rfl, rfl, _⟩, _, rfl⟩ := hv
          obtain ⟨l, x0, x1, x2, x3, x4, hpl⟩ := hat k _ (List.getElem?_eq_getElem hkt)
          have y2 := HX2.out _ hb
          obtain ⟨m1, m2, m3⟩ := tree_node HT.out hkt
          have hstep := bumpTo_step (i := I) (d := d) hkt
          obtain ⟨A3, c3, rfl, f1, f2⟩ := hpl.value
          unfold maxLen at f2
          clear hat
          generalize hy : t[k] = y at *
          have hlb : ((t.take k).mapIdx (bump I d (-1))).length = k := by simp; omega
          have HPush : Hid (∀ (W1 : World), Below wr.heap.size wr W1 → ∀ x : Node, x.lead = y.lead → bump I d (-1) k y = x → ∃ xs, Mine W1 w.heap.size 58 5 _ k xs ∧ ∀ v' w', Appended W1 w.heap.size 58 5 _ (k + 1) (xs ++ ndCells x (.slice A3 y.lead.length c3)) v' w' → NOwn w' w.heap.size (Old w) v' ((t.take (k + 1)).mapIdx (bump I d (-1)))) := hidden (fun W1 hW1 x hx hbx => by
            obtain ⟨xs, q1, q2⟩ := (HO.out.below hW1).push x (.slice A3 y.lead.length c3) (by rw [hx]; exact Rd.keeps hpl ⟨hW1.size, fun k hk _ => hW1.block k (Nat.lt_of_lt_of_le hk hb.size)⟩) (fun j hj e => by have := HG.out j e; have : j < w.heap.size := hj; omega)
            rw [hlb] at q1 q2
            refine ⟨xs, q1, fun v' w' hA => ?_⟩
            rw [hstep, hbx]
            exact q2 v' w' hA)
          have h99 : (k + 1) * 64 ≤ 140737488355328 := by omega
          have HJ : Hid (∀ g, Value.ownBlock _ = some g → w.heap.size ≤ g) := HG
          have m4 : y.size ≤ 1000000 := by omega
          have m5 : 1 ≤ y.size := by omega
          clear m3 m2 m1
          clear HO hlb hstep hpl HT HM HN HX2 hN0 hM0 HE
          by_cases hgt : (I : Int) < (k : Int) + y.size
          · have j3 : (0 : Int) ≤ (I : Int) := by omega
            have j4 : (I : Int) < (t.length : Int) := by omega
            go_wp2_with fail
            have hW0 : Below wr.heap.size wr (wr.alloc (.cells #[.int .i64 y.kind, .int .i64 y.n, .int .i64 y.size, .slice A3 y.lead.length c3, .string y.text] 58)) := (Below.refl _ _).alloc (Nat.le_refl _) _
            have hn := Holds.new wr 58 #[.int .i64 y.kind, .int .i64 y.n, .int .i64 y.size, .slice A3 y.lead.length c3, .string y.text]
            have y2a : (wr.alloc (.cells #[.int .i64 y.kind, .int .i64 y.n, .int .i64 y.size, .slice A3 y.lead.length c3, .string y.text] 58)).cell? ⟨b, off + I * 5 + 2, none⟩ = some (.int .i64 (sz t I)) := (hW0.cell (p := ⟨b, _, none⟩) (Nat.lt_of_lt_of_le hbT hbz)).trans y2
            have hsz0 : (wr.alloc (.cells #[.int .i64 y.kind, .int .i64 y.n, .int .i64 y.size, .slice A3 y.lead.length c3, .string y.text] 58)).heap.size = wr.heap.size + 1 := World.size_alloc _ _
            have z2 : (wr.alloc (.cells #[.int .i64 y.kind, .int .i64 y.n, .int .i64 y.size, .slice A3 y.lead.length c3, .string y.text] 58)).cell? ⟨wr.heap.size, 2, none⟩ = some (.int .i64 y.size) := hn.cell 2
            generalize (wr.alloc (.cells #[.int .i64 y.kind, .int .i64 y.n, .int .i64 y.size, .slice A3 y.lead.length c3, .string y.text] 58)) = W0 at *
            go_still_tail 12, (by kernel_rfl)
            change wpList _ _ _ _ _ W0.drew
            replace hW0 : Below wr.heap.size wr W0.drew := hW0.drew
            replace hn : Holds W0.drew _ _ _ := hn
            replace hsz0 : W0.drew.heap.size = wr.heap.size + 1 := hsz0
            clear y2a z2 y2
            generalize W0.drew = W5 at *
            have zf := hn.frozen 2
            have z2 : W5.cell? ⟨wr.heap.size, 2, none⟩ = some (.int .i64 y.size) := hn.cell 2
            have hn6 := hn.set 2 (.int .i64 (y.size - (sz t I : Int) + (s.length : Int)))
            have k0 : (W5.setCell ⟨wr.heap.size, 2, none⟩ (.int .i64 (y.size - (sz t I : Int) + (s.length : Int)))).cell? ⟨wr.heap.size, 0, none⟩ = some (.int .i64 y.kind) := hn6.cell 0
            have k1 : (W5.setCell ⟨wr.heap.size, 2, none⟩ (.int .i64 (y.size - (sz t I : Int) + (s.length : Int)))).cell? ⟨wr.heap.size, 1, none⟩ = some (.int .i64 y.n) := hn6.cell 1
            have k2 : (W5.setCell ⟨wr.heap.size, 2, none⟩ (.int .i64 (y.size - (sz t I : Int) + (s.length : Int)))).cell? ⟨wr.heap.size, 2, none⟩ = some (.int .i64 (y.size - (sz t I : Int) + (s.length : Int))) := hn6.cell 2
            have k3 : (W5.setCell ⟨wr.heap.size, 2, none⟩ (.int .i64 (y.size - (sz t I : Int) + (s.length : Int)))).cell? ⟨wr.heap.size, 3, none⟩ = some (.slice A3 y.lead.length c3) := hn6.cell 3
            have k4 : (W5.setCell ⟨wr.heap.size, 2, none⟩ (.int .i64 (y.size - (sz t I : Int) + (s.length : Int)))).cell? ⟨wr.heap.size, 4, none⟩ = some (.string y.text) := hn6.cell 4
            have hBW : Below wr.heap.size wr (W5.setCell ⟨wr.heap.size, 2, none⟩ (.int .i64 (y.size - (sz t I : Int) + (s.length : Int)))) := hW0.setCell (p := ⟨wr.heap.size, 2, none⟩) (Nat.le_refl _) _
            have hs6 : (W5.setCell ⟨wr.heap.size, 2, none⟩ (.int .i64 (y.size - (sz t I : Int) + (s.length : Int)))).heap.size = wr.heap.size + 1 := (World.size_setCell _ _ _).trans hsz0
            have hW1 : Below wr.heap.size wr ((W5.setCell ⟨wr.heap.size, 2, none⟩ (.int .i64 (y.size - (sz t I : Int) + (s.length : Int)))).alloc (.cells #[.int .i64 y.kind, .int .i64 y.n, .int .i64 (y.size - (sz t I : Int) + (s.length : Int)), .slice A3 y.lead.length c3, .string y.text] 58)) := hBW.alloc (by omega) _
            obtain ⟨xs, q1, q2⟩ := HPush.out _ hW1 { y with size := (y.size - (sz t I : Int) + (s.length : Int)) } rfl (by unfold bump; rw [if_pos ⟨by omega, hgt⟩, hd]; congr 1; omega)
            replace q1 := hidden q1; replace q2 := hidden q2
            have hX : Hid (Rd ((W5.setCell ⟨wr.heap.size, 2, none⟩ (.int .i64 (y.size - (sz t I : Int) + (s.length : Int)))).alloc (.cells #[.int .i64 y.kind, .int .i64 y.n, .int .i64 (y.size - (sz t I : Int) + (s.length : Int)), .slice A3 y.lead.length c3, .string y.text] 58)) (fun _ => True) 5 (.slice (some ⟨(W5.setCell ⟨wr.heap.size, 2, none⟩ (.int .i64 (y.size - (sz t I : Int) + (s.length : Int)))).heap.size, 0, none⟩) 1 1) 1 (ndCells { y with size := (y.size - (sz t I : Int) + (s.length : Int)) } (.slice A3 y.lead.length c3))) := hidden (Rd.fresh (cs := ndCells { y with size := (y.size - (sz t I : Int) + (s.length : Int)) } (.slice A3 y.lead.length c3)) rfl (Nat.le_refl _) (by decide) trivial rfl)
            have hX1 : Hid (∀ u ∈ ndCells { y with size := (y.size - (sz t I : Int) + (s.length : Int)) } (.slice A3 y.lead.length c3), u.oneCell' = true) := hidden (by intro u hu; simp only [ndCells, List.mem_cons, List.not_mem_nil, or_false] at hu; rcases hu with rfl | rfl | rfl | rfl | rfl <;> rfl)
            rw [hs6] at hX
            have hS : w.heap.size ≤ ((W5.setCell ⟨wr.heap.size, 2, none⟩ (.int .i64 (y.size - (sz t I : Int) + (s.length : Int)))).alloc (.cells #[.int .i64 y.kind, .int .i64 y.n, .int .i64 (y.size - (sz t I : Int) + (s.length : Int)), .slice A3 y.lead.length c3, .string y.text] 58)).heap.size := by rw [World.size_alloc]; omega
            have hb1 := hb.trans (hW1.mono hbz)
            clear hW1 HPush hn6 hn hW0 hBW
            go_wp2_with (at_builtin; refine wpList_append_all rfl _ _ 27 58 rfl (by kernel_rfl) HI rfl (by decide) w.heap.size _ _ _ q1 _ _ _ hX hX1 rfl rfl h99 (by decide) hS ?_; intro v' w' hA)
            refine ⟨⟨k + 1, by omega, by go_num, hidden (q2.out _ _ hA.out), hidden (fun g hg => ?_), hb1.trans hA.out.below⟩, by simp [intOf]; omega⟩
            rcases hA.out.at_ with h | ⟨g', h, h1, h2⟩
            · rw [h] at hg; exact HG.out g hg
            · rw [h] at hg; cases hg; exact Nat.le_trans hS h1
          · have hW1 : Below wr.heap.size wr ((wr.alloc (.cells #[.int .i64 y.kind, .int .i64 y.n, .int .i64 y.size, .slice A3 y.lead.length c3, .string y.text] 58)).alloc (.cells #[.int .i64 y.kind, .int .i64 y.n, .int .i64 y.size, .slice A3 y.lead.length c3, .string y.text] 58)) := ((Below.refl _ _).alloc (Nat.le_refl _) _).alloc (by simp) _
            obtain ⟨xs, q1, q2⟩ := HPush.out _ hW1 y rfl (by unfold bump; rw [if_neg (fun h => by omega)])
            replace q1 := hidden q1; replace q2 := hidden q2
            have hX : Hid (Rd ((wr.alloc (.cells #[.int .i64 y.kind, .int .i64 y.n, .int .i64 y.size, .slice A3 y.lead.length c3, .string y.text] 58)).alloc (.cells #[.int .i64 y.kind, .int .i64 y.n, .int .i64 y.size, .slice A3 y.lead.length c3, .string y.text] 58)) (fun _ => True) 5 (.slice (some ⟨wr.heap.size + 1, 0, none⟩) 1 1) 1 (ndCells y (.slice A3 y.lead.length c3))) := hidden (Rd.fresh (cs := ndCells y (.slice A3 y.lead.length c3)) rfl (Nat.le_refl _) (by decide) trivial (by simp))
            have hX1 : Hid (∀ u ∈ ndCells y (.slice A3 y.lead.length c3), u.oneCell' = true) := hidden (by intro u hu; simp only [ndCells, List.mem_cons, List.not_mem_nil, or_false] at hu; rcases hu with rfl | rfl | rfl | rfl | rfl <;> rfl)
            have hS : w.heap.size ≤ ((wr.alloc (.cells #[.int .i64 y.kind, .int .i64 y.n, .int .i64 y.size, .slice A3 y.lead.length c3, .string y.text] 58)).alloc (.cells #[.int .i64 y.kind, .int .i64 y.n, .int .i64 y.size, .slice A3 y.lead.length c3, .string y.text] 58)).heap.size := by rw [World.size_alloc, World.size_alloc]; omega
            have hb1 := hb.trans (hW1.mono hbz)
            clear hW1 HPush
            go_wp2_with (at_builtin; refine wpList_append_all rfl _ _ 27 58 rfl (by kernel_rfl) HI rfl (by decide) w.heap.size _ _ _ q1 _ _ _ hX hX1 rfl rfl h99 (by decide) hS ?_; intro v' w' hA)
            refine ⟨⟨k + 1, by omega, by go_num, hidden (q2.out _ _ hA.out), hidden (fun g hg => ?_), hb1.trans hA.out.below⟩, by simp [intOf]; omega⟩
            rcases hA.out.at_ with h | ⟨g', h, h1, h2⟩
            · rw [h] at hg; exact HG.out g hg
            · rw [h] at hg; cases hg; exact Nat.le_trans hS h1
        · obtain rfl : k = I := by omega
          have hT1 : ∀ v1 : Value, (∀ g, v1.ownBlock = some g → w.heap.size ≤ g) → ∀ j, Old w j → v1.ownBlock ≠ some j := fun v1 h j hj e => by have := h j e; have : j < w.heap.size := hj; omega
          obtain ⟨xs, news, HM1, HX1, H1, hnext⟩ := HO.out.append (hM0.out.below hb (fun _ h => h)) (hT1 _ HG.out)
          have hlb : ((t.take k).mapIdx (bump k d (-1))).length = k := by simp; omega
          rw [hlb] at HM1 hnext
          have h99 : (k + s.length) * 64 ≤ 140737488355328 := by omega
          have h98 : (k + s.length + (t.length - (k + sz t k))) * 64 ≤ 140737488355328 := by omega
          have hne : t ≠ [] := by intro e; subst e; simp at p2
          have HSec : Hid (∀ v1 w1, Appended wr w.heap.size 58 5 _ (k + s.length) (xs ++ news) v1 w1 → ∃ xs2 news2, Mine w1 w.heap.size 58 5 v1 (k + s.length) xs2 ∧ (∀ cc, c = k + sz t k → t.length - (k + sz t k) ≤ cc → cc ≤ maxLen → Rd w1 (Old w) 5 (.slice (some ⟨b, off, none⟩) (t.length - (k + sz t k)) cc) (t.length - (k + sz t k)) news2) ∧ (∀ cc, c ≠ k + sz t k → t.length - (k + sz t k) ≤ cc → cc ≤ maxLen → Rd w1 (Old w) 5 (.slice (some ⟨b, off + (k + sz t k) * 5, none⟩) (t.length - (k + sz t k)) cc) (t.length - (k + sz t k)) news2) ∧ (∀ x ∈ news2, x.oneCell' = true) ∧ w.heap.size ≤ w1.heap.size ∧
              (w1.cell? ⟨b, off + k * 5 + 2, none⟩ = some (.int .i64 (sz t k))) ∧ ∀ v' w', Appended w1 w.heap.size 58 5 v1 (k + s.length + (t.length - (k + sz t k))) (xs2 ++ news2) v' w' → Nds w' (Old w') v' (putL t k s) ∧ Below w.heap.size w w') := hidden (fun v1 w1 hA => by
            have hb1 := hb.trans hA.below
            have hG1 : ∀ g, v1.ownBlock = some g → w.heap.size ≤ g := fun g hg => by
              rcases hA.at_ with h | ⟨g', h, h1, h2⟩
              · rw [h] at hg; exact HG.out g hg
              · rw [h] at hg; cases hg; omega
            obtain ⟨xs2, news2, r1, r2, r3, r4⟩ := (hnext v1 w1 hA).append ((hN0.out.below hb1 (fun _ h => h)).tail n2 (by unfold maxLen; omega) hc1 hne) (hT1 _ hG1)
            have hl1 : ((t.take k).mapIdx (bump k d (-1)) ++ s).length = k + s.length := by rw [List.length_append, hlb]
            rw [hl1] at r1 r4
            rw [List.length_drop] at r2 r4
            have r2' : ∀ cc, t.length - (k + sz t k) ≤ cc → cc ≤ maxLen → Rd w1 (Old w) 5 (.slice (if c = k + sz t k then some ⟨b, off, none⟩ else some ⟨b, off + (k + sz t k) * 5, none⟩) (t.length - (k + sz t k)) cc) (t.length - (k + sz t k)) news2 := fun cc g1 g2 => by
              obtain ⟨q1, A9, c9, hv9, _, _, q3⟩ := r2
              simp only [Value.slice.injEq] at hv9
              exact ⟨q1, _, cc, rfl, g1, g2, by rw [hv9.1]; exact q3⟩
            refine ⟨xs2, news2, r1, fun cc e g1 g2 => by have := r2' cc g1 g2; rwa [if_pos e] at this, fun cc e g1 g2 => by have := r2' cc g1 g2; rwa [if_neg e] at this, r3, hb1.size, (hN0.out.below hb1 (fun _ h => h)).size_cell HT.out p2, fun v' w' hA2 => ?_⟩
            have hb2 := hb1.trans hA2.below
            have := (r4 v' w' hA2).nds (fun j hj => Nat.lt_of_lt_of_le hj hb2.size)
            rw [hd] at this
            exact ⟨this, hb2⟩)
          replace HM1 := hidden HM1; replace HX1 := hidden HX1; replace H1 := hidden H1
          have i3 : (0 : Int) ≤ (k : Int) + (sz t k : Int) := by omega
          have i4 : (k : Int) + (sz t k : Int) ≤ (t.length : Int) := by omega
          have i5 : ((k : Int) + (sz t k : Int)).toNat = k + sz t k := by omega
          clear hnext hlb HN HM hN0 hM0 HE HX2 HG HO HT hd
          by_cases ec : c = k + sz t k
          · subst ec
            rw [show t.length - (k + sz t k) = 0 by omega] at HSec h98
            go_wp2_with (first | (at_builtin; refine wpList_append_all rfl _ _ 27 58 rfl (by kernel_rfl) HI rfl (by decide) w.heap.size _ _ _ HM1 _ _ _ HX1 H1 rfl rfl h99 (by decide) hbz ?_; intro v1 w1 hA; obtain ⟨xs2, news2, r1, r2, r2b, r3, r5, y2, r4⟩ := HSec.out v1 w1 hA.out; replace r1 := hidden r1; replace r2 := hidden r2; replace r2b := hidden r2b; replace r3 := hidden r3; replace r4 := hidden r4; clear HSec HM1 HX1 H1) | (at_builtin; refine wpList_append_all rfl _ _ 27 58 rfl (by kernel_rfl) HI rfl (by decide) w.heap.size _ _ _ r1 _ _ _ (hidden (r2.out _ (by omega) (by omega) (by unfold maxLen; omega))) r3 rfl rfl h98 (by decide) r5 ?_; intro v' w' hA2) | (at_builtin; refine wpList_append_all rfl _ _ 27 58 rfl (by kernel_rfl) HI rfl (by decide) w.heap.size _ _ _ r1 _ _ _ (hidden (r2b.out _ (by omega) (by omega) (by unfold maxLen; omega))) r3 rfl rfl h98 (by decide) r5 ?_; intro v' w' hA2))
            obtain ⟨z1, z2⟩ := r4.out _ _ hA2.out
            go_ret2
            exact ⟨⟨_, rfl, hidden z1⟩, z2⟩
          · go_wp2_with (first | (at_builtin; refine wpList_append_all rfl _ _ 27 58 rfl (by kernel_rfl) HI rfl (by decide) w.heap.size _ _ _ HM1 _ _ _ HX1 H1 rfl rfl h99 (by decide) hbz ?_; intro v1 w1 hA; obtain ⟨xs2, news2, r1, r2, r2b, r3, r5, y2, r4⟩ := HSec.out v1 w1 hA.out; replace r1 := hidden r1; replace r2 := hidden r2; replace r2b := hidden r2b; replace r3 := hidden r3; replace r4 := hidden r4; clear HSec HM1 HX1 H1) | (at_builtin; refine wpList_append_all rfl _ _ 27 58 rfl (by kernel_rfl) HI rfl (by decide) w.heap.size _ _ _ r1 _ _ _ (hidden (r2.out _ (by omega) (by omega) (by unfold maxLen; omega))) r3 rfl rfl h98 (by decide) r5 ?_; intro v' w' hA2) | (at_builtin; refine wpList_append_all rfl _ _ 27 58 rfl (by kernel_rfl) HI rfl (by decide) w.heap.size _ _ _ r1 _ _ _ (hidden (r2b.out _ (by omega) (by omega) (by unfold maxLen; omega))) r3 rfl rfl h98 (by decide) r5 ?_; intro v' w' hA2))
            obtain ⟨z1, z2⟩ := r4.out _ _ hA2.out
            go_ret2
            exact ⟨⟨_, rfl, hidden z1⟩, z2⟩
end Go.Proofs.Ytbjheaiiajpifaa.T
