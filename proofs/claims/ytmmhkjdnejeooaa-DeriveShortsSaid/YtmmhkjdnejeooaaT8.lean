/-
  Other nodes in the place of a part: plain laws. arena.Put. facsimileref27.One: the row is the call's own, the leads are shared. facsimileref27.Put.
-/
import Derived.Test.YtmmhkjdnejeooaaB1
import Derived.Test.YtmmhkjdnejeooaaT3
import Derived.StillTailTactics
import Derived.RegionTactic
namespace Go.Proofs.Ytmmhkjdnejeooaa.T
open Go.RowKit Go.Shelf

/-- The node at k, its size turned by d where its stretch goes past i, if k is past a. -/
def bump (i : Nat) (d : Int) (a : Int) (k : Nat) (x : Node) : Node := if a < k ∧ (i : Int) < k + x.size then { x with size := x.size + d } else x
/-- What stands ahead of the place, so turned. -/
def bumps (t : List Node) (i : Nat) (d : Int) (a : Int) : List Node := (t.take i).mapIdx (bump i d a)
def putL (t : List Node) (i : Nat) (s : List Node) : List Node := bumps t i ((s.length : Int) - sz t i) (-1) ++ s ++ t.drop (i + sz t i)
noncomputable def putB (t : List Node) (i : Int) (s : List Node) : Bool := placeB t i && treeB s
noncomputable def putOf (t : List Node) (i : Int) (s : List Node) : List Node := if putB t i s then putL t i.toNat s else []

theorem bumps_len (t : List Node) (i : Nat) (d a : Int) (hi : i ≤ t.length) : (bumps t i d a).length = i := by unfold bumps; simp; omega
theorem bumps_at {t : List Node} {i : Nat} {d a : Int} {k : Nat} (hi : i ≤ t.length) (hk : k < i) : (bumps t i d a)[k]? = some (bump i d a k (t[k]'(by omega))) := by
  unfold bumps
  rw [List.getElem?_mapIdx, List.getElem?_take_of_lt hk, List.getElem?_eq_getElem (show k < t.length by omega)]
  rfl
theorem upN_noneP {t : List Node} {i : Nat} : ∀ (j k : Nat), upN t i j < (k : Int) → k < j → ¬ i < k + sz t k := by
  intro j
  induction j with
  | zero => intro k _ h; omega
  | succ j ih =>
    intro k h hk
    unfold upN at h
    by_cases hc : i < j + sz t j
    · rw [if_pos hc] at h; omega
    · rw [if_neg hc] at h
      by_cases e : k = j
      · subst e; exact hc
      · exact ih k h (by omega)
theorem upN_hit {t : List Node} {i : Nat} {a : Nat} : ∀ j, upN t i j = (a : Int) → i < a + sz t a := by
  intro j
  induction j with
  | zero => intro h; unfold upN at h; omega
  | succ j ih =>
    intro h
    unfold upN at h
    by_cases hc : i < j + sz t j
    · rw [if_pos hc] at h
      obtain rfl : j = a := by omega
      exact hc
    · rw [if_neg hc] at h; exact ih h
/-- Nothing between a node and the one above it goes past the node. -/
theorem bumps_start {t : List Node} (h : Tree t) {i : Nat} (hi : i < t.length) (d : Int) : bumps t i d (upN t i i) = t.take i := by
  apply List.ext_getElem?
  intro k
  by_cases hk : k < i
  · rw [bumps_at (by omega) hk, List.getElem?_take_of_lt hk, List.getElem?_eq_getElem (show k < t.length by omega)]
    unfold bump
    rw [if_neg]
    rintro ⟨h1, h2⟩
    have hn := (tree_node h (show k < t.length by omega)).2.2
    exact upN_noneP i k h1 hk (by omega)
  · rw [List.getElem?_eq_none (by rw [bumps_len _ _ _ _ (by omega)]; omega), List.getElem?_eq_none (by simp; omega)]
/-- The next one above. -/
theorem bumps_next {t : List Node} (h : Tree t) {i : Nat} (hi : i < t.length) (d : Int) {a : Nat} (ha : a < i) (hs : i < a + sz t a) : bumps t i d (upN t a a) = (bumps t i d a).set a { (t[a]'(by omega)) with size := (sz t a : Int) + d } := by
  have hla : (bumps t i d (a : Int)).length = i := bumps_len _ _ _ _ (by omega)
  apply List.ext_getElem?
  intro k
  by_cases hk : k < i
  · have hn := (tree_node h (show k < t.length by omega)).2.2
    rw [bumps_at (by omega) hk]
    by_cases e : k = a
    · subst e
      rw [List.getElem?_set_self (by omega)]
      unfold bump
      rw [if_pos, hn]
      have hlt : upN t k k < k := by
        rcases upN_cases t k k with h1 | ⟨m, h1⟩
        · omega
        · have := upN_lt k h1; omega
      exact ⟨hlt, by omega⟩
    · rw [List.getElem?_set_ne (by omega), bumps_at (by omega) hk]
      unfold bump
      by_cases hka : k < a
      · have hno : ¬ (upN t a a < (k : Int) ∧ (i : Int) < k + t[k].size) := by
          rintro ⟨h1, h2⟩
          exact upN_noneP a k h1 hka (by omega)
        rw [if_neg hno, if_neg (fun h => by omega)]
      · have hlt : upN t a a < a := by
          rcases upN_cases t a a with h1 | ⟨m, h1⟩
          · omega
          · have := upN_lt a h1; omega
        by_cases hc : (i : Int) < k + t[k].size
        · rw [if_pos ⟨by omega, hc⟩, if_pos ⟨by omega, hc⟩]
        · rw [if_neg (fun h => hc h.2), if_neg (fun h => hc h.2)]
  · rw [List.getElem?_eq_none (by rw [bumps_len _ _ _ _ (by omega)]; omega), List.getElem?_eq_none (by rw [List.length_set]; omega)]
/-- The one above goes past the place too. -/
theorem up_past {t : List Node} (h : Tree t) {i a b : Nat} (hi : i < t.length) (ha : a < i) (hs : i < a + sz t a) (hb : upN t a a = (b : Int)) : b < a ∧ i < b + sz t b := by
  have h1 := upN_lt a hb
  have h2 := upN_hit a hb
  obtain ⟨_, h4, h5⟩ := tree_step h (show b < t.length by omega) h1 h2
  exact ⟨h1, by omega⟩
end Go.Proofs.Ytmmhkjdnejeooaa.T

namespace Go.Proofs.Ytmmhkjdnejeooaa.T
open Go.RowKit Go.Shelf

theorem allCells_size (t : List Node) (ls : List Value) (k : Nat) (sd : Int) (h : ls.length = t.length) (hk : k < t.length) : allCells (t.set k { t[k] with size := sd }) ls = (allCells t ls).set (k * 5 + 2) (.int .i64 sd) := by
  apply List.ext_getElem?
  intro m
  have hl : (allCells (t.set k { t[k] with size := sd }) ls).length = t.length * 5 := by rw [allCells_len _ _ (by simp [h])]; simp
  have hl2 := allCells_len t ls h
  by_cases hm : m < t.length * 5
  · obtain ⟨i, j, hj, rfl⟩ : ∃ i j, j < 5 ∧ m = i * 5 + j := ⟨m / 5, m % 5, Nat.mod_lt _ (by decide), by omega⟩
    have hi : i < t.length := by omega
    have hat : ∀ (u : List Node) (hu : u.length = t.length), (allCells u ls)[i * 5 + j]? = (ndCells (u[i]'(by omega)) (ls[i]'(by omega)))[j]? := by
      intro u hu
      have hz : (u.zip ls)[i]? = some (u[i]'(by omega), ls[i]'(by omega)) := by
        rw [List.getElem?_zip_eq_some]
        exact ⟨List.getElem?_eq_getElem _, List.getElem?_eq_getElem _⟩
      exact flat_at (fun x : Node × Value => ndCells x.1 x.2) 5 (fun _ => rfl) (u.zip ls) i j _ hz hj
    rw [hat _ (by simp)]
    by_cases e : i * 5 + j = k * 5 + 2
    · obtain rfl : i = k := by omega
      obtain rfl : j = 2 := by omega
      rw [List.getElem?_set_self (by omega)]
      simp [ndCells]
    · rw [List.getElem?_set_ne (by omega), hat t rfl]
      by_cases ei : i = k
      · subst ei
        rw [List.getElem_set_self]
        have : j ≠ 2 := by omega
        obtain rfl | rfl | rfl | rfl : j = 0 ∨ j = 1 ∨ j = 3 ∨ j = 4 := by omega
        all_goals simp [ndCells]
      · rw [List.getElem_set_ne (by omega)]
  · rw [List.getElem?_eq_none (by omega), List.getElem?_eq_none (by rw [List.length_set]; omega)]

/-- A node's size is written anew. -/
theorem Own.resize_at {w : World} {B : Nat} {v : Value} {t : List Node} (h : Own w B v t) {k : Nat} (hk : k < t.length) : ∃ g cap, v = .slice (some ⟨g, 0, none⟩) t.length cap ∧ t.length ≤ cap ∧ cap ≤ maxLen ∧ B ≤ g ∧
    w.cell? ⟨g, k * 5 + 2, none⟩ = some (.int .i64 t[k].size) ∧ w.frozen? ⟨g, k * 5 + 2, none⟩ = false ∧ ∀ sd : Int, Own (w.setCell ⟨g, k * 5 + 2, none⟩ (.int .i64 sd)) B v (t.set k { t[k] with size := sd }) := by
  obtain ⟨ls, h1, h2, h3⟩ := h
  have h0 : 0 < t.length := by omega
  obtain ⟨g, cap, rfl, c1, c2, c3, c4, c5⟩ := h2.open_ h0
  have hfz : w.frozen? ⟨g, k * 5 + 2, none⟩ = false := by
    rcases (h2.own h0).2 with ⟨_, e⟩ | ⟨g', cap', cur, hv, _, hg, _⟩
    · omega
    · simp only [Value.slice.injEq, Option.some.injEq, Addr.mk.injEq] at hv
      obtain ⟨⟨rfl, _⟩, _, _⟩ := hv
      exact Holds.frozen hg _
  have hz : (t.zip ls)[k]? = some (t[k], ls[k]'(by omega)) := by
    rw [List.getElem?_zip_eq_some]; exact ⟨List.getElem?_eq_getElem hk, List.getElem?_eq_getElem _⟩
  have hcell : (allCells t ls)[k * 5 + 2]? = some (.int .i64 t[k].size) := by
    unfold allCells
    rw [flat_at (fun x : Node × Value => ndCells x.1 x.2) 5 (fun _ => rfl) (t.zip ls) k 2 _ hz (by omega)]
    rfl
  refine ⟨g, cap, rfl, c1, c2, c3, c5 _ _ hcell, hfz, fun sd => ⟨ls, by simp [h1], ?_, fun i y l' a b => ?_⟩⟩
  · rw [allCells_size t ls k sd h1 hk, List.length_set]
    exact h2.stored h0 _ _
  · obtain ⟨y', hy', hy2⟩ : ∃ y', t[i]? = some y' ∧ y'.lead = y.lead := by
      by_cases e : i = k
      · subst e
        rw [List.getElem?_set_self hk] at a
        simp at a; subst a
        exact ⟨t[i], List.getElem?_eq_getElem hk, rfl⟩
      · rw [List.getElem?_set_ne (fun h => e h.symm)] at a
        exact ⟨y, a, rfl⟩
    obtain ⟨p1, p2⟩ := h3 i y' l' hy' b
    rw [hy2] at p1
    exact ⟨p1.set (p := ⟨g, k * 5 + 2, none⟩) (fun e => (p2 _ e).1 rfl) _, fun q hq => ⟨(p2 q hq).1, (p2 q hq).2.1, by have := (p2 q hq).2.2; simpa [World.setCell] using this⟩⟩

theorem Nds.tail {w : World} {T : Nat → Prop} {b off c : Nat} {t : List Node} (h : Nds w T (.slice (some ⟨b, off, none⟩) t.length c) t) {E : Nat} (hE : E ≤ t.length) (hc : c ≤ maxLen) (hlc : t.length ≤ c) (h0 : t ≠ []) :
    Nds w T (.slice (if c = E then some ⟨b, off, none⟩ else some ⟨b, off + E * 5, none⟩) (t.length - E) (c - E)) (t.drop E) := by
  by_cases e : c = E
  · have h1 : t.length - E = 0 := by omega
    have h2 : c - E = 0 := by omega
    rw [if_pos e, h1, h2, List.drop_of_length_le (by omega)]
    exact ⟨[], rfl, ⟨rfl, _, 0, rfl, Nat.le_refl _, by decide, fun h => absurd h (Nat.lt_irrefl 0)⟩, fun i x l h => by simp at h⟩
  · rw [if_neg e]
    have := h.part E (t.length - E) (c' := c - E) (by omega) (by omega) (by omega) h0
    rwa [List.take_of_length_le (by simp)] at this
theorem Nds.head {w : World} {T : Nat → Prop} {b off c : Nat} {t : List Node} (h : Nds w T (.slice (some ⟨b, off, none⟩) t.length c) t) {i : Nat} (hi : i ≤ t.length) (hc : c ≤ maxLen) (hlc : t.length ≤ c) (h0 : t ≠ []) :
    Nds w T (.slice (some ⟨b, off, none⟩) i i) (t.take i) := by
  have := h.part 0 i (c' := i) (by omega) (Nat.le_refl _) (by omega) h0
  simpa using this
theorem three_parts {w : World} {v1 v2 v3 : Value} {t1 t2 t3 : List Node} (h1 : Nds w (Old w) v1 t1) (h2 : Nds w (Old w) v2 t2) (h3 : Nds w (Old w) v3 t3) :
    Parts (w.alloc (.cells #[v1, v2, v3] 27)) (fun k => k < (w.alloc (.cells #[v1, v2, v3] 27)).heap.size) (.slice (some ⟨w.heap.size, 0, none⟩) 3 3) [t1, t2, t3] := by
  have hT : ∀ k, Old w k → k < (w.alloc (.cells #[v1, v2, v3] 27)).heap.size := fun k hk => by have : k < w.heap.size := hk; simp; omega
  refine ⟨[v1, v2, v3], rfl, Rd.fresh (cs := [v1, v2, v3]) (n := 3) (size := 1) rfl (Nat.le_refl _) (by decide) (by simp) rfl, fun i t u a b => ?_⟩
  match i, a, b with
  | 0, a, b => simp at a b; subst a b; exact (h1.alloc _).mono hT
  | 1, a, b => simp at a b; subst a b; exact (h2.alloc _).mono hT
  | 2, a, b => simp at a b; subst a b; exact (h3.alloc _).mono hT
  | n + 3, a, b => simp at a

end Go.Proofs.Ytmmhkjdnejeooaa.T

namespace Go.Proofs.Ytmmhkjdnejeooaa.T
open Go.RowKit Go.Shelf

/-- v reads as the nodes t: a row of the call's own, from B on; the leads in T. -/
def NOwn (w : World) (B : Nat) (T : Nat → Prop) (v : Value) (t : List Node) : Prop :=
  ∃ ls : List Value, ls.length = t.length ∧ Mine w B 37 5 v t.length (allCells t ls) ∧ ∀ (i : Nat) (x : Node) (l : Value), t[i]? = some x → ls[i]? = some l → Pcs w T l x.lead
section
variable {w w' : World} {B : Nat} {T : Nat → Prop} {v : Value} {t : List Node}
theorem NOwn.below (h : NOwn w B T v t) (hb : Below w.heap.size w w') : NOwn w' B T v t := by
  obtain ⟨ls, h1, h2, h3⟩ := h
  exact ⟨ls, h1, h2.below hb, fun i x l a b => (h3 i x l a b).keeps (Keeps.of_below hb)⟩
theorem NOwn.nds (h : NOwn w B T v t) (hT : ∀ k, T k → k < w.heap.size) : Nds w (Old w) v t := by
  obtain ⟨ls, h1, h2, h3⟩ := h
  exact ⟨ls, h1, h2.rd (fun g _ _ h => h), fun i x l a b => (h3 i x l a b).mono hT⟩
/-- What an append of nodes that are read leaves. -/
theorem NOwn.append (h : NOwn w B T v t) {t2 : List Node} {u : Value} (hu : Nds w T u t2) (hT : ∀ k, T k → v.ownBlock ≠ some k) :
    ∃ xs news, Mine w B 37 5 v t.length xs ∧ Rd w T 5 u t2.length news ∧ (∀ x ∈ news, x.oneCell' = true) ∧ ∀ v' w', Appended w B 37 5 v (t.length + t2.length) (xs ++ news) v' w' → NOwn w' B T v' (t ++ t2) := by
  obtain ⟨ls, h1, h2, h3⟩ := h
  obtain ⟨l2, g1, g2, g3⟩ := hu
  refine ⟨_, _, h2, g2, nd_oneCell t2 l2 (fun l hl => ?_), fun v' w' hA => ⟨ls ++ l2, by simp [h1, g1], ?_, fun i x l a b => ?_⟩⟩
  · obtain ⟨i, hi, e⟩ := List.mem_iff_getElem.1 hl
    obtain ⟨A, c, e2, _⟩ := (g3 i _ l (List.getElem?_eq_getElem (show i < t2.length by omega)) (by rw [List.getElem?_eq_getElem hi, e])).value
    rw [e2]; rfl
  · rw [allCells_append _ _ _ _ h1, List.length_append]
    exact hA.mine
  · have hk : Keeps T w w' := hA.keeps.mono (fun k hk => hT k hk)
    rcases Nat.lt_or_ge i t.length with h | h
    · rw [List.getElem?_append_left h] at a
      rw [List.getElem?_append_left (by omega)] at b
      exact (h3 i x l a b).keeps hk
    · rw [List.getElem?_append_right h] at a
      rw [List.getElem?_append_right (by omega), h1] at b
      exact (g3 _ x l a b).keeps hk
/-- The first node's size is written anew. -/
theorem NOwn.resize {x : Node} (h : NOwn w B T v (x :: t)) (hT : ∀ k, T k → v.ownBlock ≠ some k) (s : Int) : ∃ g cap, v = .slice (some ⟨g, 0, none⟩) (t.length + 1) cap ∧ t.length + 1 ≤ cap ∧ cap ≤ maxLen ∧ B ≤ g ∧
    (∃ u, w.cell? ⟨g, 2, none⟩ = some u) ∧ w.frozen? ⟨g, 2, none⟩ = false ∧ NOwn (w.setCell ⟨g, 2, none⟩ (.int .i64 s)) B T v ({ x with size := s } :: t) := by
  obtain ⟨ls, h1, h2, h3⟩ := h
  have h0 : 0 < (x :: t).length := by simp
  obtain ⟨g, cap, rfl, c1, c2, c3, c4, c5⟩ := h2.open_ h0
  obtain ⟨l, ls, rfl⟩ : ∃ l ls', ls = l :: ls' := by
    cases ls with
    | nil => simp at h1
    | cons l ls' => exact ⟨l, ls', rfl⟩
  have hcells : allCells (x :: t) (l :: ls) = ndCells x l ++ allCells t ls := by simp [allCells]
  have hcells' : allCells ({ x with size := s } :: t) (l :: ls) = (allCells (x :: t) (l :: ls)).set 2 (.int .i64 s) := by
    rw [hcells]; simp [allCells, ndCells]
  have hfz : w.frozen? ⟨g, 2, none⟩ = false := by
    rcases (h2.own h0).2 with ⟨_, e⟩ | ⟨g', cap', cur, hv, _, hg, _⟩
    · simp at e
    · simp only [Value.slice.injEq, Option.some.injEq, Addr.mk.injEq] at hv
      obtain ⟨⟨rfl, _⟩, _, _⟩ := hv
      exact Holds.frozen hg _
  refine ⟨g, cap, rfl, c1, c2, c3, ⟨_, c5 2 _ (by rw [hcells]; rfl)⟩, hfz, l :: ls, by simpa using h1, ?_, fun i y l' a b => ?_⟩
  · rw [hcells']
    exact h2.stored h0 2 _
  · obtain ⟨y', hy', hy2⟩ : ∃ y', (x :: t)[i]? = some y' ∧ y'.lead = y.lead := by
      cases i with
      | zero => simp at a; subst a; exact ⟨x, by simp, rfl⟩
      | succ i => exact ⟨y, by simpa using a, rfl⟩
    have p1 := h3 i y' l' hy' b
    rw [hy2] at p1
    exact p1.keeps ((Keeps.refl _ _).setCell (p := ⟨g, 2, none⟩) (fun e => hT _ e rfl) _)
end

theorem take_flat {ts : List (List Node)} {k : Nat} (hk : k < ts.length) : (ts.take (k + 1)).flatten = (ts.take k).flatten ++ ts[k] ∧ (ts.take k).flatten.length + ts[k].length ≤ ts.flatten.length := by
  have e : (ts.take (k + 1)).flatten = (ts.take k).flatten ++ ts[k] := by rw [List.take_succ_eq_append_getElem hk, List.flatten_append]; simp
  refine ⟨e, ?_⟩
  rw [← List.length_append, ← e]
  have : ts.flatten.length = (ts.take (k + 1)).flatten.length + (ts.drop (k + 1)).flatten.length := by rw [← List.length_append, ← List.flatten_append, List.take_append_drop]
  omega

set_option maxRecDepth 20000 in
set_option maxHeartbeats 4000000 in
theorem ref_one (x : Node) (l v : Value) (ts : List (List Node)) (w : World) (hlen : ts.length ≤ 1000000000) (hall : ts.flatten.length ≤ 100000000) (hN : Parts w (fun k => k < w.heap.size) v ts) (hl : Pcs w (Old w) l x.lead) :
    Calls Try.prog 51 #[.agg #[.int .i64 x.kind, .int .i64 x.n, .int .i64 x.size, l, .string x.text], v] w fun r w' => (∃ u, r = .returned u ∧ Hid (NOwn w' w.heap.size (Old w) u (oneOf x ts))) ∧ Below w.heap.size w w' := by
  have HN := hidden hN
  have HP := hidden hl
  obtain ⟨vs, hvl, hR, _⟩ := hN
  obtain ⟨A, c, rfl, hc1, hc2⟩ := hR.val
  obtain ⟨A2, c2, rfl, hd1, hd2⟩ := hl.value
  unfold maxLen at hc2 hd2
  have HI := node_info
  have HL := hidden (fun k (hk : k < ts.length) => take_flat hk)
  unfold oneOf
  obtain ⟨F, hFl⟩ : ∃ F, ts.flatten = F := ⟨_, rfl⟩
  rw [hFl] at hall ⊢
  have HFe : Hid ((ts.take ts.length).flatten = F) := hidden (by rw [List.take_length, hFl])
  have HFl := hidden (congrArg List.length hFl)
  clear hR hl hFl
  go_enter Try.func51, Try.ntmps51
  go_wp2
  go_loopw [5, 6] (fun o ii wr => ∃ k : Nat, k ≤ ts.length ∧ ii = .int .i64 k ∧ Hid (NOwn wr w.heap.size (Old w) o (x :: (ts.take k).flatten)) ∧ Hid (∀ g, o.ownBlock = some g → w.heap.size ≤ g) ∧ Below w.heap.size w wr) (fun _ ii _ => ts.length - (intOf ii).toNat)
  case atStart =>
    refine ⟨0, by omega, rfl, hidden ⟨[.slice A2 x.lead.length c2], rfl, ?_, fun i y l a b => ?_⟩, hidden (fun g hg => by simp [Value.ownBlock] at hg; omega), (by repeat (first | (with_reducible exact Below.refl _ _) | (with_reducible assumption) | (with_reducible refine Below.drew ?_) | (with_reducible refine below_drewN ?_ _) | ((with_reducible refine below_alloc ?_ ?_); (focus (first | omega | (simp; done) | (simp; omega)))) | ((with_reducible refine below_set ?_ ?_); (focus (first | omega | (simp; done) | (simp; omega))))))⟩
    · exact Mine.made_at _ _ _ 5 1 [.int .i64 x.kind, .int .i64 x.n, .int .i64 x.size, .slice A2 x.lead.length c2, .string x.text] rfl (by decide) (by simp) (by omega)
    · cases i with
      | zero => simp at a b; subst a b; exact (HP.out.keeps ((Keeps.refl _ _).alloc _)).keeps ((Keeps.refl _ _).alloc _)
      | succ i => simp at a
  case round =>
    obtain ⟨k, hk, rfl, HO, HG, hb⟩ := hrel
    have hbz := hb.size
    by_cases hlt : k < ts.length
    · obtain ⟨b, off, u, rfl, x0, hnd⟩ := (HN.out.below hb).at_ hlt
      obtain ⟨hfl, hlen2⟩ := HL.out k hlt
      have HFL : Hid (x :: (ts.take (k + 1)).flatten = (x :: (ts.take k).flatten) ++ ts[k]) := hidden (by rw [hfl]; rfl)
      obtain ⟨xs, news, HM, HX, H1, hnext⟩ := HO.out.append hnd (fun j hj e => by have := HG.out j e; have : j < w.heap.size := hj; omega)
      replace HM := hidden HM; replace HX := hidden HX; replace H1 := hidden H1; have HQ := hidden hnext
      obtain ⟨A3, c3, rfl, f1, f2⟩ := hnd.value
      unfold maxLen at f2
      clear hnd hfl hnext
      have h9 : ((x :: (ts.take k).flatten).length + ts[k].length) * 64 ≤ 140737488355328 := by have := HFl.out; simp only [List.length_cons]; omega
      generalize ts[k] = t at *
      generalize x :: (ts.take k).flatten = t0 at *
      go_wp2_with (at_builtin; refine wpList_append_all rfl _ _ 27 37 rfl (by kernel_rfl) HI rfl (by decide) w.heap.size _ _ _ HM _ _ _ HX H1 rfl rfl h9 (by decide) hbz ?_; intro v' w' hA)
      go_roundw
      case rel =>
        refine ⟨k + 1, by omega, by go_num, by rw [HFL.out]; exact hidden (HQ.out _ _ hA.out), hidden (fun g hg => ?_), hb.trans hA.out.below⟩
        rcases hA.out.at_ with h | ⟨g', h, h1, h2⟩
        · rw [h] at hg; exact HG.out g hg
        · rw [h] at hg; cases hg; omega
      case measure => simp [intOf]; omega
    · obtain rfl : k = ts.length := by omega
      rw [HFe.out] at HO
      obtain ⟨g, cap, rfl, k1, k2, k3, ⟨u0, z⟩, zf, hO⟩ := HO.out.resize (fun j hj e => by have := HG.out j e; have : j < w.heap.size := hj; omega) ((F.length : Int) + 1)
      unfold maxLen at k2
      have HO2 := hidden hO
      clear HO hO HG HL
      go_wp2
      go_ret
      exact ⟨⟨.slice (some ⟨g, 0, none⟩) (F.length + 1) cap, rfl, HO2⟩, hb.setCell (p := ⟨g, 2, none⟩) k3 _⟩
end Go.Proofs.Ytmmhkjdnejeooaa.T

namespace Go.Proofs.Ytmmhkjdnejeooaa.T
open Go.RowKit Go.Shelf

/-- One node more, whose lead lies in T. -/
theorem NOwn.push {w : World} {B : Nat} {T : Nat → Prop} {v : Value} {t : List Node} (h : NOwn w B T v t) (x : Node) (l : Value) (hl : Pcs w T l x.lead) (hT : ∀ k, T k → v.ownBlock ≠ some k) :
    ∃ xs, Mine w B 37 5 v t.length xs ∧ ∀ v' w', Appended w B 37 5 v (t.length + 1) (xs ++ ndCells x l) v' w' → NOwn w' B T v' (t ++ [x]) := by
  obtain ⟨ls, h1, h2, h3⟩ := h
  refine ⟨_, h2, fun v' w' hA => ⟨ls ++ [l], by simp [h1], ?_, fun i y l' a b => ?_⟩⟩
  · rw [allCells_append _ _ _ _ h1, List.length_append]
    have : allCells [x] [l] = ndCells x l := by simp [allCells]
    rw [this]
    exact hA.mine
  · have hk : Keeps T w w' := hA.keeps.mono (fun k hk => hT k hk)
    rcases Nat.lt_or_ge i t.length with h | h
    · rw [List.getElem?_append_left h] at a
      rw [List.getElem?_append_left (by omega)] at b
      exact (h3 i y l' a b).keeps hk
    · rw [List.getElem?_append_right h] at a
      rw [List.getElem?_append_right (by omega), h1] at b
      have e : i - t.length = 0 := by
        have := (List.getElem?_eq_some_iff.1 a).1
        simp at this; omega
      rw [e] at a b
      simp at a b; subst a b
      exact Rd.keeps hl hk

theorem bumpTo_step {t : List Node} {i : Nat} {d : Int} {k : Nat} (hk : k < t.length) : (t.take (k + 1)).mapIdx (bump i d (-1)) = (t.take k).mapIdx (bump i d (-1)) ++ [bump i d (-1) k t[k]] := by
  rw [List.take_succ_eq_append_getElem hk, List.mapIdx_append]
  simp [List.length_take, Nat.min_eq_left (Nat.le_of_lt hk)]

end Go.Proofs.Ytmmhkjdnejeooaa.T
