/-
  The kids of a node and their items, plainly; the state in which lay's walk is called; append of a place.
-/
import Derived.Test.YtbjheaiiajpifaaLayF
import Derived.Test.YtbjheaiiajpifaaLayC
import Derived.Test.YtbjheaiiajpifaaFlat
namespace Go.Proofs.Ytbjheaiiajpifaa.T
open Go.RowKit Go.Shelf

/-- The items of the production that a node is made by. -/
def rightAt (g : Gram) (t : List Node) (i : Nat) : List Item := match prodAt g t i with | some p => p.right | none => []
theorem item_kid {g : Gram} {t : List Node} (hT : Tree t) {i k x : Nat} (hi : i < t.length) (hk : (kidsL t i)[k]? = some x) : itemOf g t x = if badAt t x = true then none else (rightAt g t i)[cntTo t (kidsL t i) k]? := by
  obtain ⟨h1, h2, h3⟩ := kid_up hT hi (List.mem_of_getElem? hk)
  have h4 := tree_node hT hi
  rw [upOf_in hT (by omega)] at h1
  unfold itemOf rightAt
  rw [h1, Int.toNat_natCast, idx_nodup (kidsL_nodup t i) hk]
  cases hb : badAt t x with
  | true => rw [if_pos (Or.inr rfl), if_pos rfl]
  | false =>
    rw [if_neg (by rintro (h | h); omega; cases h), if_neg (by decide)]
    cases prodAt g t i with
    | none => simp
    | some p => rfl
/-- The next kid begins where the last one ends. -/
theorem kids_walk {t : List Node} (hT : Tree t) {i k q : Nat} (hi : i < t.length) (hq : i < q) (h : (kidsL t i).drop k = kidsFrom t (i + sz t i) q) (hk : k < (kidsL t i).length) :
    q < i + sz t i ∧ (kidsL t i)[k]? = some q ∧ q < t.length ∧ 1 ≤ sz t q ∧ q + sz t q ≤ i + sz t i ∧ sz t q < sz t i ∧ upN t q q = (i : Int) ∧ (kidsL t i).drop (k + 1) = kidsFrom t (i + sz t i) (q + sz t q) := by
  have hlt : q < i + sz t i := by
    apply Classical.byContradiction
    intro hn
    rw [kidsFrom_ge hn, List.drop_eq_nil_iff] at h
    omega
  obtain ⟨h1, h2, h3⟩ := tree_step hT hi hq hlt
  rw [kidsFrom_lt hlt h2] at h
  have hk' : (kidsL t i)[k]? = some q := by
    have := congrArg List.head? h
    rwa [List.head?_drop] at this
  obtain ⟨h4, _, _⟩ := kid_up hT hi (List.mem_of_getElem? hk')
  rw [upOf_in hT h1] at h4
  refine ⟨hlt, hk', h1, h2, h3, by omega, h4, ?_⟩
  have := congrArg List.tail h
  rwa [List.tail_drop] at this
theorem kids_done {t : List Node} {i k q : Nat} (hq : q ≤ i + sz t i) (h : (kidsL t i).drop k = kidsFrom t (i + sz t i) q) (hk : ¬ k < (kidsL t i).length) : q = i + sz t i := by
  apply Classical.byContradiction
  intro hn
  rw [List.drop_eq_nil_iff.2 (by omega), kidsFrom, if_pos (by omega)] at h
  cases h

theorem plusS_kid {gp inn : Int} {x : Item} (hgp : 0 ≤ gp) (h1 : 0 ≤ x.gap) : plusS gp inn x = (max x.gap gp, x.in_ + inn) := by
  unfold plusS
  by_cases h : eqB x zeroIt = true
  · rw [if_pos h]
    have e : x = zeroIt := by unfold eqB at h; simpa using h
    subst e
    show (gp, inn) = (max 0 gp, 0 + inn)
    rw [show max 0 gp = gp by omega, Int.zero_add]
  · rw [if_neg h]
    have e1 : (if gp < x.gap then x.gap else gp) = max x.gap gp := by split <;> omega
    rw [e1, Int.add_comm]

theorem layPlace_info : Hid (TyInfo Try.prog 82 (.agg #[.int .i64 0, .int .i64 0, .int .i64 0]) 3 24) := hidden (info_parts (show (Try.prog.info? 82).map (fun i => (i.zero, i.size, i.bytes)) = some (some (.agg #[.int .i64 0, .int .i64 0, .int .i64 0]), 3, 24) by kernel_rfl))
theorem plc_len (x : Plc) : (plCells x).length = 3 := rfl
theorem plc_one (x : Plc) : ∀ u ∈ plCells x, u.oneCell' = true := by
  intro u hu
  simp only [plCells, List.mem_cons, List.not_mem_nil, or_false] at hu
  rcases hu with rfl | rfl | rfl <;> rfl
/-- One place is put behind the call's own; where the row lies then. -/
theorem wpList_append_pl {w W0 : World} {ops : Array Oper} {rest : List Oper} {o : Oper} {a : Act} {Q : Exit → Act → World → Prop} (hgd : o.guard = none) (s x : Operand) (t e e' : TypeId)
    (ho : o.op = .call { callee := .builtin .append, args := #[s, x], argTypes := #[t, t] }) (ht : Try.prog.underlying t = some (.slice e)) {z : Value} (HI : Hid (TyInfo Try.prog e z 3 24)) (hzs : z.cells.size = 3)
    (base : Nat) (v : Value) (l : List Plc) (HM : Hid (FlatM plCells 3 e W0 base v l)) (u : Plc) (hw : w = W0.alloc (.cells (plCells u).toArray e')) (hs : a.eval s = v) {g : Nat} (hx : a.eval x = .slice (some ⟨g, 0, none⟩) 1 1) (hg : g = W0.heap.size)
    (hn : (l.length + 1) * 24 ≤ 140737488355328) (hb : base ≤ W0.heap.size)
    (h : ∀ v' w', Hid (FlatM plCells 3 e w' base v' (l ++ [u])) → Below base W0 w' → Hid (Keeps (fun j => v.ownBlock ≠ some j) W0 w') → Hid (v'.ownBlock = v.ownBlock ∨ ∃ q, v'.ownBlock = some q ∧ W0.heap.size ≤ q ∧ q < w'.heap.size) → wpList Try.prog ops Q rest (a.put o.dst v') w') : wpList Try.prog ops Q (o :: rest) a w := by
  obtain ⟨i, hi, hz, hsz, hby⟩ := HI.out
  subst hw hg
  refine wpList_append_rd hgd s x t ho base e i z 3 24 ht hi hz hsz hby hzs (by decide) v l.length _ hs (HM.out.alloc _) (T := fun _ => True) _ 1 (plCells u) hx ?_ (plc_one u) hn (by decide) (Nat.le_trans hb (by simp)) (fun v' w' hA => h v' w' ?_ (((Below.refl _ _).alloc hb _).trans hA.below) (hidden (((Keeps.refl _ _).alloc _).trans hA.keeps)) (hidden ?_))
  · exact Rd.fresh (cs := plCells u) (n := 1) (size := 3) rfl (Nat.le_refl _) (by decide) trivial rfl
  · have := hA.mine
    refine hidden ?_
    unfold FlatM
    rw [List.length_append, List.flatMap_append, List.flatMap_cons, List.flatMap_nil, List.append_nil]
    exact this
  · rcases hA.at_ with h | ⟨q, h1, h2, h3⟩
    · exact .inl h
    · exact .inr ⟨q, h1, by simp at h2; omega, h3⟩

/-- The state in which the walk of lay.Of is called on the node at i: the boxes of what it captures, and the places that were put out. -/
structure WalkAt (w : World) (m : Nat) (vt : Value) (gc : Array Value) (g : Gram) (t : List Node) (W : World) (vo : Value) (i : Nat) : Prop where
  below : Below w.heap.size w W
  le : w.heap.size + 2 ≤ m
  size : m + 2 ≤ W.heap.size
  hg : Holds W w.heap.size 26 gc
  ht : Holds W (w.heap.size + 1) 27 #[vt]
  ho : Holds W (m) 61 #[vo]
  hw : Holds W (m + 1) 137 #[.func (.func 59) #[] #[.pointer (some ⟨w.heap.size + 1, 0, none⟩), .pointer (some ⟨m, 0, none⟩), .pointer (some ⟨w.heap.size, 0, none⟩), .pointer (some ⟨m + 1, 0, none⟩)]]
  mine : FlatM plCells 3 82 W (m + 2) vo (placesIn g t 0 i)
  own : ∀ q, vo.ownBlock = some q → m + 2 ≤ q ∧ q < W.heap.size
def OutT (m : Nat) (vo : Value) (k : Nat) : Prop := k ≠ m ∧ vo.ownBlock ≠ some k
theorem WalkAt.later {m : Nat} {w W W' : World} {vt vo : Value} {gc : Array Value} {g : Gram} {t : List Node} {i : Nat} (h : WalkAt w m vt gc g t W vo i) (hb : Below W.heap.size W W') : WalkAt w m vt gc g t W' vo i := by
  have hz := h.size
  have hle := h.le
  exact ⟨below_more h.below hb, h.le, Nat.le_trans h.size hb.size, h.hg.below hb (by omega), h.ht.below hb (by omega), h.ho.below hb (by omega), h.hw.below hb (by omega), Mine.below h.mine hb, fun q hq => ⟨(h.own q hq).1, Nat.lt_of_lt_of_le (h.own q hq).2 hb.size⟩⟩
theorem WalkAt.set {m : Nat} {w W : World} {vt vo : Value} {gc : Array Value} {g : Gram} {t : List Node} {i : Nat} (h : WalkAt w m vt gc g t W vo i) {B : Nat} (hB : m + 2 ≤ B) (hn : vo.ownBlock ≠ some B) (j : Nat) (u : Value) : WalkAt w m vt gc g t (W.setCell ⟨B, j, none⟩ u) vo i := by
  have hz := h.size
  have hle := h.le
  exact ⟨h.below.setCell (p := ⟨B, j, none⟩) (by dsimp only; omega) u, h.le, by simp; exact h.size, h.hg.far (p := ⟨B, j, none⟩) (by dsimp only; omega) u, h.ht.far (p := ⟨B, j, none⟩) (by dsimp only; omega) u, h.ho.far (p := ⟨B, j, none⟩) (by dsimp only; omega) u, h.hw.far (p := ⟨B, j, none⟩) (by dsimp only; omega) u, Mine.set (p := ⟨B, j, none⟩) h.mine hn u, fun q hq => by simp; exact h.own q hq⟩
/-- Not text: nothing is put out for the node itself. -/
theorem places_skip {g : Gram} {t : List Node} {i : Nat} (h : isText t i = false) : placesIn g t 0 (i + 1) = placesIn g t 0 i := by
  rw [placesIn_split (a := 0) (b := i) (c := i + 1) (by omega) (by omega), placesIn_one, if_neg (by rw [h]; decide), List.append_nil]
theorem WalkAt.skip {m : Nat} {w W : World} {vt vo : Value} {gc : Array Value} {g : Gram} {t : List Node} {i : Nat} (h : WalkAt w m vt gc g t W vo i) (ht : isText t i = false) : WalkAt w m vt gc g t W vo (i + 1) :=
  ⟨h.below, h.le, h.size, h.hg, h.ht, h.ho, h.hw, by rw [places_skip ht]; exact h.mine, h.own⟩
theorem places_leaf {g : Gram} {t : List Node} {i : Nat} (h : isText t i = true) : placesIn g t 0 (i + 1) = placesIn g t 0 i ++ [placeAt g t i] := by
  rw [placesIn_split (a := 0) (b := i) (c := i + 1) (by omega) (by omega), placesIn_one, if_pos h]
/-- Behind the append at a leaf: the box of the places lies as it lay. -/
theorem WalkAt.grown {m : Nat} {w W w' : World} {vt vo : Value} {gc : Array Value} {g : Gram} {t : List Node} {i : Nat} (h : WalkAt w m vt gc g t W vo i) (o1 o2 : Obj) (hK : Keeps (fun j => vo.ownBlock ≠ some j) ((W.alloc o1).alloc o2) w') : Holds w' (m) 61 #[vo] :=
  hK.holds (fun e => by have := h.own _ e; have := h.le; omega) ((h.ho.alloc o1).alloc o2)
/-- A place was put out. -/
theorem WalkAt.put {m : Nat} {w W w' : World} {vt vo v' : Value} {gc : Array Value} {g : Gram} {t : List Node} {i : Nat} (h : WalkAt w m vt gc g t W vo i) (ht : isText t i = true) (o1 o2 : Obj) (hK : Keeps (fun j => vo.ownBlock ≠ some j) ((W.alloc o1).alloc o2) w')
    (hb : Below (m + 2) ((W.alloc o1).alloc o2) w') (hM : FlatM plCells 3 82 w' (m + 2) v' (placesIn g t 0 i ++ [placeAt g t i])) (hO : v'.ownBlock = vo.ownBlock ∨ ∃ q, v'.ownBlock = some q ∧ ((W.alloc o1).alloc o2).heap.size ≤ q ∧ q < w'.heap.size) :
    WalkAt w m vt gc g t (w'.setCell ⟨m, 0, none⟩ v') v' (i + 1) ∧ Keeps (OutT m vo) W (w'.setCell ⟨m, 0, none⟩ v') ∧ (v'.ownBlock = vo.ownBlock ∨ ∃ q, v'.ownBlock = some q ∧ W.heap.size ≤ q) := by
  have hz := h.size
  have hle := h.le
  have hn : ∀ k, k < m + 2 → vo.ownBlock ≠ some k := fun k hk e => by have := h.own _ e; omega
  have hA : Below w.heap.size w ((W.alloc o1).alloc o2) := (h.below.alloc h.below.size o1).alloc (by simp; omega) o2
  have hs : ((W.alloc o1).alloc o2).heap.size = W.heap.size + 2 := by simp
  have hs' := hK.size
  have hbw : Below w.heap.size w w' := hA.trans (hb.mono (by omega))
  have hown : ∀ q, v'.ownBlock = some q → m + 2 ≤ q ∧ q < w'.heap.size := fun q hq => by
    rcases hO with e | ⟨z, e, h1, h2⟩
    · have := h.own q (by rw [← e]; exact hq)
      omega
    · rw [e] at hq
      cases hq
      omega
  refine ⟨⟨hbw.setCell (p := ⟨m, 0, none⟩) (by dsimp only; omega) _, h.le, by simp; omega, ?_, ?_, ?_, ?_, ?_, fun q hq => by simp; exact hown q hq⟩, ⟨?_, fun k hT hk => ?_⟩, ?_⟩
  · exact (hK.holds (hn _ (by omega)) ((h.hg.alloc o1).alloc o2)).far (p := ⟨m, 0, none⟩) (by dsimp only; omega) _
  · exact (hK.holds (hn _ (by omega)) ((h.ht.alloc o1).alloc o2)).far (p := ⟨m, 0, none⟩) (by dsimp only; omega) _
  · exact ((h.grown o1 o2 hK).set 0 v').of_eq rfl
  · exact (hK.holds (hn _ (by omega)) ((h.hw.alloc o1).alloc o2)).far (p := ⟨m, 0, none⟩) (by dsimp only; omega) _
  · rw [places_leaf ht]
    exact Mine.set (p := ⟨m, 0, none⟩) hM (fun e => by have := (hown _ e).1; dsimp only at this; omega) _
  · simp; omega
  · rw [Below.heap_setCell _ _ _ _ (by dsimp only; exact hT.1), hK.block k hT.2 (by omega), Below.heap_alloc _ _ _ (by simp; omega), Below.heap_alloc _ _ _ hk]
  · rcases hO with e | ⟨z, e, h1, h2⟩
    · exact .inl e
    · exact .inr ⟨z, e, by omega⟩
end Go.Proofs.Ytbjheaiiajpifaa.T
