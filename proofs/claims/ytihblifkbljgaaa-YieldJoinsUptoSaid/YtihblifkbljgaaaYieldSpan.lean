/-
  yield.Span.
-/
import Derived.Test.YtihblifkbljgaaaYieldFind
namespace Go.Proofs.Ytihblifkbljgaaa
open Go.RowKit Go.Shelf
attribute [local go_sem] Oper.semAt_some
attribute [local simp] wide_round_fn

/-- A word more: where the part is, so far. -/
noncomputable def stepP (t : List Node) (i z : Nat) (s : Nat × Nat × Bool) (k : Nat) : Nat × Nat × Bool :=
  if i + z ≤ nodeY t k then s else if nodeY t k < i then (fromY t (leavesOf t) (k + 1), fromY t (leavesOf t) (k + 1), s.2.2)
  else (if s.2.2 then s.1 else ownY t k, fromY t (leavesOf t) (k + 1), true)
noncomputable def spanP (t : List Node) (i z : Nat) (l : List Nat) : Nat × Nat × Bool := l.foldl (stepP t i z) (0, 0, false)
theorem spanP_snoc (t : List Node) (i z : Nat) (l : List Nat) (k : Nat) : spanP t i z (l ++ [k]) = stepP t i z (spanP t i z l) k := by unfold spanP; rw [List.foldl_append]; rfl
theorem nodeY_of {t : List Node} {k i : Nat} (h : (leavesOf t)[k]? = some i) : nodeY t k = i := by unfold nodeY; rw [h]; rfl
theorem texts_rise (t : List Node) (n : Nat) : (texts t n).Pairwise (· < ·) := List.Pairwise.sublist List.filter_sublist List.pairwise_lt_range
theorem leavesOf_rise (t : List Node) : (leavesOf t).Pairwise (· < ·) := by
  unfold leavesOf leavesTo
  split
  · exact texts_rise t _
  · exact List.Pairwise.nil
theorem nodeY_mono {t : List Node} {j k : Nat} (h : j < k) (hk : k < (leavesOf t).length) : nodeY t j < nodeY t k := by
  have hj : j < (leavesOf t).length := by omega
  rw [nodeY_of (List.getElem?_eq_getElem hj), nodeY_of (List.getElem?_eq_getElem hk)]
  exact List.pairwise_iff_getElem.1 (leavesOf_rise t) j k hj hk h
theorem spanP_idle {t : List Node} {i z : Nat} : ∀ (l : List Nat) (s : Nat × Nat × Bool), (∀ k ∈ l, i + z ≤ nodeY t k) → l.foldl (stepP t i z) s = s := by
  intro l
  induction l with
  | nil => intro s _; rfl
  | cons x l ih =>
    intro s h
    rw [List.foldl_cons]
    have : stepP t i z s x = s := by unfold stepP; rw [if_pos (h x (by simp))]
    rw [this]
    exact ih s (fun k hk => h k (by simp [hk]))
/-- Where the walk may stop, it has all. -/
theorem spanP_stop {t : List Node} {i z : Nat} {pre : List Nat} {x : Nat} (h : (pre ++ [x]) <+: List.range (leavesOf t).length) (hx : i + z ≤ nodeY t x) : spanP t i z (List.range (leavesOf t).length) = spanP t i z pre := by
  obtain ⟨r, hr⟩ := h
  have hpos : pre.length < (leavesOf t).length := by
    have := congrArg List.length hr
    simp at this; omega
  have hat : ∀ j y, (pre ++ [x] ++ r)[j]? = some y → y = j ∧ j < (leavesOf t).length := fun j y hj => by
    rw [hr] at hj
    obtain ⟨h1, h2⟩ := List.getElem?_eq_some_iff.1 hj
    simp at h1 h2
    exact ⟨h2.symm, h1⟩
  have hxx := (hat pre.length x (by simp)).1
  rw [← hr]
  unfold spanP
  rw [List.append_assoc, List.foldl_append]
  refine spanP_idle _ _ (fun k hk => ?_)
  rw [List.singleton_append, List.mem_cons] at hk
  rcases hk with rfl | hk
  · exact hx
  · obtain ⟨j, hj⟩ := List.getElem?_of_mem hk
    have := hat (pre.length + 1 + j) k (by
      rw [List.getElem?_append_right (by simp)]
      simpa using hj)
    have hm := nodeY_mono (t := t) (j := x) (k := k) (by omega) (by omega)
    omega

noncomputable def spanOf (t : List Node) (i : Int) : Nat × Nat × Bool := if placeB t i then ((spanP t i.toNat (sz t i.toNat) (List.range (leavesOf t).length)).1, (spanP t i.toNat (sz t i.toNat) (List.range (leavesOf t).length)).2.1, true) else (0, 0, false)

structure SpC (w : World) (v : Value) (I B6 : Nat) (W : World) : Prop where
  b0 : Holds W w.heap.size 22 #[v]
  b1 : Holds W (w.heap.size + 1) 3 #[.int .i64 I]
  b2 : Holds W (w.heap.size + 1 + 1) 37 #[.int .i64 0, .int .i64 0]
  b3 : Holds W (w.heap.size + 1 + 1 + 1) 4 #[.bool false]
  below : Below w.heap.size w W
  lt : w.heap.size + 1 + 1 + 1 < B6
  lt2 : B6 + 1 + 1 < W.heap.size
theorem SpC.calm {w W W' : World} {v : Value} {I B6 B : Nat} (h : SpC w v I B6 W) (hB : w.heap.size ≤ B) (hc : Calm B W W') : SpC w v I B6 W' :=
  ⟨hc.holds h.b0, hc.holds h.b1, hc.holds h.b2, hc.holds h.b3, h.below.trans (hc.below hB h.below.size), h.lt, Nat.lt_of_lt_of_le h.lt2 hc.size⟩
theorem SpC.later {w W W' : World} {v : Value} {I B6 : Nat} (h : SpC w v I B6 W) (hb : Below W.heap.size W W') : SpC w v I B6 W' :=
  ⟨h.b0.below hb h.b0.lt, h.b1.below hb h.b1.lt, h.b2.below hb h.b2.lt, h.b3.below hb h.b3.lt, h.below.trans (hb.mono h.below.size), h.lt, Nat.lt_of_lt_of_le h.lt2 hb.size⟩
theorem SpC.set {w W : World} {v : Value} {I B6 b i : Nat} (h : SpC w v I B6 W) (hp : w.heap.size + 1 + 1 + 1 < b) (u : Value) : SpC w v I B6 (W.setCell ⟨b, i, none⟩ u) :=
  ⟨h.b0.far (p := ⟨b, i, none⟩) (by dsimp only; omega) u, h.b1.far (p := ⟨b, i, none⟩) (by dsimp only; omega) u, h.b2.far (p := ⟨b, i, none⟩) (by dsimp only; omega) u, h.b3.far (p := ⟨b, i, none⟩) (by dsimp only; omega) u, h.below.setCell (p := ⟨b, i, none⟩) (by dsimp only; omega) u, h.lt, by simpa [World.setCell] using h.lt2⟩
def SpD {w1 : World} {T : Nat → Prop} {t : List Node} (I B6 : Nat) (pre : List (Wd w1 T t)) (W : World) : Prop :=
  Holds W B6 37 #[.int .i64 ((spanP t I (sz t I) (pre.map (·.1.1))).1 : Nat), .int .i64 ((spanP t I (sz t I) (pre.map (·.1.1))).2.1 : Nat)] ∧
  Holds W (B6 + 1) 4 #[.bool (spanP t I (sz t I) (pre.map (·.1.1))).2.2]
def SpI (w : World) (v : Value) {w1 : World} {T : Nat → Prop} {t : List Node} (I B6 : Nat) (pre : List (Wd w1 T t)) (W : World) : Prop := SpC w v I B6 W ∧ SpD I B6 pre W
def SpX (w : World) {w1 : World} {T : Nat → Prop} {t : List Node} (I : Nat) (c : Code) (pre : List (Wd w1 T t)) (W : World) : Prop :=
  c = .ret ∧ ∃ pre' x, pre = pre' ++ [x] ∧ I + sz t I ≤ nodeY t x.1.1 ∧
    Holds W (w.heap.size + 1 + 1) 37 #[.int .i64 ((spanP t I (sz t I) (pre'.map (·.1.1))).1 : Nat), .int .i64 ((spanP t I (sz t I) (pre'.map (·.1.1))).2.1 : Nat)] ∧
    Holds W (w.heap.size + 1 + 1 + 1) 4 #[.bool true] ∧ Below w.heap.size w W

theorem span_no {t : List Node} {i : Int} (h : placeB t i = false) : spanOf t i = (0, 0, false) := by unfold spanOf; rw [h]; rfl

set_option maxRecDepth 20000 in
set_option maxHeartbeats 4000000 in
theorem yield_span_no (v : Value) (t : List Node) (i : Int) (w : World) (h4 : bulkT t ≤ 1000000000) (hN : Nds w (Old w) v t) (hp : placeB t i = false) :
    Calls Try.prog 22 #[v, .int .i64 i] w fun r w' => r = .returned (.tuple #[.agg #[.int .i64 0, .int .i64 0], .bool false]) ∧ Below w.heap.size w w' := by
  have h5 := bulk_len t
  have HR := hidden (fun (w' : World) (hb : Below w.heap.size w w') => arena_right v t w' (by omega) (hN.old hb))
  obtain ⟨A, c, rfl, hc1, hc2⟩ := hN.value
  unfold maxLen at hc2
  have HC : i < 0 ∨ (0 ≤ i ∧ (t.length : Int) ≤ i) ∨ (0 ≤ i ∧ i < (t.length : Int) ∧ treeB t = false) := by
    by_cases a : i < 0
    · exact .inl a
    · by_cases b : (t.length : Int) ≤ i
      · exact .inr (.inl ⟨by omega, b⟩)
      · refine .inr (.inr ⟨by omega, by omega, ?_⟩)
        cases ht : treeB t with
        | false => rfl
        | true => rw [placeB_iff.2 ⟨by omega, by omega, treeB_iff.1 ht⟩] at hp; cases hp
  clear hp hN
  rcases HC with a | ⟨a, b⟩ | ⟨a, b, ht⟩
  · (refine (callsIn_wide (n := 5)).1 ?_; refine callsIn_of_wp_marks Try.func22 rfl trivial ?_ rfl; simp only [Try.ntmps22, List.size_toArray, List.length_cons, List.length_nil, Nat.reduceAdd, Nat.reduceSub, Array.replicate_succ, Array.replicate_zero, List.push_toArray, List.append_toArray, List.nil_append, List.cons_append])
    gi_wp2
    refine ⟨trivial, ?_⟩
    gi_wp2
    refine leaves_marks (B := w.heap.size) [] _ ⟨by simp, by simp⟩ ?_
    intro W' hc
    have e2 : W'.cell? ⟨w.heap.size + 1 + 1, 0, none⟩ = _ := (hc.holds (g := w.heap.size + 1 + 1) (t := 37) (cs := #[.int .i64 0, .int .i64 0]) (by (apply Holds.of_eq; focus (repeat (first | (with_reducible assumption) | ((with_reducible apply holds_new); (focus (first | rfl | (simp; done)))) | (with_reducible apply holds_set) | ((with_reducible apply holds_far); (focus (first | omega | (simp; done) | (simp; omega)))) | (with_reducible apply Holds.alloc) | (with_reducible apply Holds.drew)))); rfl)).cell 0
    have e3 : W'.cell? ⟨w.heap.size + 1 + 1, 1, none⟩ = _ := (hc.holds (g := w.heap.size + 1 + 1) (t := 37) (cs := #[.int .i64 0, .int .i64 0]) (by (apply Holds.of_eq; focus (repeat (first | (with_reducible assumption) | ((with_reducible apply holds_new); (focus (first | rfl | (simp; done)))) | (with_reducible apply holds_set) | ((with_reducible apply holds_far); (focus (first | omega | (simp; done) | (simp; omega)))) | (with_reducible apply Holds.alloc) | (with_reducible apply Holds.drew)))); rfl)).cell 1
    have e4 : W'.cell? ⟨w.heap.size + 1 + 1 + 1, 0, none⟩ = _ := (hc.holds (g := w.heap.size + 1 + 1 + 1) (t := 4) (cs := #[.bool false]) (by (apply Holds.of_eq; focus (repeat (first | (with_reducible assumption) | ((with_reducible apply holds_new); (focus (first | rfl | (simp; done)))) | (with_reducible apply holds_set) | ((with_reducible apply holds_far); (focus (first | omega | (simp; done) | (simp; omega)))) | (with_reducible apply Holds.alloc) | (with_reducible apply Holds.drew)))); rfl)).cell 0
    refine ⟨.tuple #[.agg #[.int .i64 0, .int .i64 0], .bool false], ?_, rfl, ?_⟩
    · simp [results, Try.f22, go_sem, e2, e3, e4]
    · refine Below.trans ?_ (hc.below (Nat.le_refl _) (by simp; try omega))
      exact (by repeat (first | (with_reducible exact Below.refl _ _) | (with_reducible assumption) | (with_reducible refine Below.drew ?_) | ((with_reducible refine below_alloc ?_ ?_); (focus (first | omega | (simp; done) | (simp; omega)))) | ((with_reducible refine below_set ?_ ?_); (focus (first | omega | (simp; done) | (simp; omega))))))
  · have b' : decide (i < (t.length : Int)) = false := decide_eq_false (by omega)
    (refine (callsIn_wide (n := 5)).1 ?_; refine callsIn_of_wp_marks Try.func22 rfl trivial ?_ rfl; simp only [Try.ntmps22, List.size_toArray, List.length_cons, List.length_nil, Nat.reduceAdd, Nat.reduceSub, Array.replicate_succ, Array.replicate_zero, List.push_toArray, List.append_toArray, List.nil_append, List.cons_append])
    gi_wp2
    refine ⟨trivial, ?_⟩
    gi_wp2
    refine leaves_marks (B := w.heap.size) [] _ ⟨by simp, by simp⟩ ?_
    intro W' hc
    have e2 : W'.cell? ⟨w.heap.size + 1 + 1, 0, none⟩ = _ := (hc.holds (g := w.heap.size + 1 + 1) (t := 37) (cs := #[.int .i64 0, .int .i64 0]) (by (apply Holds.of_eq; focus (repeat (first | (with_reducible assumption) | ((with_reducible apply holds_new); (focus (first | rfl | (simp; done)))) | (with_reducible apply holds_set) | ((with_reducible apply holds_far); (focus (first | omega | (simp; done) | (simp; omega)))) | (with_reducible apply Holds.alloc) | (with_reducible apply Holds.drew)))); rfl)).cell 0
    have e3 : W'.cell? ⟨w.heap.size + 1 + 1, 1, none⟩ = _ := (hc.holds (g := w.heap.size + 1 + 1) (t := 37) (cs := #[.int .i64 0, .int .i64 0]) (by (apply Holds.of_eq; focus (repeat (first | (with_reducible assumption) | ((with_reducible apply holds_new); (focus (first | rfl | (simp; done)))) | (with_reducible apply holds_set) | ((with_reducible apply holds_far); (focus (first | omega | (simp; done) | (simp; omega)))) | (with_reducible apply Holds.alloc) | (with_reducible apply Holds.drew)))); rfl)).cell 1
    have e4 : W'.cell? ⟨w.heap.size + 1 + 1 + 1, 0, none⟩ = _ := (hc.holds (g := w.heap.size + 1 + 1 + 1) (t := 4) (cs := #[.bool false]) (by (apply Holds.of_eq; focus (repeat (first | (with_reducible assumption) | ((with_reducible apply holds_new); (focus (first | rfl | (simp; done)))) | (with_reducible apply holds_set) | ((with_reducible apply holds_far); (focus (first | omega | (simp; done) | (simp; omega)))) | (with_reducible apply Holds.alloc) | (with_reducible apply Holds.drew)))); rfl)).cell 0
    refine ⟨.tuple #[.agg #[.int .i64 0, .int .i64 0], .bool false], ?_, rfl, ?_⟩
    · simp [results, Try.f22, go_sem, e2, e3, e4]
    · refine Below.trans ?_ (hc.below (Nat.le_refl _) (by simp; try omega))
      exact (by repeat (first | (with_reducible exact Below.refl _ _) | (with_reducible assumption) | (with_reducible refine Below.drew ?_) | ((with_reducible refine below_alloc ?_ ?_); (focus (first | omega | (simp; done) | (simp; omega)))) | ((with_reducible refine below_set ?_ ?_); (focus (first | omega | (simp; done) | (simp; omega))))))
  · rw [ht] at HR
    clear ht
    (refine (callsIn_wide (n := 5)).1 ?_; refine callsIn_of_wp_marks Try.func22 rfl trivial ?_ rfl; simp only [Try.ntmps22, List.size_toArray, List.length_cons, List.length_nil, Nat.reduceAdd, Nat.reduceSub, Array.replicate_succ, Array.replicate_zero, List.push_toArray, List.append_toArray, List.nil_append, List.cons_append])
    gi_wp2_with fail
    refine ⟨trivial, (callsIn_wide.2 (HR.out _ (by repeat (first | (with_reducible exact Below.refl _ _) | (with_reducible assumption) | (with_reducible refine Below.drew ?_) | ((with_reducible refine below_alloc ?_ ?_); (focus (first | omega | (simp; done) | (simp; omega)))) | ((with_reducible refine below_set ?_ ?_); (focus (first | omega | (simp; done) | (simp; omega)))))))).mono ?_⟩
    rintro e w2 ⟨rfl, hb2⟩
    have hz2 := hb2.size
    have g2 := Holds.below (g := w.heap.size + 1 + 1) (t := 37) (cs := #[.int .i64 0, .int .i64 0]) (by repeat (first | (with_reducible assumption) | ((with_reducible refine holds_new ?_); (focus (first | rfl | (simp; done)))) | (with_reducible refine Holds.alloc ?_ _) | (with_reducible refine Holds.drew ?_))) hb2 (by simp)
    have g3 := Holds.below (g := w.heap.size + 1 + 1 + 1) (t := 4) (cs := #[.bool false]) (by repeat (first | (with_reducible assumption) | ((with_reducible refine holds_new ?_); (focus (first | rfl | (simp; done)))) | (with_reducible refine Holds.alloc ?_ _) | (with_reducible refine Holds.drew ?_))) hb2 (by simp)
    have hb := Below.trans (B := w.heap.size) (a := w) (by repeat (first | (with_reducible exact Below.refl _ _) | (with_reducible assumption) | (with_reducible refine Below.drew ?_) | ((with_reducible refine below_alloc ?_ ?_); (focus (first | omega | (simp; done) | (simp; omega)))) | ((with_reducible refine below_set ?_ ?_); (focus (first | omega | (simp; done) | (simp; omega)))))) (hb2.mono (by simp; omega))
    have f2 := g2.frozen 0; have f3 := g3.frozen 0; have f4 := g2.frozen 1; have l2 := g2.lt; have l3 := g3.lt
    have k2 : w2.cell? ⟨w.heap.size + 1 + 1, 0, none⟩ = _ := g2.cell 0
    have k3 : w2.cell? ⟨w.heap.size + 1 + 1, 1, none⟩ = _ := g2.cell 1
    have k4 : w2.cell? ⟨w.heap.size + 1 + 1 + 1, 0, none⟩ = _ := g3.cell 0
    have hbz := hb.size
    clear hb2 HR hz2
    gi_wp2
    refine leaves_marks (B := w.heap.size) [] _ ⟨by simp, by simp⟩ ?_
    intro W' hc
    have e2 : W'.cell? ⟨w.heap.size + 1 + 1, 0, none⟩ = _ := (hc.holds (g := w.heap.size + 1 + 1) (t := 37) (cs := #[.int .i64 0, .int .i64 0]) (by (apply Holds.of_eq; focus (repeat (first | (with_reducible assumption) | ((with_reducible apply holds_new); (focus (first | rfl | (simp; done)))) | (with_reducible apply holds_set) | ((with_reducible apply holds_far); (focus (first | omega | (simp; done) | (simp; omega)))) | (with_reducible apply Holds.alloc) | (with_reducible apply Holds.drew)))); rfl)).cell 0
    have e3 : W'.cell? ⟨w.heap.size + 1 + 1, 1, none⟩ = _ := (hc.holds (g := w.heap.size + 1 + 1) (t := 37) (cs := #[.int .i64 0, .int .i64 0]) (by (apply Holds.of_eq; focus (repeat (first | (with_reducible assumption) | ((with_reducible apply holds_new); (focus (first | rfl | (simp; done)))) | (with_reducible apply holds_set) | ((with_reducible apply holds_far); (focus (first | omega | (simp; done) | (simp; omega)))) | (with_reducible apply Holds.alloc) | (with_reducible apply Holds.drew)))); rfl)).cell 1
    have e4 : W'.cell? ⟨w.heap.size + 1 + 1 + 1, 0, none⟩ = _ := (hc.holds (g := w.heap.size + 1 + 1 + 1) (t := 4) (cs := #[.bool false]) (by (apply Holds.of_eq; focus (repeat (first | (with_reducible assumption) | ((with_reducible apply holds_new); (focus (first | rfl | (simp; done)))) | (with_reducible apply holds_set) | ((with_reducible apply holds_far); (focus (first | omega | (simp; done) | (simp; omega)))) | (with_reducible apply Holds.alloc) | (with_reducible apply Holds.drew)))); rfl)).cell 0
    refine ⟨.tuple #[.agg #[.int .i64 0, .int .i64 0], .bool false], ?_, rfl, ?_⟩
    · simp [results, Try.f22, go_sem, e2, e3, e4]
    · refine Below.trans ?_ (hc.below (Nat.le_refl _) (by simp; try omega))
      exact (by repeat (first | (with_reducible exact Below.refl _ _) | (with_reducible assumption) | (with_reducible refine Below.drew ?_) | ((with_reducible refine below_alloc ?_ ?_); (focus (first | omega | (simp; done) | (simp; omega)))) | ((with_reducible refine below_set ?_ ?_); (focus (first | omega | (simp; done) | (simp; omega))))))

theorem treeB_of_place {t : List Node} {i : Int} (h : placeB t i = true) : treeB t = true := treeB_iff.2 (placeB_iff.1 h).2.2

set_option maxRecDepth 20000 in
set_option maxHeartbeats 8000000 in
theorem yield_span_yes (v : Value) (t : List Node) (I : Nat) (w : World) (h4 : bulkT t ≤ 1000000000) (hN : Nds w (Old w) v t) (hp : placeB t I = true) :
    Calls Try.prog 22 #[v, .int .i64 I] w fun r w' => r = .returned (.tuple #[.agg #[.int .i64 (spanOf t I).1, .int .i64 (spanOf t I).2.1], .bool true]) ∧ Below w.heap.size w w' := by
  have h5 := bulk_len t
  have HR := hidden (fun (w' : World) (hb : Below w.heap.size w w') => arena_right v t w' (by omega) (hN.old hb))
  rw [treeB_of_place hp] at HR
  have HS : Hid (spanOf t I = ((spanP t I (sz t I) (List.range (leavesOf t).length)).1, (spanP t I (sz t I) (List.range (leavesOf t).length)).2.1, true)) := hidden (by unfold spanOf; rw [hp]; rfl)
  generalize spanOf t I = so at *
  have HN := hidden hN
  obtain ⟨p1, p2, p3⟩ := placeB_iff.1 hp
  have HT := hidden p3
  have hI : I < t.length := by omega
  obtain ⟨b, off, c, rfl, hc1, hc2, hTb, _⟩ := hN.open_ (by intro e; subst e; simp at hI)
  unfold maxLen at hc2
  clear hN p1 p2 p3 hp
  have q1 : decide ((I : Int) < 0) = false := decide_eq_false (by omega)
  have q2 : decide (t.length ≤ I) = false := decide_eq_false (by omega)
  (refine (callsIn_wide (n := 5)).1 ?_; refine callsIn_of_wp_marks Try.func22 rfl trivial ?_ rfl; simp only [Try.ntmps22, List.size_toArray, List.length_cons, List.length_nil, Nat.reduceAdd, Nat.reduceSub, Array.replicate_succ, Array.replicate_zero, List.push_toArray, List.append_toArray, List.nil_append, List.cons_append])
  gi_wp2_with fail
  refine ⟨trivial, (callsIn_wide.2 (HR.out _ (by repeat (first | (with_reducible exact Below.refl _ _) | (with_reducible assumption) | (with_reducible refine Below.drew ?_) | ((with_reducible refine below_alloc ?_ ?_); (focus (first | omega | (simp; done) | (simp; omega)))) | ((with_reducible refine below_set ?_ ?_); (focus (first | omega | (simp; done) | (simp; omega)))))))).mono ?_⟩
  rintro e w2 ⟨rfl, hb2⟩
  have hz2 := hb2.size
  have g0 := Holds.below (g := w.heap.size) (t := 22) (cs := #[.slice (some ⟨b, off, none⟩) t.length c]) (by repeat (first | (with_reducible assumption) | ((with_reducible refine holds_new ?_); (focus (first | rfl | (simp; done)))) | (with_reducible refine Holds.alloc ?_ _) | (with_reducible refine Holds.drew ?_))) hb2 (by simp; omega)
  have g1 := Holds.below (g := w.heap.size + 1) (t := 3) (cs := #[.int .i64 (I : Int)]) (by repeat (first | (with_reducible assumption) | ((with_reducible refine holds_new ?_); (focus (first | rfl | (simp; done)))) | (with_reducible refine Holds.alloc ?_ _) | (with_reducible refine Holds.drew ?_))) hb2 (by simp)
  have g2 := Holds.below (g := w.heap.size + 1 + 1) (t := 37) (cs := #[.int .i64 0, .int .i64 0]) (by repeat (first | (with_reducible assumption) | ((with_reducible refine holds_new ?_); (focus (first | rfl | (simp; done)))) | (with_reducible refine Holds.alloc ?_ _) | (with_reducible refine Holds.drew ?_))) hb2 (by simp)
  have g3 := Holds.below (g := w.heap.size + 1 + 1 + 1) (t := 4) (cs := #[.bool false]) (by repeat (first | (with_reducible assumption) | ((with_reducible refine holds_new ?_); (focus (first | rfl | (simp; done)))) | (with_reducible refine Holds.alloc ?_ _) | (with_reducible refine Holds.drew ?_))) hb2 (by simp)
  have hb := Below.trans (B := w.heap.size) (a := w) (by repeat (first | (with_reducible exact Below.refl _ _) | (with_reducible assumption) | (with_reducible refine Below.drew ?_) | ((with_reducible refine below_alloc ?_ ?_); (focus (first | omega | (simp; done) | (simp; omega)))) | ((with_reducible refine below_set ?_ ?_); (focus (first | omega | (simp; done) | (simp; omega)))))) (hb2.mono (by simp; omega))
  have k0 := g0.c0; have l3 := g3.lt; have l0 := g0.lt
  have hbz := hb.size
  clear hb2 HR hz2
  gi_wp2_with (refine ⟨trivial, ?_⟩; gi_at_call 62; refine (callsIn_wide.2 (yield_words _ _ _ _ rfl _)).mono ?_; rintro e w' ⟨rfl, rfl⟩)
  have HB6 : Hid (∃ B6, B6 = w2.heap.size) := hidden ⟨_, rfl⟩
  have hN2 := (HN.out.below hb old_lt)
  have hz2 : w.heap.size + 1 + 1 + 1 < w2.heap.size := l3
  refine range_lawK (by omega) rfl (enters_of Try.func77 (by kernel_rfl) rfl)
    (ywords1_stops 4 (by omega) (w2.heap.size + 1 + 1) _ (fun k => k < w.heap.size ∨ k = w2.heap.size + 1 + 1) (by intro k hk; simp; omega) t (.slice (some ⟨b, off, none⟩) t.length c) h4 (((hN2.alloc _).alloc _).alloc _ |>.mono (fun k hk => .inl hk)) (.inr rfl) (by go_simp))
    KeepsT.trans (fun W l o o' hl ho hc _ => KeepsT.loop (by intro k hk; simp at hl; omega) ho hc) (Below.refl _ _) (fun _ => rfl)
    (SpI w (.slice (some ⟨b, off, none⟩) t.length c) I w2.heap.size) (SpX w I) ?i0 ?ix ?start ?round ?done ?stop
  case i0 =>
    rintro pre W W' ⟨h0, h1, h2⟩ hc
    exact ⟨h0.calm (by simp; omega) hc, hc.holds h1, hc.holds h2⟩
  case ix =>
    rintro c pre W W' ⟨h, pre', x, h0, h1, h2, h3, hb⟩ hc
    exact ⟨h, pre', x, h0, h1, hc.holds h2, hc.holds h3, hb.trans (hc.below (by simp; omega) hb.size)⟩
  case start => exact ⟨⟨(((g0.alloc _).alloc _).alloc _), (((g1.alloc _).alloc _).alloc _), (((g2.alloc _).alloc _).alloc _), (((g3.alloc _).alloc _).alloc _), ((hb.alloc hbz _).alloc (by simp; omega) _).alloc (by simp; omega) _, l3, by simp⟩, Holds.of_eq (cs := #[.int .i64 0, .int .i64 0]) (by repeat (first | (with_reducible assumption) | ((with_reducible refine holds_new ?_); (focus (first | rfl | (simp; done)))) | (with_reducible refine Holds.alloc ?_ _) | (with_reducible refine Holds.drew ?_))) rfl, Holds.of_eq (cs := #[.bool false]) (by repeat (first | (with_reducible assumption) | ((with_reducible refine holds_new ?_); (focus (first | rfl | (simp; done)))) | (with_reducible refine Holds.alloc ?_ _) | (with_reducible refine Holds.drew ?_))) rfl⟩
  case round =>
    rintro l pre x W ⟨h0, h1, h2⟩
    obtain ⟨f1, f2, f3, f4, f5⟩ := wd_facts x
    have hz := h0.lt2
    have hbW := h0.below.size
    dsimp only [encY, valY]
    gi_wp2
    refine ⟨KeepsOthers.alloc _ _, KeepsT.below (B := W.heap.size) (by omega) (Nat.le_refl _) (by repeat (first | (with_reducible exact Below.refl _ _) | (with_reducible assumption) | (with_reducible refine Below.drew ?_) | ((with_reducible refine below_alloc ?_ ?_); (focus (first | omega | (simp; done) | (simp; omega)))) | ((with_reducible refine below_set ?_ ?_); (focus (first | omega | (simp; done) | (simp; omega)))))), ⟨h0.later (by repeat (first | (with_reducible exact Below.refl _ _) | (with_reducible assumption) | (with_reducible refine Below.drew ?_) | ((with_reducible refine below_alloc ?_ ?_); (focus (first | omega | (simp; done) | (simp; omega)))) | ((with_reducible refine below_set ?_ ?_); (focus (first | omega | (simp; done) | (simp; omega)))))), h1.alloc _, h2.alloc _⟩, ?_⟩
    rintro W2 l2 pre2 hc2 ⟨m0, m6, m7⟩ hlen2 hl2 hr2
    have m5 := hc2.holds (Holds.new W _ _)
    have hzB := hc2.size
    simp at hzB
    clear h0 h1 h2 hc2 g0 g1 g2 g3 k0 hN2
    have HSn := hidden (spanP_snoc t I (sz t I) (pre2.map (·.1.1)) x.1.1)
    have HFin : Hid (∀ w', KeepsOthers W2 w' → KeepsT (fun k => k < w.heap.size ∨ k = w2.heap.size + 1 + 1) 3 W2 w' → SpC w (.slice (some ⟨b, off, none⟩) t.length c) I w2.heap.size w' →
        Holds w' w2.heap.size 37 #[.int .i64 ((stepP t I (sz t I) (spanP t I (sz t I) (pre2.map (·.1.1))) x.1.1).1 : Nat), .int .i64 ((stepP t I (sz t I) (spanP t I (sz t I) (pre2.map (·.1.1))) x.1.1).2.1 : Nat)] →
        Holds w' (w2.heap.size + 1) 4 #[.bool (stepP t I (sz t I) (spanP t I (sz t I) (pre2.map (·.1.1))) x.1.1).2.2] →
        roundEndK (KeepsT (fun k => k < w.heap.size ∨ k = w2.heap.size + 1 + 1) 3) (SpI w (.slice (some ⟨b, off, none⟩) t.length c) I w2.heap.size) (SpX w I) (pre2 ++ [x]) W2 .normal { tmps := #[], defers := [] } w') := hidden (fun w' a1 a2 a3 a4 a5 => by
      refine ⟨a1, a2, a3, ?_⟩
      unfold SpD
      rw [List.map_append, List.map_cons, List.map_nil, HSn.out]
      exact ⟨a4, a5⟩)
    have HRet : Hid (∀ w', KeepsOthers W2 w' → I + sz t I ≤ nodeY t x.1.1 → Holds w' (w.heap.size + 1 + 1) 37 #[.int .i64 ((spanP t I (sz t I) (pre2.map (·.1.1))).1 : Nat), .int .i64 ((spanP t I (sz t I) (pre2.map (·.1.1))).2.1 : Nat)] → Holds w' (w.heap.size + 1 + 1 + 1) 4 #[.bool true] → Below w.heap.size w w' →
        roundEndK (KeepsT (fun k => k < w.heap.size ∨ k = w2.heap.size + 1 + 1) 3) (SpI w (.slice (some ⟨b, off, none⟩) t.length c) I w2.heap.size) (SpX w I) (pre2 ++ [x]) W2 .ret { tmps := #[], defers := [] } w') := hidden (fun w' a1 a2 a3 a4 a5 => ⟨a1, rfl, pre2, x, rfl, a2, a3, a4, a5⟩)
    have HSt : Hid (stepP t I (sz t I) (spanP t I (sz t I) (pre2.map (·.1.1))) x.1.1 = if I + sz t I ≤ nodeY t x.1.1 then spanP t I (sz t I) (pre2.map (·.1.1)) else if nodeY t x.1.1 < I then (fromY t (leavesOf t) (x.1.1 + 1), fromY t (leavesOf t) (x.1.1 + 1), (spanP t I (sz t I) (pre2.map (·.1.1))).2.2) else (if (spanP t I (sz t I) (pre2.map (·.1.1))).2.2 then (spanP t I (sz t I) (pre2.map (·.1.1))).1 else ownY t x.1.1, fromY t (leavesOf t) (x.1.1 + 1), true)) := hidden rfl
    unfold SpD at *
    generalize stepP t I (sz t I) (spanP t I (sz t I) (pre2.map (·.1.1))) x.1.1 = s2 at *
    generalize spanP t I (sz t I) (pre2.map (·.1.1)) = s1 at *
    obtain ⟨sa, sb, sm⟩ := s1
    have HXI : Hid (∃ y, y = x) := hidden ⟨x, rfl⟩
    generalize hnd : nodeY t x.1.1 = nd at *
    generalize fromY t (leavesOf t) x.1.1 = f0 at *
    generalize fromY t (leavesOf t) (x.1.1 + 1) = fe at *
    generalize ownY t x.1.1 = ow at *
    generalize (leafAt t nd).text = tx at *
    generalize (leafAt t nd).lead.length = ln at *
    generalize (leafAt t nd).n = tk at *
    have HW := hidden (word_end (nd : Int) f0 ow x.1.2.1 ln x.1.2.2 tk tx)
    generalize x.1.2.1 = xA at *
    generalize x.1.2.2 = xc at *
    dsimp only at m6 m7
    --BODY
    have hN3 := (HN.out.below m0.below old_lt).size_cell HT.out hI
    obtain ⟨z1, z2, z3⟩ := tree_node HT.out hI
    have e1 : 0 ≤ (ow : Int) ∧ (ow : Int) ≤ 1000000000000 := by omega
    have e2 : tx.size ≤ 1000000000000 := by omega
    have HC := hidden (HW.out)
    generalize sz t I = z at *
    have HND := hidden hnd
    clear hnd hlen2 hl2 hr2 z3
    have HQ : Hid (KeepsOthers W2 W2 ∧ KeepsT (fun k => k < w.heap.size ∨ k = w2.heap.size + 1 + 1) 3 W2 W2) := hidden ⟨KeepsOthers.refl _, KeepsT.refl _⟩
    have HT2 : Hid (∀ k, (k < w.heap.size ∨ k = w2.heap.size + 1 + 1) → k < W2.heap.size) := hidden (by have := m0.lt2; have := m0.below.size; intro k hk; omega)
    have HE := hidden m0; have H5 := hidden m5; have H6 := hidden m6; have H7 := hidden m7
    have ya := Ext.cell m0.b0.c0; have yb := Ext.cell m0.b1.c0; have yc := Ext.cell hN3
    have yd : ∀ x : Ext W2, x.w.cell? ⟨W.heap.size, 0, none⟩ = some (.int .i64 nd) := Ext.cell (m5.cell 0)
    clear hN3 m0 m5 m6 m7
    by_cases q5 : I + z ≤ nd
    · have q6 : decide (I + z ≤ nd) = true := decide_eq_true q5
      have q7 : decide ((I : Int) + z ≤ nd) = true := decide_eq_true (by omega)
      gi_wp2
      refine wpIn_region_ext (by kernel_rfl) (by kernel_rfl) rfl ?_
      repeat (gi_big_quiet_step (fail))
      refine wpQuietIn_nil ?_
      intro w3 hb3
      clear ya yb yc yd
      have m0 := HE.out.later hb3
      have m5 := H5.out.below hb3 H5.out.lt; have m6 := H6.out.below hb3 H6.out.lt; have m7 := H7.out.below hb3 H7.out.lt
      have HK := hidden (KeepsOthers.of_below hb3)
      have HKT : Hid (KeepsT (fun k => k < w.heap.size ∨ k = w2.heap.size + 1 + 1) 3 W2 w3) := hidden (KeepsT.below HT2.out (Nat.le_refl _) hb3)
      have hz3 := hb3.size
      have ll := m0.lt; have ll2 := m0.lt2; have ll3 := m0.below.size
      clear HE H5 H6 H7 HQ hb3
      have c1 : w3.cell? ⟨w.heap.size + 1, 0, none⟩ = some (.int .i64 I) := m0.b1.cell 0
      have c2 : w3.cell? ⟨w.heap.size, 0, none⟩ = some (.slice (some ⟨b, off, none⟩) t.length c) := m0.b0.cell 0
      have c3 : w3.cell? ⟨w2.heap.size, 0, none⟩ = some (.int .i64 sa) := m6.cell 0
      have c4 : w3.cell? ⟨w2.heap.size, 1, none⟩ = some (.int .i64 sb) := m6.cell 1
      have c5 : w3.cell? ⟨w2.heap.size + 1, 0, none⟩ = some (.bool sm) := m7.cell 0
      have d0 : w3.cell? ⟨W.heap.size, 0, none⟩ = some (.int .i64 nd) := m5.cell 0
      have d1 : w3.cell? ⟨W.heap.size, 1, none⟩ = some (.int .i64 f0) := m5.cell 1
      have d2 : w3.cell? ⟨W.heap.size, 2, none⟩ = some (.int .i64 ow) := m5.cell 2
      have d3 : w3.cell? ⟨W.heap.size, 3, none⟩ = some (.slice xA ln xc) := m5.cell 3
      have d4 : w3.cell? ⟨W.heap.size, 4, none⟩ = some (.int .i64 tk) := m5.cell 4
      have d5 : w3.cell? ⟨W.heap.size, 5, none⟩ = some (.string tx) := m5.cell 5
      have fa0 := m6.frozen 0; have fa1 := m6.frozen 1; have fb := m7.frozen 0
      have l6 := m6.lt; have l7 := m7.lt; have l5 := m5.lt
      have fr0 := m0.b2.frozen 0; have fr1 := m0.b2.frozen 1; have fr2 := m0.b3.frozen 0; have lr := m0.b2.lt; have lr2 := m0.b3.lt
      have r0 : w3.cell? ⟨w.heap.size + 1 + 1, 0, none⟩ = some (.int .i64 0) := m0.b2.cell 0
      have r1 : w3.cell? ⟨w.heap.size + 1 + 1, 1, none⟩ = some (.int .i64 0) := m0.b2.cell 1
      have r2 : w3.cell? ⟨w.heap.size + 1 + 1 + 1, 0, none⟩ = some (.bool false) := m0.b3.cell 0
      gi_wp2
      refine HRet.out _ ((HK.out.trans (KeepsOthers.setCell _ _ _)).trans (KeepsOthers.setCell _ _ _) |>.trans (KeepsOthers.setCell _ _ _)) q5 ?_ ?_ ?_
      · exact ((m0.b2.set 0 _).set 1 _).far (p := ⟨w.heap.size + 1 + 1 + 1, 0, none⟩) (by dsimp only; omega) _
      · exact ((m0.b3.far (p := ⟨w.heap.size + 1 + 1, 0, none⟩) (by dsimp only; omega) _).far (p := ⟨w.heap.size + 1 + 1, 1, none⟩) (by dsimp only; omega) _).set 0 _
      · have hb := m0.below
        exact (by repeat (first | (with_reducible exact Below.refl _ _) | (with_reducible assumption) | (with_reducible refine Below.drew ?_) | ((with_reducible refine below_alloc ?_ ?_); (focus (first | omega | (simp; done) | (simp; omega)))) | ((with_reducible refine below_set ?_ ?_); (focus (first | omega | (simp; done) | (simp; omega))))))
    · have q6 : decide (I + z ≤ nd) = false := decide_eq_false q5
      have q7 : decide ((I : Int) + z ≤ nd) = false := decide_eq_false (by omega)
      by_cases q8 : nd < I
      · have q9 : decide (nd < I) = true := decide_eq_true q8
        gi_wp2
        refine wpIn_region_ext (by kernel_rfl) (by kernel_rfl) rfl ?_
        repeat (gi_big_quiet_step (fail))
        refine wpQuietIn_nil ?_
        intro w3 hb3
        clear ya yb yc yd
        have m0 := HE.out.later hb3
        have m5 := H5.out.below hb3 H5.out.lt; have m6 := H6.out.below hb3 H6.out.lt; have m7 := H7.out.below hb3 H7.out.lt
        have HK := hidden (KeepsOthers.of_below hb3)
        have HKT : Hid (KeepsT (fun k => k < w.heap.size ∨ k = w2.heap.size + 1 + 1) 3 W2 w3) := hidden (KeepsT.below HT2.out (Nat.le_refl _) hb3)
        have hz3 := hb3.size
        have ll := m0.lt; have ll2 := m0.lt2; have ll3 := m0.below.size
        clear HE H5 H6 H7 HQ hb3
        have c1 : w3.cell? ⟨w.heap.size + 1, 0, none⟩ = some (.int .i64 I) := m0.b1.cell 0
        have c2 : w3.cell? ⟨w.heap.size, 0, none⟩ = some (.slice (some ⟨b, off, none⟩) t.length c) := m0.b0.cell 0
        have c3 : w3.cell? ⟨w2.heap.size, 0, none⟩ = some (.int .i64 sa) := m6.cell 0
        have c4 : w3.cell? ⟨w2.heap.size, 1, none⟩ = some (.int .i64 sb) := m6.cell 1
        have c5 : w3.cell? ⟨w2.heap.size + 1, 0, none⟩ = some (.bool sm) := m7.cell 0
        have d0 : w3.cell? ⟨W.heap.size, 0, none⟩ = some (.int .i64 nd) := m5.cell 0
        have d1 : w3.cell? ⟨W.heap.size, 1, none⟩ = some (.int .i64 f0) := m5.cell 1
        have d2 : w3.cell? ⟨W.heap.size, 2, none⟩ = some (.int .i64 ow) := m5.cell 2
        have d3 : w3.cell? ⟨W.heap.size, 3, none⟩ = some (.slice xA ln xc) := m5.cell 3
        have d4 : w3.cell? ⟨W.heap.size, 4, none⟩ = some (.int .i64 tk) := m5.cell 4
        have d5 : w3.cell? ⟨W.heap.size, 5, none⟩ = some (.string tx) := m5.cell 5
        have fa0 := m6.frozen 0; have fa1 := m6.frozen 1; have fb := m7.frozen 0
        have l6 := m6.lt; have l7 := m7.lt; have l5 := m5.lt
        gi_wp2
        have y0 := Ext.cell d0; have y1 := Ext.cell d1; have y2 := Ext.cell d2; have y3 := Ext.cell d3; have y4 := Ext.cell d4; have y5 := Ext.cell d5
        clear c1 c2 c3 c4 c5 d0 d1 d2 d3 d4 d5 fa0 fa1 fb
        refine wpIn_region_ext_tail 5 (by kernel_rfl) (by kernel_rfl) rfl ?_
        simp only [List.take_succ_cons, List.take_zero, List.drop_succ_cons, List.drop_zero]
        repeat (gi_big_quiet_step ((gi_at_call 63; exact Ext.callIn (callsIn_wide.2 (HC.out _ e1 e2)))))
        refine wpQuietIn_nil ?_
        intro w4 hb4
        clear y0 y1 y2 y3 y4 y5
        replace m0 := m0.later hb4; replace m6 := m6.below hb4 l6; replace m7 := m7.below hb4 l7
        replace HK := hidden (HK.out.trans (KeepsOthers.of_below hb4))
        replace HKT := hidden (HKT.out.trans (KeepsT.below (e := 3) (fun k hk => Nat.lt_of_lt_of_le (HT2.out k hk) hz3) (Nat.le_refl _) hb4))
        have hz4 := hb4.size
        have c3 : w4.cell? ⟨w2.heap.size, 0, none⟩ = some (.int .i64 sa) := m6.cell 0
        have c4 : w4.cell? ⟨w2.heap.size, 1, none⟩ = some (.int .i64 sb) := m6.cell 1
        have c5 : w4.cell? ⟨w2.heap.size + 1, 0, none⟩ = some (.bool sm) := m7.cell 0
        have fa0 := m6.frozen 0; have fa1 := m6.frozen 1; have fb := m7.frozen 0
        have l8 := m6.lt; have l9 := m7.lt
        clear hb4
        gi_wp2
        have hs : Hid (s2 = (fe, fe, sm)) := hidden (by rw [HSt.out, if_neg q5, if_pos q8])
        refine HFin.out _ ((HK.out.trans (KeepsOthers.setCell _ _ _)).trans (KeepsOthers.setCell _ _ _)) ?_ ((m0.set (by omega) _).set (by omega) _) ?_ ?_
        · exact KeepsT.setCell (KeepsT.setCell HKT.out (by omega) m6 (by decide)) (by omega) (m6.set 0 _) (by decide)
        · rw [hs.out]
          exact (m6.set 0 _).set 1 _
        · rw [hs.out]
          exact (m7.far (p := ⟨w2.heap.size, 0, none⟩) (by dsimp only; omega) _).far (p := ⟨w2.heap.size, 1, none⟩) (by dsimp only; omega) _
      · have q9 : decide (nd < I) = false := decide_eq_false q8
        cases sm with
        | false =>
          gi_wp2
          refine wpIn_region_ext (by kernel_rfl) (by kernel_rfl) rfl ?_
          repeat (gi_big_quiet_step (fail))
          refine wpQuietIn_nil ?_
          intro w3 hb3
          clear ya yb yc yd
          have m0 := HE.out.later hb3
          have m5 := H5.out.below hb3 H5.out.lt; have m6 := H6.out.below hb3 H6.out.lt; have m7 := H7.out.below hb3 H7.out.lt
          have HK := hidden (KeepsOthers.of_below hb3)
          have HKT : Hid (KeepsT (fun k => k < w.heap.size ∨ k = w2.heap.size + 1 + 1) 3 W2 w3) := hidden (KeepsT.below HT2.out (Nat.le_refl _) hb3)
          have hz3 := hb3.size
          have ll := m0.lt; have ll2 := m0.lt2; have ll3 := m0.below.size
          clear HE H5 H6 H7 HQ hb3
          have c1 : w3.cell? ⟨w.heap.size + 1, 0, none⟩ = some (.int .i64 I) := m0.b1.cell 0
          have c2 : w3.cell? ⟨w.heap.size, 0, none⟩ = some (.slice (some ⟨b, off, none⟩) t.length c) := m0.b0.cell 0
          have c3 : w3.cell? ⟨w2.heap.size, 0, none⟩ = some (.int .i64 sa) := m6.cell 0
          have c4 : w3.cell? ⟨w2.heap.size, 1, none⟩ = some (.int .i64 sb) := m6.cell 1
          have c5 : w3.cell? ⟨w2.heap.size + 1, 0, none⟩ = some (.bool false) := m7.cell 0
          have d0 : w3.cell? ⟨W.heap.size, 0, none⟩ = some (.int .i64 nd) := m5.cell 0
          have d1 : w3.cell? ⟨W.heap.size, 1, none⟩ = some (.int .i64 f0) := m5.cell 1
          have d2 : w3.cell? ⟨W.heap.size, 2, none⟩ = some (.int .i64 ow) := m5.cell 2
          have d3 : w3.cell? ⟨W.heap.size, 3, none⟩ = some (.slice xA ln xc) := m5.cell 3
          have d4 : w3.cell? ⟨W.heap.size, 4, none⟩ = some (.int .i64 tk) := m5.cell 4
          have d5 : w3.cell? ⟨W.heap.size, 5, none⟩ = some (.string tx) := m5.cell 5
          have fa0 := m6.frozen 0; have fa1 := m6.frozen 1; have fb := m7.frozen 0
          have l6 := m6.lt; have l7 := m7.lt; have l5 := m5.lt
          gi_wp2
          have y0 := Ext.cell d0; have y1 := Ext.cell d1; have y2 := Ext.cell d2; have y3 := Ext.cell d3; have y4 := Ext.cell d4; have y5 := Ext.cell d5
          clear c1 c2 c3 c4 c5 d0 d1 d2 d3 d4 d5 fa0 fa1 fb
          refine wpIn_region_ext_tail 6 (by kernel_rfl) (by kernel_rfl) rfl ?_
          simp only [List.take_succ_cons, List.take_zero, List.drop_succ_cons, List.drop_zero]
          repeat (gi_big_quiet_step ((gi_at_call 63; exact Ext.callIn (callsIn_wide.2 (HC.out _ e1 e2)))))
          refine wpQuietIn_nil ?_
          intro w4 hb4
          clear y0 y1 y2 y3 y4 y5
          replace m0 := m0.later hb4; replace m6 := m6.below hb4 l6; replace m7 := m7.below hb4 l7
          replace HK := hidden (HK.out.trans (KeepsOthers.of_below hb4))
          replace HKT := hidden (HKT.out.trans (KeepsT.below (e := 3) (fun k hk => Nat.lt_of_lt_of_le (HT2.out k hk) hz3) (Nat.le_refl _) hb4))
          have hz4 := hb4.size
          have c3 : w4.cell? ⟨w2.heap.size, 0, none⟩ = some (.int .i64 sa) := m6.cell 0
          have c4 : w4.cell? ⟨w2.heap.size, 1, none⟩ = some (.int .i64 sb) := m6.cell 1
          have c5 : w4.cell? ⟨w2.heap.size + 1, 0, none⟩ = some (.bool false) := m7.cell 0
          have fa0 := m6.frozen 0; have fa1 := m6.frozen 1; have fb := m7.frozen 0
          have l8 := m6.lt; have l9 := m7.lt
          clear hb4
          gi_wp2
          have hs : Hid (s2 = (ow, fe, true)) := hidden (by rw [HSt.out, if_neg q5, if_neg q8]; rfl)
          refine HFin.out _ (((HK.out.trans (KeepsOthers.setCell _ _ _)).trans (KeepsOthers.setCell _ _ _)).trans (KeepsOthers.setCell _ _ _)) ?_ (((m0.set (by omega) _).set (by omega) _).set (by omega) _) ?_ ?_
          · exact KeepsT.setCell (KeepsT.setCell (KeepsT.setCell HKT.out (by omega) m6 (by decide)) (by omega) (m6.set 0 _) (by decide)) (by omega) ((m7.far (p := ⟨w2.heap.size, 0, none⟩) (by dsimp only; omega) _).far (p := ⟨w2.heap.size, 1, none⟩) (by dsimp only; omega) _) (by decide)
          · rw [hs.out]
            exact ((m6.set 0 _).set 1 _).far (p := ⟨w2.heap.size + 1, 0, none⟩) (by dsimp only; omega) _
          · rw [hs.out]
            exact ((m7.far (p := ⟨w2.heap.size, 0, none⟩) (by dsimp only; omega) _).far (p := ⟨w2.heap.size, 1, none⟩) (by dsimp only; omega) _).set 0 _
        | true =>
          gi_wp2
          refine wpIn_region_ext (by kernel_rfl) (by kernel_rfl) rfl ?_
          repeat (gi_big_quiet_step (fail))
          refine wpQuietIn_nil ?_
          intro w3 hb3
          clear ya yb yc yd
          have m0 := HE.out.later hb3
          have m5 := H5.out.below hb3 H5.out.lt; have m6 := H6.out.below hb3 H6.out.lt; have m7 := H7.out.below hb3 H7.out.lt
          have HK := hidden (KeepsOthers.of_below hb3)
          have HKT : Hid (KeepsT (fun k => k < w.heap.size ∨ k = w2.heap.size + 1 + 1) 3 W2 w3) := hidden (KeepsT.below HT2.out (Nat.le_refl _) hb3)
          have hz3 := hb3.size
          have ll := m0.lt; have ll2 := m0.lt2; have ll3 := m0.below.size
          clear HE H5 H6 H7 HQ hb3
          have c1 : w3.cell? ⟨w.heap.size + 1, 0, none⟩ = some (.int .i64 I) := m0.b1.cell 0
          have c2 : w3.cell? ⟨w.heap.size, 0, none⟩ = some (.slice (some ⟨b, off, none⟩) t.length c) := m0.b0.cell 0
          have c3 : w3.cell? ⟨w2.heap.size, 0, none⟩ = some (.int .i64 sa) := m6.cell 0
          have c4 : w3.cell? ⟨w2.heap.size, 1, none⟩ = some (.int .i64 sb) := m6.cell 1
          have c5 : w3.cell? ⟨w2.heap.size + 1, 0, none⟩ = some (.bool true) := m7.cell 0
          have d0 : w3.cell? ⟨W.heap.size, 0, none⟩ = some (.int .i64 nd) := m5.cell 0
          have d1 : w3.cell? ⟨W.heap.size, 1, none⟩ = some (.int .i64 f0) := m5.cell 1
          have d2 : w3.cell? ⟨W.heap.size, 2, none⟩ = some (.int .i64 ow) := m5.cell 2
          have d3 : w3.cell? ⟨W.heap.size, 3, none⟩ = some (.slice xA ln xc) := m5.cell 3
          have d4 : w3.cell? ⟨W.heap.size, 4, none⟩ = some (.int .i64 tk) := m5.cell 4
          have d5 : w3.cell? ⟨W.heap.size, 5, none⟩ = some (.string tx) := m5.cell 5
          have fa0 := m6.frozen 0; have fa1 := m6.frozen 1; have fb := m7.frozen 0
          have l6 := m6.lt; have l7 := m7.lt; have l5 := m5.lt
          gi_wp2_with fail
          refine CallsIn.mono (F := Fence.wide.inRound l2) (callsIn_wide.2 (HC.out _ e1 e2)) ?_
          rintro e w4 ⟨rfl, hb4⟩
          clear c1 c2 c3 c4 c5 d0 d1 d2 d3 d4 d5 fa0 fa1 fb
          replace m0 := m0.later hb4; replace m6 := m6.below hb4 l6; replace m7 := m7.below hb4 l7
          replace HK := hidden (HK.out.trans (KeepsOthers.of_below hb4))
          replace HKT := hidden (HKT.out.trans (KeepsT.below (e := 3) (fun k hk => Nat.lt_of_lt_of_le (HT2.out k hk) hz3) (Nat.le_refl _) hb4))
          have hz4 := hb4.size
          have c4 : w4.cell? ⟨w2.heap.size, 1, none⟩ = some (.int .i64 sb) := m6.cell 1
          have fa1 := m6.frozen 1
          have l8 := m6.lt
          clear hb4
          gi_wp2
          have hs : Hid (s2 = (sa, fe, true)) := hidden (by rw [HSt.out, if_neg q5, if_neg q8]; rfl)
          refine HFin.out _ (HK.out.trans (KeepsOthers.setCell _ _ _)) ?_ (m0.set (by omega) _) ?_ ?_
          · exact KeepsT.setCell HKT.out (by omega) m6 (by decide)
          · rw [hs.out]
            exact m6.set 1 _
          · rw [hs.out]
            exact m7.far (p := ⟨w2.heap.size, 1, none⟩) (by dsimp only; omega) _
  case done =>
    rintro D xs W hD hS ⟨m0, m6, m7⟩ hK
    rw [hS] at m6 m7
    generalize spanP t I (sz t I) (List.range (leavesOf t).length) = s1 at *
    obtain ⟨sa, sb, sm⟩ := s1
    dsimp only at m6 m7 HS
    have ll := m0.lt; have ll2 := m0.lt2; have ll3 := m0.below.size
    have c3 : W.cell? ⟨w2.heap.size, 0, none⟩ = some (.int .i64 sa) := m6.cell 0
    have c4 : W.cell? ⟨w2.heap.size, 1, none⟩ = some (.int .i64 sb) := m6.cell 1
    have fr0 := m0.b2.frozen 0; have fr1 := m0.b2.frozen 1; have fr2 := m0.b3.frozen 0; have lr := m0.b2.lt; have lr2 := m0.b3.lt
    have r0 : W.cell? ⟨w.heap.size + 1 + 1, 0, none⟩ = some (.int .i64 0) := m0.b2.cell 0
    have r1 : W.cell? ⟨w.heap.size + 1 + 1, 1, none⟩ = some (.int .i64 0) := m0.b2.cell 1
    have r2 : W.cell? ⟨w.heap.size + 1 + 1 + 1, 0, none⟩ = some (.bool false) := m0.b3.cell 0
    gi_wp2
    refine leaves_marks (B := w.heap.size) [D] _ ⟨by simp, ?_⟩ ?_
    · intro D' hD'
      simp at hD'
      subst hD'
      simp at hD
      exact ⟨by omega, by rw [Below.heap_setCell _ _ _ _ (by dsimp only; omega), Below.heap_setCell _ _ _ _ (by dsimp only; omega), Below.heap_setCell _ _ _ _ (by dsimp only; omega)]; exact hK⟩
    · intro W' hc
      have q2 := hc.holds (((m0.b2.set 0 (.int .i64 sa)).set 1 (.int .i64 sb)).far (p := ⟨w.heap.size + 1 + 1 + 1, 0, none⟩) (by dsimp only; omega) (.bool true))
      have q3 := hc.holds (((m0.b3.far (p := ⟨w.heap.size + 1 + 1, 0, none⟩) (by dsimp only; omega) (.int .i64 sa)).far (p := ⟨w.heap.size + 1 + 1, 1, none⟩) (by dsimp only; omega) (.int .i64 sb)).set 0 (.bool true))
      have e1 : W'.cell? ⟨w.heap.size + 1 + 1, 0, none⟩ = some (.int .i64 sa) := q2.cell 0
      have e2 : W'.cell? ⟨w.heap.size + 1 + 1, 1, none⟩ = some (.int .i64 sb) := q2.cell 1
      have e3 : W'.cell? ⟨w.heap.size + 1 + 1 + 1, 0, none⟩ = some (.bool true) := q3.cell 0
      have hb := m0.below
      refine ⟨.tuple #[.agg #[.int .i64 sa, .int .i64 sb], .bool true], ?_, ?_, ?_⟩
      · simp [results, Try.f22, go_sem, e1, e2, e3]
      · rw [HS.out]
      · refine Below.trans ?_ (hc.below (Nat.le_refl _) (by simp; omega))
        exact (by repeat (first | (with_reducible exact Below.refl _ _) | (with_reducible assumption) | (with_reducible refine Below.drew ?_) | ((with_reducible refine below_alloc ?_ ?_); (focus (first | omega | (simp; done) | (simp; omega)))) | ((with_reducible refine below_set ?_ ?_); (focus (first | omega | (simp; done) | (simp; omega))))))
  case stop =>
    rintro D c pre W hD hS ⟨rfl, pre', x, rfl, h1, h2, h3, hb⟩ hK
    have HP : Hid (spanP t I (sz t I) (List.range (leavesOf t).length) = spanP t I (sz t I) (pre'.map (·.1.1))) := hidden (spanP_stop (by rw [List.map_append] at hS; exact hS) h1)
    rw [HP.out] at HS
    generalize spanP t I (sz t I) (pre'.map (·.1.1)) = s1 at *
    obtain ⟨sa, sb, sm⟩ := s1
    dsimp only at h2 HS
    gi_wp2
    refine leaves_marks (B := w.heap.size) [D] _ ⟨by simp, ?_⟩ ?_
    · intro D' hD'
      simp at hD'
      subst hD'
      simp at hD
      exact ⟨by omega, hK⟩
    · intro W' hc
      have e1 : W'.cell? ⟨w.heap.size + 1 + 1, 0, none⟩ = some (.int .i64 sa) := (hc.holds h2).cell 0
      have e2 : W'.cell? ⟨w.heap.size + 1 + 1, 1, none⟩ = some (.int .i64 sb) := (hc.holds h2).cell 1
      have e3 : W'.cell? ⟨w.heap.size + 1 + 1 + 1, 0, none⟩ = some (.bool true) := (hc.holds h3).cell 0
      refine ⟨.tuple #[.agg #[.int .i64 sa, .int .i64 sb], .bool true], ?_, ?_, ?_⟩
      · simp [results, Try.f22, go_sem, e1, e2, e3]
      · rw [HS.out]
      · exact hb.trans (hc.below (Nat.le_refl _) hb.size)
end Go.Proofs.Ytihblifkbljgaaa
