/-
  Regions that draw their order inside a round of a range over a function: nothing in them is deferred. Over any program. arena.Up. arena.Up, walked. Deep, of both. arena.Deep, walked. Step, of both. Kids, of the document. slices.Collect over the kids, and arena.Kids. law27.Few at nodes however many.
-/
import Derived.Test.YtmmhkjdnejeooaaB1
import Derived.Sort.BigQuietIn
import Derived.OwnWalkIn
import Derived.Test.YtmmhkjdnejeooaaT1
import Derived.Sort.LoopGhostIn
namespace Go.Proofs.Ytmmhkjdnejeooaa.T
open Go.RowKit Go.Shelf

def laysNoDefer (o : Oper) : Bool := match o.op with
  | .defer _ => false
  | _ => true

section
variable {F : Fence} {n : Nat} {P : Program} {ops : Array Oper} {C : World → Prop}

theorem quiet_oper {o : Oper} (hn : laysNoDefer o = true) {a : Act} {K : Act → Prop} {K' : Act → World → Prop} {Q' : Exit → Act → World → Prop} {w : World} (hw : C w) (h : ∀ a w', C w' → K a → K' a w') (ha : o.askedIn F P a C) (hh : o.quietIn F n P a C K) :
    o.wpIn F n P a w K' Q' := by
  have hd : ∀ c, o.op ≠ .defer c := by
    intro c e
    unfold laysNoDefer at hn
    rw [e] at hn
    cases hn
  obtain ⟨v, h1, h2⟩ := hh
  have h3 := h1 w hw
  unfold Oper.wpIn
  refine ⟨ha w hw, ?_⟩
  rw [Oper.semAt_plain F _ _ hd]
  unfold Oper.quietAtIn at h3
  revert h3
  cases (execOp a.eval o).run P w with
  | halt x w' => intro h3; simp only [Oper.quietUponIn] at h3
  | ok x w' =>
    cases x with
    | value u => intro ⟨e1, e2⟩; simp only [Oper.uponIn]; rw [e1, e2]; exact h _ _ hw h2
    | skip => intro ⟨e1, e2⟩; simp only [Oper.uponIn]; rw [e1, ← e2]; exact h _ _ hw h2
    | enter f args =>
      intro ⟨e1, hd, hc⟩
      simp only [Oper.uponIn]
      rw [e1]
      exact ⟨hd, hc.mono fun e w'' ⟨he, hw''⟩ => by subst he; exact h _ _ hw'' h2⟩
    | _ => intro h3; simp only [Oper.quietUponIn] at h3

theorem quiet_any {Q : Act → Prop} {Q' : Exit → Act → World → Prop} (hn : ∀ (i : Nat) (o : Oper), ops[i]? = some o → laysNoDefer o = true) (hQ : ∀ a w, C w → Q a → Q' .normal a w) {md : Region.Mode} (fuel : Nat) :
    ∀ (listed : Array Bool) (a : Act) (w : World), C w → wpAnyQIn F n P md ops C Q fuel listed a → wpAnyIn F n P md ops Q' fuel listed a w := by
  induction fuel with
  | zero => exact fun _ _ _ hw h => ⟨h.1, hQ _ _ hw h.2⟩
  | succ fuel ih =>
    intro listed a w hw h
    refine ⟨fun h0 => hQ _ _ hw (h.1 h0), fun i hi => ?_⟩
    have hh := h.2 i hi
    unfold qOpIn at hh
    unfold wpOpIn
    cases ho : ops[i]? with
    | none => simp only [ho] at hh; exact ih _ _ _ hw hh
    | some o =>
      simp only [ho] at hh
      obtain ⟨ha, hh⟩ := hh
      by_cases hy : Region.wanted o (yielded ops a.tmps) = true
      · simp only [hy, if_true] at hh ⊢
        exact quiet_oper (hn i o ho) hw (fun a' w' hw' => ih _ a' w' hw') ha hh
      · simp only [hy] at hh ⊢
        exact ⟨ha w hw, ih _ _ _ hw hh⟩

theorem wpIn_region_round {id : Nat} {Q : Exit → Act → World → Prop} {a : Act} {w : World} {l : List Oper} (hm : P.follows .mixedOrders = true) (hB : Region.lexB .any l.toArray = true) (hn : l.all laysNoDefer = true)
    (h : wpQuietIn F n P l.toArray (fun w' => ∃ n, w' = w.drewN n) (fun a' => ∀ w', (∃ n, w' = w.drewN n) → Q .normal a' w') l a) : (Code.region id l.toArray true).wpIn F n P Q a w := by
  simp only [Region.lexB, Bool.and_eq_true] at hB
  refine wpIn_region_any hm (quiet_any (C := fun w' => ∃ n, w' = w.drewN n) (Q := fun a' => ∀ w', (∃ n, w' = w.drewN n) → Q .normal a' w') ?_ (fun _ w' hw' h => h w' hw') _ _ _ _ ⟨1, rfl⟩ ?_)
  · intro i o ho
    have hm := List.all_eq_true.1 hn
    refine hm o ?_
    rw [List.getElem?_toArray] at ho
    exact List.mem_of_getElem? ho
  · have := wpAnyQIn_lex (F := F) (n := n) (C := fun w' => ∃ n, w' = w.drewN n) (md := .any) hB.1 l 0 (Array.replicate l.toArray.size false) a (by simp) (by simpa using hB.2) h
    simpa using this
end
end Go.Proofs.Ytmmhkjdnejeooaa.T

namespace Go.Proofs.Ytmmhkjdnejeooaa.T
open Go.RowKit Go.Shelf
attribute [local go_sem] Oper.semAt_some

theorem _root_.Go.Proofs.Ytmmhkjdnejeooaa.Marks.calm {B B' : Nat} {W W' : World} {Ds : List Nat} (h : Marks B W Ds) (hD : ∀ D ∈ Ds, D < B') (hc : Calm B' W W') : Marks B W' Ds :=
  ⟨h.1, fun D hd => ⟨(h.2 D hd).1, hc.block D _ (h.2 D hd).2 (.inl (hD D hd))⟩⟩
theorem _root_.Go.Proofs.Ytmmhkjdnejeooaa.Marks.others {B : Nat} {W W' : World} {Ds : List Nat} (h : Marks B W Ds) (hk : KeepsOthers W W') : Marks B W' Ds :=
  ⟨h.1, fun D hd => ⟨(h.2 D hd).1, keeps_deferred hk (h.2 D hd).2⟩⟩
theorem _root_.Go.Proofs.Ytmmhkjdnejeooaa.Marks.lt {B : Nat} {W : World} {Ds : List Nat} (h : Marks B W Ds) : ∀ D ∈ Ds, D < W.heap.size := fun D hd => (Array.getElem?_eq_some_iff.1 (h.2 D hd).2).1
theorem _root_.Go.Proofs.Ytmmhkjdnejeooaa.Marks.cons {B D : Nat} {W : World} {Ds : List Nat} (h : Marks B W Ds) (hB : B ≤ D) (hn : ∀ E ∈ Ds, E < D) (hD : W.heap[D]? = some (.deferred (some []))) : Marks B W (D :: Ds) :=
  ⟨List.nodup_cons.2 ⟨fun hm => by have := hn D hm; omega, h.1⟩, fun E hE => by
    rw [List.mem_cons] at hE
    rcases hE with rfl | hE
    · exact ⟨hB, hD⟩
    · exact h.2 E hE⟩

/-- Between two turns. -/
structure UpI (w : World) (v : Value) (I at_ Ba : Nat) (Ds : List Nat) (W : World) : Prop where
  b0 : Holds W w.heap.size 27 #[v]
  b1 : Holds W (w.heap.size + 1) 3 #[.int .i64 I]
  b2 : Holds W (w.heap.size + 1 + 1) 3 #[.int .i64 0]
  ba : Holds W Ba 3 #[.int .i64 at_]
  hBa : w.heap.size + 1 + 1 < Ba
  below : Below w.heap.size w W
  marks : Marks w.heap.size W Ds

theorem UpI.calm {w W W' : World} {v : Value} {I at_ Ba B' : Nat} {Ds : List Nat} (h : UpI w v I at_ Ba Ds W) (hB : w.heap.size ≤ B') (hD : ∀ D ∈ Ds, D < B') (hc : Calm B' W W') : UpI w v I at_ Ba Ds W' :=
  ⟨hc.holds h.b0, hc.holds h.b1, hc.holds h.b2, hc.holds h.ba, h.hBa, h.below.trans (hc.below hB h.below.size), h.marks.calm hD hc⟩

theorem UpI.alloc {w W : World} {v : Value} {I at_ Ba : Nat} {Ds : List Nat} (h : UpI w v I at_ Ba Ds W) (o : Obj) : UpI w v I at_ Ba Ds (W.alloc o) :=
  ⟨h.b0.alloc o, h.b1.alloc o, h.b2.alloc o, h.ba.alloc o, h.hBa, h.below.alloc h.below.size o, ⟨h.marks.1, fun D hd => ⟨(h.marks.2 D hd).1, (Below.heap_alloc W o D (h.marks.lt D hd)).trans (h.marks.2 D hd).2⟩⟩⟩

/-- The kids that are past end at or ahead of i; so does all that is beneath them. -/
theorem past_all {t : List Node} (ht : Tree t) {i a : Nat} (ha : a < t.length) : ∀ (pre : List Nat) (k : Nat), (∃ r, kidsFrom t (a + sz t a) k = pre ++ i :: r) → a < k → (∀ m, a < m → m < k → m + sz t m ≤ k) →
    (∀ m, a < m → m < i → m + sz t m ≤ i) ∧ i < a + sz t a ∧ a < i := by
  intro pre
  induction pre with
  | nil =>
    intro k ⟨r, hr⟩ hk h
    by_cases hlt : k < a + sz t a
    · obtain ⟨g1, g2, g3⟩ := tree_step ht ha hk hlt
      rw [kidsFrom_lt hlt g2] at hr
      simp at hr
      obtain ⟨rfl, _⟩ := hr
      exact ⟨h, hlt, hk⟩
    · rw [kidsFrom_ge hlt] at hr; simp at hr
  | cons y pre ih =>
    intro k ⟨r, hr⟩ hk h
    by_cases hlt : k < a + sz t a
    · obtain ⟨g1, g2, g3⟩ := tree_step ht ha hk hlt
      rw [kidsFrom_lt hlt g2] at hr
      simp at hr
      obtain ⟨rfl, hr⟩ := hr
      refine ih (k + sz t k) ⟨r, hr⟩ (by omega) (fun m a1 a2 => ?_)
      by_cases e : m < k
      · have := h m a1 e; omega
      · by_cases e2 : m = k
        · subst e2; exact Nat.le_refl _
        · exact (tree_step ht g1 (by omega) a2).2.2
    · rw [kidsFrom_ge hlt] at hr; simp at hr

theorem upN_of {t : List Node} {i a : Nat} (ha : a < i) (h : i < a + sz t a) (hp : ∀ m, a < m → m < i → m + sz t m ≤ i) : ∀ j, a < j → j ≤ i → upN t i j = a := by
  intro j
  induction j with
  | zero => intro h; omega
  | succ k ih =>
    intro h1 h2
    unfold upN
    by_cases e : k = a
    · subst e; rw [if_pos h]
    · have := hp k (by omega) (by omega)
      rw [if_neg (by omega)]
      exact ih (by omega) (by omega)
/-- Where one kid of a is i, and i is in a's stretch, the other's up is a. -/
theorem up_found {t : List Node} (ht : Tree t) {i a : Nat} (ha : a < t.length) {pre : List Nat} (hp : (pre ++ [i]) <+: kidsL t a) : upN t i i = a := by
  obtain ⟨r, hr⟩ := hp
  obtain ⟨h1, h2, h3⟩ := past_all (i := i) ht ha pre (a + 1) ⟨r, by unfold kidsL at hr; rw [← hr]; simp⟩ (by omega) (fun m a1 a2 => by omega)
  exact upN_of h3 h2 h1 i h3 (Nat.le_refl _)
/-- Not all the kids end ahead of a place in the stretch. -/
theorem kids_hit {t : List Node} (ht : Tree t) {i a : Nat} (ha : a < t.length) (hi : i < a + sz t a) : ∀ n k, a + sz t a - k ≤ n → a < k → k ≤ i → ¬ (∀ x ∈ kidsFrom t (a + sz t a) k, x + sz t x ≤ i) := by
  intro n
  induction n with
  | zero => intro k h1 h2 h3; omega
  | succ n ih =>
    intro k h1 h2 h3 h
    have hlt : k < a + sz t a := by omega
    obtain ⟨g1, g2, g3⟩ := tree_step ht ha h2 hlt
    rw [kidsFrom_lt hlt g2] at h
    have hk := h k (by simp)
    exact ih (k + sz t k) (by omega) (by omega) hk (fun x hx => h x (by simp [hx]))
/-- The next kid stands at or ahead of i where all that are past end there. -/
theorem kids_next {t : List Node} (ht : Tree t) {i a : Nat} (ha : a < t.length) : ∀ (pre : List Nat) (x k : Nat), (∃ r, kidsFrom t (a + sz t a) k = pre ++ x :: r) → a < k → k ≤ i → (∀ y ∈ pre, y + sz t y ≤ i) → x ≤ i := by
  intro pre
  induction pre with
  | nil =>
    intro x k ⟨r, hr⟩ hk hi _
    by_cases hlt : k < a + sz t a
    · obtain ⟨g1, g2, g3⟩ := tree_step ht ha hk hlt
      rw [kidsFrom_lt hlt g2] at hr
      simp at hr
      omega
    · rw [kidsFrom_ge hlt] at hr; simp at hr
  | cons y pre ih =>
    intro x k ⟨r, hr⟩ hk hi hy
    by_cases hlt : k < a + sz t a
    · obtain ⟨g1, g2, g3⟩ := tree_step ht ha hk hlt
      rw [kidsFrom_lt hlt g2] at hr
      simp at hr
      obtain ⟨rfl, hr⟩ := hr
      exact ih x (k + sz t k) ⟨r, hr⟩ (by omega) (hy k (by simp)) (fun z hz => hy z (by simp [hz]))
    · rw [kidsFrom_ge hlt] at hr; simp at hr
end Go.Proofs.Ytmmhkjdnejeooaa.T

namespace Go.Proofs.Ytmmhkjdnejeooaa.T
open Go.RowKit Go.Shelf
attribute [local go_sem] Oper.semAt_some

/-- Between two kids. -/
def UpP (w : World) (v : Value) (t : List Node) (I at_ Ba : Nat) (Ds : List Nat) (pre : List (Kid t at_)) (W : World) : Prop := UpI w v I at_ Ba Ds W ∧ Hid (∀ y ∈ pre.map (·.1), y + sz t y ≤ I)
def UpX (w : World) (v : Value) (t : List Node) (I at_ Ba : Nat) (Ds : List Nat) (c : Code) (pre : List (Kid t at_)) (W : World) : Prop :=
  (c = .ret ∧ ∃ pre' x, pre = pre' ++ [x] ∧ x.1 = I ∧ Holds W (w.heap.size + 1 + 1) 3 #[.int .i64 at_] ∧ Below w.heap.size w W ∧ Marks w.heap.size W Ds) ∨
  (c = .exit 2 ∧ ∃ pre' x, pre = pre' ++ [x] ∧ x.1 ≠ I ∧ I < x.1 + sz t x.1 ∧ Hid (∀ y ∈ pre'.map (·.1), y + sz t y ≤ I) ∧ UpI w v I x.1 Ba Ds W)

end Go.Proofs.Ytmmhkjdnejeooaa.T

namespace Go.Proofs.Ytmmhkjdnejeooaa.T
open Go.RowKit Go.Shelf

theorem upN_lt {t : List Node} {i k : Nat} : ∀ j, upN t i j = (k : Int) → k < j := by
  intro j
  induction j with
  | zero => intro h; simp [upN] at h
  | succ j ih =>
    intro h
    unfold upN at h
    split at h
    · omega
    · have := ih h; omega
theorem upN_cases (t : List Node) (i j : Nat) : upN t i j = -1 ∨ ∃ k : Nat, upN t i j = (k : Int) := by
  induction j with
  | zero => exact .inl rfl
  | succ j ih =>
    unfold upN
    split
    · exact .inr ⟨j, rfl⟩
    · exact ih
/-- How many nodes the one at i lies beneath. -/
def depth (t : List Node) (i : Nat) : Nat := if h : 0 ≤ upN t i i ∧ (upN t i i).toNat < i then depth t (upN t i i).toNat + 1 else 0
termination_by i
decreasing_by exact h.2
theorem depth_none {t : List Node} {i : Nat} (h : upN t i i = -1) : depth t i = 0 := by rw [depth, dif_neg (by omega)]
theorem depth_some {t : List Node} {i k : Nat} (h : upN t i i = (k : Int)) : depth t i = depth t k + 1 := by
  have := upN_lt i h
  rw [depth, dif_pos (by rw [h]; simp; omega), h]
  simp
theorem depth_le (t : List Node) (i : Nat) : depth t i ≤ i := by
  induction i using Nat.strongRecOn with
  | _ i ih =>
    rcases upN_cases t i i with h | ⟨k, h⟩
    · rw [depth_none h]; exact Nat.zero_le _
    · have hk := upN_lt i h
      have := ih k hk
      rw [depth_some h]
      omega
noncomputable def deepOf (t : List Node) (i : Int) : Int := if placeB t i then depth t i.toNat else -1

theorem upOf_in {t : List Node} (ht : Tree t) {k : Nat} (hk : k < t.length) : upOf t k = upN t k k := by
  unfold upOf
  rw [if_pos (placeB_iff.2 ⟨by omega, by omega, ht⟩)]
  simp

end Go.Proofs.Ytmmhkjdnejeooaa.T

namespace Go.Proofs.Ytmmhkjdnejeooaa.T
open Go.RowKit Go.Shelf
attribute [local go_sem] Oper.semAt_some

/-- Between two turns. -/
structure DeepI (w : World) (v : Value) (I at_ Ba : Nat) (Ds : List Nat) (W : World) : Prop where
  b0 : Holds W w.heap.size 27 #[v]
  b1 : Holds W (w.heap.size + 1) 3 #[.int .i64 I]
  ba : Holds W Ba 3 #[.int .i64 at_]
  hBa : w.heap.size + 1 < Ba
  below : Below w.heap.size w W
  marks : Marks w.heap.size W Ds

theorem DeepI.calm {w W W' : World} {v : Value} {I at_ Ba B' : Nat} {Ds : List Nat} (h : DeepI w v I at_ Ba Ds W) (hB : w.heap.size ≤ B') (hD : ∀ D ∈ Ds, D < B') (hc : Calm B' W W') : DeepI w v I at_ Ba Ds W' :=
  ⟨hc.holds h.b0, hc.holds h.b1, hc.holds h.ba, h.hBa, h.below.trans (hc.below hB h.below.size), h.marks.calm hD hc⟩
theorem DeepI.alloc {w W : World} {v : Value} {I at_ Ba : Nat} {Ds : List Nat} (h : DeepI w v I at_ Ba Ds W) (o : Obj) : DeepI w v I at_ Ba Ds (W.alloc o) :=
  ⟨h.b0.alloc o, h.b1.alloc o, h.ba.alloc o, h.hBa, h.below.alloc h.below.size o, ⟨h.marks.1, fun D hd => ⟨(h.marks.2 D hd).1, (Below.heap_alloc W o D (h.marks.lt D hd)).trans (h.marks.2 D hd).2⟩⟩⟩

/-- Between two kids. -/
def DeepP (w : World) (v : Value) (t : List Node) (I at_ Ba : Nat) (Ds : List Nat) (pre : List (Kid t at_)) (W : World) : Prop := DeepI w v I at_ Ba Ds W ∧ Hid (∀ y ∈ pre.map (·.1), y + sz t y ≤ I)
def DeepX (w : World) (v : Value) (t : List Node) (I at_ Ba : Nat) (Ds : List Nat) (c : Code) (pre : List (Kid t at_)) (W : World) : Prop :=
  c = .exit 2 ∧ ∃ pre' x, pre = pre' ++ [x] ∧ I < x.1 + sz t x.1 ∧ Hid (∀ y ∈ pre'.map (·.1), y + sz t y ≤ I) ∧ DeepI w v I x.1 Ba Ds W

end Go.Proofs.Ytmmhkjdnejeooaa.T

namespace Go.Proofs.Ytmmhkjdnejeooaa.T
open Go.RowKit Go.Shelf

theorem texts_nodup (t : List Node) (k : Nat) : (texts t k).Nodup := List.Nodup.sublist List.filter_sublist List.nodup_range
theorem leavesOf_nodup (t : List Node) : (leavesOf t).Nodup := by
  unfold leavesOf leavesTo
  split
  · exact texts_nodup t _
  · exact List.nodup_nil
theorem leavesOf_lt (t : List Node) : ∀ x ∈ leavesOf t, x < t.length := by
  unfold leavesOf leavesTo
  split
  · intro x hx; unfold texts at hx; exact List.mem_range.1 (List.mem_filter.1 hx).1
  · intro x hx; cases hx

/-- Where i stands in L, from k on. -/
def idxFrom (i : Int) : Nat → List Nat → Int
  | _, [] => -1
  | k, x :: r => if (x : Int) = i then (k : Int) else idxFrom i (k + 1) r
def idxOf (L : List Nat) (i : Int) : Int := idxFrom i 0 L
/-- What stands by places behind i in L. -/
def stepL (L : List Nat) (i by_ : Int) : Int := if 0 ≤ idxOf L i ∧ 0 ≤ idxOf L i + by_ ∧ idxOf L i + by_ < L.length then (L.getD (idxOf L i + by_).toNat 0 : Nat) else -1

theorem idxFrom_none {i : Int} : ∀ (L : List Nat) (k : Nat), (∀ x ∈ L, (x : Int) ≠ i) → idxFrom i k L = -1 := by
  intro L
  induction L with
  | nil => intro k _; rfl
  | cons x r ih =>
    intro k h
    unfold idxFrom
    rw [if_neg (h x (by simp))]
    exact ih _ (fun y hy => h y (by simp [hy]))
theorem idxFrom_some {i : Int} : ∀ (L : List Nat) (k j : Nat), (∃ x : Nat, L[j]? = some x ∧ (x : Int) = i) → (∀ m, m < j → ∀ y, L[m]? = some y → (y : Int) ≠ i) → idxFrom i k L = ((k + j : Nat) : Int) := by
  intro L
  induction L with
  | nil => intro k j ⟨x, h, _⟩; simp at h
  | cons y r ih =>
    intro k j ⟨x, h, hx⟩ hn
    unfold idxFrom
    cases j with
    | zero => simp at h; subst h; rw [if_pos hx]; simp
    | succ j =>
      rw [if_neg (hn 0 (by omega) y (by simp))]
      rw [ih (k + 1) j ⟨x, by simpa using h, hx⟩ (fun m hm z hz => hn (m + 1) (by omega) z (by simpa using hz))]
      congr 1; omega
theorem idxOf_cases (L : List Nat) (i : Int) : (idxOf L i = -1 ∧ ∀ x ∈ L, (x : Int) ≠ i) ∨ ∃ (j x : Nat), L[j]? = some x ∧ (x : Int) = i ∧ idxOf L i = (j : Int) ∧ ∀ m, m < j → ∀ y, L[m]? = some y → (y : Int) ≠ i := by
  by_cases h : ∃ x ∈ L, (x : Int) = i
  · right
    have hex : ∃ j : Nat, ∃ x : Nat, L[j]? = some x ∧ (x : Int) = i := by
      obtain ⟨x, hx, hi⟩ := h
      obtain ⟨j, hj, e⟩ := List.mem_iff_getElem.1 hx
      exact ⟨j, x, by rw [List.getElem?_eq_getElem hj, e], hi⟩
    clear h
    obtain ⟨j, hj, hmin⟩ : ∃ j : Nat, (∃ x : Nat, L[j]? = some x ∧ (x : Int) = i) ∧ ∀ m, m < j → ¬ ∃ x, L[m]? = some x ∧ (x : Int) = i := by
      obtain ⟨j0, h0⟩ := hex
      induction j0 using Nat.strongRecOn with
      | _ j0 ih =>
        by_cases hm : ∃ m, m < j0 ∧ ∃ x, L[m]? = some x ∧ (x : Int) = i
        · obtain ⟨m, hlt, hx⟩ := hm
          exact ih m hlt hx
        · exact ⟨j0, h0, fun m hlt hx => hm ⟨m, hlt, hx⟩⟩
    obtain ⟨x, hx, hi⟩ := hj
    have hno : ∀ m, m < j → ∀ y, L[m]? = some y → (y : Int) ≠ i := fun m hm y hy e => hmin m hm ⟨y, hy, e⟩
    refine ⟨j, x, hx, hi, ?_, hno⟩
    have := idxFrom_some L 0 j ⟨x, hx, hi⟩ hno
    rw [Nat.zero_add] at this
    exact this
  · left
    have hn : ∀ x ∈ L, (x : Int) ≠ i := fun x hx e => h ⟨x, hx, e⟩
    exact ⟨idxFrom_none L 0 hn, hn⟩
/-- Two places at which the same stands are one. -/
theorem idx_unique {L : List Nat} (hd : L.Nodup) {i : Int} {k x : Nat} (hk : L[k]? = some x) (hx : (x : Int) = i) : idxOf L i = (k : Int) := by
  rcases idxOf_cases L i with ⟨_, h⟩ | ⟨j, y, hj, hy, he, hno⟩
  · exact absurd hx (h x (List.mem_of_getElem? hk))
  · rw [he]
    have e : x = y := by omega
    subst e
    have h1 := (List.getElem?_eq_some_iff.1 hk)
    have h2 := (List.getElem?_eq_some_iff.1 hj)
    obtain ⟨a1, b1⟩ := h1
    obtain ⟨a2, b2⟩ := h2
    have hp := List.pairwise_iff_getElem.1 hd
    rcases Nat.lt_trichotomy k j with h | h | h
    · exact absurd (by rw [b1, b2]) (hp k j a1 a2 h)
    · rw [h]
    · exact absurd (by rw [b1, b2]) (hp j k a2 a1 h)
theorem step_hit {L : List Nat} (hd : L.Nodup) {i by_ : Int} {k j x y : Nat} (hk : L[k]? = some x) (hx : (x : Int) = i) (hj : L[j]? = some y) (hby : (j : Int) - k = by_) : stepL L i by_ = (y : Int) := by
  have hi := idx_unique hd hk hx
  have hl := (List.getElem?_eq_some_iff.1 hj).1
  unfold stepL
  rw [hi, if_pos (by omega), show ((k : Int) + by_).toNat = j by omega, List.getD_eq_getElem?_getD, hj]
  rfl
theorem step_miss {L : List Nat} {i by_ : Int} (h : ∀ k j : Nat, k < L.length → j < L.length → ((L.getD k 0 : Nat) : Int) = i → (j : Int) - k ≠ by_) : stepL L i by_ = -1 := by
  unfold stepL
  rcases idxOf_cases L i with ⟨he, _⟩ | ⟨k, x, hk, hx, he, _⟩
  · rw [he, if_neg (by omega)]
  · rw [he, if_neg ?_]
    intro ⟨_, h2, h3⟩
    have hl := (List.getElem?_eq_some_iff.1 hk).1
    refine h k ((k : Int) + by_).toNat hl (by omega) ?_ (by omega)
    rw [List.getD_eq_getElem?_getD, hk]
    exact hx

theorem _root_.Go.Proofs.Ytmmhkjdnejeooaa.Rd.ints_at {w : World} {T : Nat → Prop} {A : Option Addr} {n c : Nat} {L : List Nat} (h : Rd w T 1 (.slice A n c) L.length (ints L)) {k x : Nat} (hx : L[k]? = some x) : ∃ b off, A = some ⟨b, off, none⟩ ∧ T b ∧ w.cell? ⟨b, off + k, none⟩ = some (.int .i64 x) := by
  obtain ⟨hl, A', c', hv, h1, h2, h3⟩ := h
  simp only [Value.slice.injEq] at hv
  obtain ⟨rfl, rfl, rfl⟩ := hv
  have hk := (List.getElem?_eq_some_iff.1 hx).1
  obtain ⟨b, off, e, hT, hc⟩ := h3 (by rw [ints_len]; omega)
  exact ⟨b, off, e, hT, hc k _ (by unfold ints; rw [List.getElem?_map, hx]; rfl)⟩
end Go.Proofs.Ytmmhkjdnejeooaa.T

namespace Go.Proofs.Ytmmhkjdnejeooaa.T
open Go.RowKit Go.Shelf

noncomputable def kidsOf (t : List Node) (i : Int) : List Nat := if placeB t i then kidsL t i.toNat else []

set_option maxRecDepth 20000 in
set_option maxHeartbeats 4000000 in
theorem ref_kids (v : Value) (t : List Node) (i : Int) (w : World) (h4 : t.length ≤ 140737488355) (hN : Nds w (Old w) v t) :
    Calls Try.prog 44 #[v, .int .i64 i] w fun r w' => (∃ u, r = .returned u ∧ Hid (Mine w' w.heap.size 3 1 u (kidsOf t i).length (ints (kidsOf t i)))) ∧ Below w.heap.size w w' := by
  have HN := hidden hN
  have HR := hidden (fun (w' : World) (hw : Below w.heap.size w w') => ref_place v t i w' h4 (hN.old hw))
  unfold kidsOf
  have HI := int_info
  have hb := (Below.refl w.heap.size w).alloc (Nat.le_refl _) (.cells #[] 3)
  have HM0 : Hid (Mine (w.alloc (.cells #[] 3)) w.heap.size 3 1 (.slice (some ⟨w.heap.size, 0, none⟩) 0 0) 0 []) := hidden (.inr ⟨rfl, rfl, _, rfl⟩)
  cases hp : placeB t i with
  | false =>
    obtain ⟨A, c, rfl, hc1, hc2⟩ := hN.value
    unfold maxLen at hc2
    clear hN HN
    rw [hp] at HR
    clear hp
    go_enter Try.func44, Try.ntmps44
    go_wp2_with fail
    refine (HR.out _ hb).mono ?_
    rintro r2 w2 ⟨rfl, hb2⟩
    replace HM0 := hidden (HM0.out.below hb2)
    replace hb := hb.trans (hb2.mono hb.size)
    go_wp2
    go_ret
    exact ⟨⟨_, rfl, HM0⟩, hb⟩
  | true =>
    rw [hp] at HR
    obtain ⟨p1, p2, p3⟩ := placeB_iff.1 hp
    obtain ⟨I, rfl⟩ := Int.eq_ofNat_of_zero_le p1
    obtain ⟨b, off, c, rfl, hc1, hc2, _, _⟩ := hN.open_ (by intro e; subst e; simp at p2; omega)
    unfold maxLen at hc2
    have HT := hidden p3
    have p2 : I < t.length := by omega
    simp only [Int.toNat_natCast, if_true]
    clear hN p3 hp p1
    have hS := (tree_node HT.out p2).2.1
    have HK : Hid (∀ k, I < k → k < I + sz t I → k < t.length ∧ 1 ≤ sz t k ∧ k + sz t k ≤ I + sz t I) := hidden (fun k a b => tree_step HT.out p2 a b)
    have HC : Hid (∀ (w' : World), Below w.heap.size w w' → ∀ k, k < t.length → w'.cell? ⟨b, off + k * 5 + 2, none⟩ = some (.int .i64 (sz t k))) := hidden (fun w' hw k hk => (HN.out.old hw).size_cell HT.out hk)
    have HL0 : Hid (kidsL t I = [] ++ kidsFrom t (I + sz t I) (I + 1)) := hidden (by simp [kidsL])
    have hle0 : I + 1 ≤ I + sz t I := by have := (tree_node HT.out p2).1; omega
    go_enter Try.func44, Try.ntmps44
    go_wp2_with fail
    refine (HR.out _ hb).mono ?_
    rintro r2 w2 ⟨rfl, hb2⟩
    replace HM0 := hidden (HM0.out.below hb2)
    replace hb := hb.trans (hb2.mono hb.size)
    clear hb2 HR
    go_wp2
    go_loopw [5, 6] (fun l kk wr => ∃ (k : Nat) (pre : List Nat), I < k ∧ k ≤ I + sz t I ∧ kk = .int .i64 k ∧ pre.length ≤ k ∧ Hid (kidsL t I = pre ++ kidsFrom t (I + sz t I) k) ∧ Hid (Mine wr w.heap.size 3 1 l pre.length (ints pre)) ∧ Below w.heap.size w wr) (fun _ kk _ => I + sz t I - (intOf kk).toNat)
    case atStart => exact ⟨I + 1, [], by omega, hle0, by go_num, by simp, HL0, HM0, hb⟩
    case round =>
      clear hb HM0 HL0
      obtain ⟨k, pre, hk1, hk2, rfl, hpl, HL, HM, hb⟩ := hrel
      have hbz := hb.size
      have yi := HC.out _ hb I p2
      by_cases hlt : k < I + sz t I
      · obtain ⟨g1, g2, g3⟩ := HK.out k hk1 hlt
        have yk := HC.out _ hb k g1
        have HL2 : Hid (kidsL t I = (pre ++ [k]) ++ kidsFrom t (I + sz t I) (k + sz t k)) := hidden (by
          rw [HL.out, kidsFrom_lt hlt g2]; simp)
        have HYK := hidden (fun w' (hw : Below w.heap.size w w') => HC.out w' hw k g1)
        clear HL yk
        go_wp2_with (at_builtin; refine wpList_append_int rfl _ _ 57 3 3 rfl (by kernel_rfl) HI w.heap.size _ _ _ HM _ rfl rfl rfl (by first | rfl | simp) (by omega) hbz ?_; intro v' w' hA; have hbb := (hb.alloc hbz _).trans hA.out.below; have yk := HYK.out _ hbb)
        go_roundw
        case rel =>
          refine ⟨k + sz t k, pre ++ [k], by omega, by omega, by go_num, by simp; omega, HL2, ?_, (hb.alloc hbz _).trans hA.out.below⟩
          rw [ints_snoc, List.length_append]
          exact hidden hA.out.mine
        case measure => simp [intOf]; omega
      · have HL2 : Hid (kidsL t I = pre) := hidden (by rw [HL.out, kidsFrom_ge hlt]; simp)
        clear HL
        go_wp2
        go_ret
        exact ⟨⟨_, rfl, by rw [HL2.out]; exact HM⟩, hb⟩
end Go.Proofs.Ytmmhkjdnejeooaa.T

namespace Go.Proofs.Ytmmhkjdnejeooaa.T
open Go.RowKit Go.Shelf
attribute [local go_sem] Oper.semAt_some

theorem _root_.Go.Proofs.Ytmmhkjdnejeooaa.Mine.own_ge {w : World} {b : Nat} {e : TypeId} {size n : Nat} {v : Value} {xs : List Value} (h : Mine w b e size v n xs) (hn : 0 < n) : ∀ g, v.ownBlock = some g → b ≤ g := by
  intro g hg
  rcases (h.own hn).2 with ⟨rfl, _⟩ | ⟨g', cap, cur, rfl, hb, _⟩
  · cases hg
  · cases hg; exact hb
theorem _root_.Go.Proofs.Ytmmhkjdnejeooaa.Keeps.mono {T T' : Nat → Prop} {W W' : World} (h : Keeps T W W') (hT : ∀ k, T' k → T k) : Keeps T' W W' := ⟨h.size, fun k hk => h.block k (hT k hk)⟩

def ColI (w : World) (t : List Node) (i : Nat) (pre : List (Kid t i)) (W : World) : Prop :=
  ∃ l, Holds W w.heap.size 57 #[l] ∧ Hid (Mine W (w.heap.size + 1) 3 1 l pre.length (ints (pre.map (·.1)))) ∧ Hid (∀ g, l.ownBlock = some g → w.heap.size + 1 ≤ g) ∧ (∃ A c, l = .slice A pre.length c) ∧ Below w.heap.size w W
def ColX (t : List Node) (i : Nat) (_ : Code) (_ : List (Kid t i)) (_ : World) : Prop := False

/-- APPEND, inside a fence: one number, behind the call's own. -/
theorem wpListIn_append_int {F : Fence} {q : Nat} {P : Program} {w W0 : World} {ops : Array Oper} {rest : List Oper} {o : Oper} {a : Act} {Q : Exit → Act → World → Prop} (hgd : o.guard = none) (s x : Operand) (t e : TypeId) (e' : TypeId)
    (ho : o.op = .call { callee := .builtin .append, args := #[s, x], argTypes := #[t, t] }) (ht : P.underlying t = some (.slice e)) (HI : Hid (IntInfo P e)) (base : Nat) (v : Value) (n : Nat) (xs : List Value) (HM : Hid (Mine W0 base e 1 v n xs))
    (u : Int) (hw : w = W0.alloc (.cells #[.int .i64 u] e')) (hs : a.eval s = v) {g : Nat} (hx : a.eval x = .slice (some ⟨g, 0, none⟩) 1 1) (hg : g = W0.heap.size) (hn : n ≤ 1000000000000) (hb : base ≤ W0.heap.size)
    (h : ∀ v' w', Hid (Appended w base e 1 v (n + 1) (xs ++ [.int .i64 u]) v' w') → wpListIn F q P ops Q rest (a.put o.dst v') w') : wpListIn F q P ops Q (o :: rest) a w := by
  obtain ⟨i, hi, hz, hsz, hby⟩ := HI.out
  subst hw hg
  refine wpListIn_append_rd hgd s x t ho base e i (.int .i64 0) 1 8 ht hi hz hsz hby rfl (by decide) v n xs hs (HM.out.alloc _) (T := fun _ => True) _ 1 [.int .i64 u] hx ?_ ?_ (by omega) (by decide) (Nat.le_trans hb (by simp)) (fun v' w' hA => h v' w' (hidden hA))
  · exact Rd.fresh (cs := [.int .i64 u]) (n := 1) (size := 1) rfl (Nat.le_refl _) (by decide) trivial rfl
  · intro u hu; simp at hu; subst hu; rfl

set_option maxRecDepth 20000 in
set_option maxHeartbeats 4000000 in
theorem append_seq_kids (t : List Node) (i : Nat) (hlen : (kidsL t i).length ≤ 140737488355) (Bi Bt : Nat) (w : World)
    (hseq : SeqStopsK Fence.wide 4 Try.prog 93 #[.pointer (some ⟨Bi, 0, none⟩), .pointer (some ⟨Bt, 0, none⟩)] encK (Keeps (fun k => k < w.heap.size)) (fun ys : List (Kid t i) => ys.map (·.1) = kidsL t i) (fun pre => pre.map (·.1) <+: kidsL t i) (kidsL t i).length w) :
    Calls Try.prog 92 #[.slice none 0 0, .func (.func 93) #[] #[.pointer (some ⟨Bi, 0, none⟩), .pointer (some ⟨Bt, 0, none⟩)]] w
      fun r w' => (∃ u, r = .returned u ∧ Hid (Mine w' w.heap.size 3 1 u (kidsL t i).length (ints (kidsL t i)))) ∧ Below w.heap.size w w' := by
  have HI := int_info
  (refine (callsIn_wide (n := 5)).1 ?_; refine callsIn_of_wp_marks Try.func92 rfl trivial ?_ rfl; simp only [Try.ntmps92, List.size_toArray, List.length_cons, List.length_nil, Nat.reduceAdd, Nat.reduceSub, Array.replicate_succ, Array.replicate_zero, List.push_toArray, List.append_toArray, List.nil_append, List.cons_append])
  gi_wp2
  refine range_law (by omega) rfl (enters_of Try.func93 (by kernel_rfl) rfl) hseq ((Below.refl _ w).alloc (Nat.le_refl _) _) (by intro k hk; simp; omega) (fun _ => rfl)
    (ColI w t i) (ColX t i) ?i0 ?ix ?start ?round ?done ?stop
  case i0 =>
    rintro pre W W' ⟨l, h0, h1, h2, h3, hb⟩ hc
    exact ⟨l, hc.holds h0, hidden (h1.out.calm hc), h2, h3, hb.trans (hc.below (by simp) hb.size)⟩
  case ix => exact fun c s W W' h => h.elim
  case start => exact ⟨_, Holds.new w _ _, hidden (Mine.nil _ _ _ _), hidden (fun g hg => by cases hg), ⟨none, 0, rfl⟩, (by repeat (first | (with_reducible exact Below.refl _ _) | (with_reducible assumption) | (with_reducible refine Below.drew ?_) | (with_reducible refine below_drewN ?_ _) | ((with_reducible refine below_alloc ?_ ?_); (focus (first | omega | (simp; done) | (simp; omega)))) | ((with_reducible refine below_set ?_ ?_); (focus (first | omega | (simp; done) | (simp; omega))))))⟩
  case round =>
    rintro l pre x W ⟨u, h0, h1, h2, h3, hb⟩
    dsimp only [encK]
    gi_wp2
    refine ⟨KeepsOthers.refl _, Keeps.refl _ _, ⟨u, h0, h1, h2, h3, hb⟩, ?_⟩
    clear h0 h1 h2 h3 hb
    rintro W2 l2 pre2 hc2 ⟨u, h0, HM, h2, h3, hb⟩ hlen2 hl2 hr2
    obtain ⟨xk, hx1, hx2⟩ := x
    have hbz := hb.size
    have c0 := h0.c0; have f0 := h0.frozen 0; have l0 := h0.lt
    dsimp only at *
    obtain ⟨A, c, rfl⟩ := h3
    gi_wp2_with (gi_at_builtin; refine wpListIn_append_int rfl _ _ 57 3 3 rfl (by kernel_rfl) HI (w.heap.size + 1) _ _ _ HM _ rfl rfl rfl (by first | rfl | simp) (by omega) (by omega) ?_; intro v' w' hA; have h0' := hA.out.keeps.holds (g := w.heap.size) (fun e => by have := h2.out _ e; omega) (h0.alloc _); have c1 := h0'.c0; have f1 := h0'.frozen 0; obtain ⟨A', c', rfl⟩ := hA.out.mine.value)
    have hAm := hA.out
    have hT : ∀ k, k < w.heap.size → (Value.slice A pre2.length c).ownBlock ≠ some k := fun k hk e => by have := h2.out k e; omega
    have kk : KeepsOthers W2 w' := (KeepsOthers.alloc W2 _).trans hAm.others
    have hge := hAm.mine.own_ge (by omega)
    have hb1 : Below w.heap.size w w' := (hb.alloc hbz _).trans (hAm.below.mono (by omega))
    refine ⟨kk.trans (KeepsOthers.setCell _ _ _), ?_, ⟨_, h0'.set 0 _, hidden ?_, hidden hge, ⟨A', c', by simp⟩, hb1.setCell (p := ⟨_, _, none⟩) (Nat.le_refl _) _⟩⟩
    · refine Keeps.setCell (p := ⟨_, _, none⟩) ?_ (by dsimp only; omega) _
      exact ((Keeps.refl _ _).alloc _).trans (hAm.keeps.mono hT)
    · have := hAm.mine.set (p := ⟨w.heap.size, 0, none⟩) (fun e => by have := hge _ e; dsimp only at this; omega) (.slice A' (pre2.length + 1) c')
      simpa [ints] using this
  case done =>
    rintro D xs W hD hS ⟨u, h0, HM, h2, h3, hb⟩ hK
    have c0 := h0.c0
    obtain ⟨A, c, rfl⟩ := h3
    gi_wp2
    refine leaves_marks (B := w.heap.size) [D] _ ⟨by simp, ?_⟩ ?_
    · intro D' hD'
      simp at hD'
      subst hD'
      exact ⟨by simp at hD; omega, hK⟩
    · intro W' hc
      refine ⟨.slice A xs.length c, ?_, ⟨_, rfl, ?_⟩, hb.trans (hc.below (Nat.le_refl _) hb.size)⟩
      · simp [results, Try.f92, go_sem]
      · rw [← hS, List.length_map]
        exact hidden ((HM.out.calm hc).base (by omega))
  case stop => exact fun D c pre W hD hS hX hK => hX.elim

def SeqAt (t : List Node) (i Bi Bt : Nat) (w : World) : Prop :=
  SeqStopsK Fence.wide 4 Try.prog 93 #[.pointer (some ⟨Bi, 0, none⟩), .pointer (some ⟨Bt, 0, none⟩)] encK (Keeps (fun k => k < w.heap.size)) (fun ys : List (Kid t i) => ys.map (·.1) = kidsL t i) (fun pre => pre.map (·.1) <+: kidsL t i) (kidsL t i).length w

theorem collect_kids (t : List Node) (i : Nat) (hlen : (kidsL t i).length ≤ 140737488355) (Bi Bt : Nat) (w : World) (hseq : SeqAt t i Bi Bt w) :
    Calls Try.prog 84 #[.func (.func 93) #[] #[.pointer (some ⟨Bi, 0, none⟩), .pointer (some ⟨Bt, 0, none⟩)]] w
      fun r w' => (∃ u, r = .returned u ∧ Hid (Mine w' w.heap.size 3 1 u (kidsL t i).length (ints (kidsL t i)))) ∧ Below w.heap.size w w' := by
  have HA := hidden (append_seq_kids t i hlen Bi Bt w hseq)
  clear hseq
  go_enter Try.func84, Try.ntmps84
  go_wp2_with fail
  refine HA.out.mono ?_
  rintro r w2 ⟨⟨u, rfl, HM⟩, hb⟩
  go_wp2
  go_ret
  exact ⟨⟨_, rfl, HM⟩, hb⟩

theorem kidsL_len {t : List Node} (i : Nat) : (kidsL t i).length ≤ sz t i := by
  unfold kidsL
  have := kidsFrom_len t (i + sz t i) _ (i + 1) (Nat.le_refl _)
  omega

set_option maxRecDepth 20000 in
set_option maxHeartbeats 4000000 in
theorem arena_Kids (v : Value) (t : List Node) (i : Int) (w : World) (h4 : t.length ≤ 140737488355) (hN : Nds w (Old w) v t) :
    Calls Try.prog 66 #[v, .int .i64 i] w fun r w' => (∃ u, r = .returned u ∧ Hid (Mine w' w.heap.size 3 1 u (kidsOf t i).length (ints (kidsOf t i)))) ∧ Below w.heap.size w w' := by
  have HN := hidden hN
  have HR := hidden (arena_place v t i w h4 hN)
  unfold kidsOf
  obtain ⟨A, c, rfl, hc1, hc2⟩ := hN.value
  unfold maxLen at hc2
  cases hp : placeB t i with
  | false =>
    clear hN HN
    rw [hp] at HR
    clear hp
    go_enter Try.func66, Try.ntmps66
    go_wp2_with fail
    refine (HR.out).mono ?_
    rintro r2 w2 ⟨rfl, hb⟩
    go_wp2
    go_ret
    exact ⟨⟨_, rfl, hidden (Mine.nil _ _ _ _)⟩, hb⟩
  | true =>
    rw [hp] at HR
    obtain ⟨p1, p2, p3⟩ := placeB_iff.1 hp
    obtain ⟨I, rfl⟩ := Int.eq_ofNat_of_zero_le p1
    have HT := hidden p3
    have p2 : I < t.length := by omega
    simp only [Int.toNat_natCast, if_true]
    clear hN p3 hp p1
    go_enter Try.func66, Try.ntmps66
    go_wp2_with fail
    refine (HR.out).mono ?_
    rintro r2 w2 ⟨rfl, hb⟩
    have hbz := hb.size
    have HN2 := hidden (HN.out.old hb)
    have HQ := hidden (kids1_stops 4 (by omega) (w2.heap.size + 1) w2.heap.size (fun k => k < ((w2.alloc (.cells #[.slice A t.length c] 27)).alloc (.cells #[.int .i64 (I : Int)] 3)).heap.size) t I (.slice A t.length c) h4 HT.out p2
      ((w2.alloc (.cells #[.slice A t.length c] 27)).alloc (.cells #[.int .i64 (I : Int)] 3)) (fun k h => h) (by simp) (by simp; omega) (by go_simp) (by go_simp) (((HN2.out.alloc _).alloc _).mono (fun k hk => by have : k < w2.heap.size := hk; simp; omega)))
    have hlen : (kidsL t I).length ≤ 140737488355 := by have := kidsL_len (t := t) I; have := (tree_node HT.out p2).2.1; omega
    go_wp2_with (go_at_call 85; refine (arena_kids _ _ _ _ _ rfl _).mono ?_; rintro e w' ⟨rfl, rfl⟩)
    refine (collect_kids t I hlen _ _ _ HQ.out).mono ?_
    rintro r w3 ⟨⟨u, rfl, HM⟩, hb3⟩
    go_wp2
    go_ret
    refine ⟨⟨_, rfl, hidden (HM.out.base (by simp; omega))⟩, ?_⟩
    exact ((hb.alloc hbz _).alloc (by simp; omega) _).trans (hb3.mono (by simp; omega))
end Go.Proofs.Ytmmhkjdnejeooaa.T

namespace Go.Proofs.Ytmmhkjdnejeooaa.T
open Go.RowKit Go.Shelf

set_option maxRecDepth 20000 in
set_option maxHeartbeats 2000000 in
theorem few_any (v : Value) (t : List Node) (w : World) (h : Nds w (Old w) v t) :
    Calls Try.prog 6 #[v] w fun e w' => e = .returned (.bool (fewB t)) ∧ Below w.heap.size w w' := by
  by_cases hm : t.length ≤ 120
  · exact few v t w h (by omega)
  obtain ⟨A, c, rfl, hc1, hc2⟩ := h.value
  unfold maxLen at hc2
  have hn := h.later (Below.refl _ w)
  have HF : Hid (fewB t = false) := hidden (by unfold fewB; simp; omega)
  go_enter Try.func6, Try.ntmps6
  go_wp2
  go_loopw [3, 4] (fun n i wr => ∃ (k : Nat) (z : Int), k ≤ t.length ∧ i = .int .i64 k ∧ n = .int .i64 z ∧ Nds wr (fun k => k < w.heap.size) (.slice A t.length c) t ∧ Below w.heap.size w wr) (fun _ i _ => t.length - (intOf i).toNat)
  case atStart => exact ⟨0, 0, Nat.zero_le _, rfl, rfl, hn, Below.refl _ _⟩
  case round =>
    clear hn h
    obtain ⟨k, z, hk, rfl, rfl, h, hb⟩ := hrel
    by_cases hlt : k < t.length
    · obtain ⟨b, off, c', hv, _, _, hT, hat⟩ := h.open_ (by intro e; subst e; simp at hlt)
      simp only [Value.slice.injEq] at hv
      obtain ⟨rfl, _, rfl⟩ := hv
      obtain ⟨l, x0, x1, x2, x3, x4, hp⟩ := hat k _ (List.getElem?_eq_getElem hlt)
      obtain ⟨A', c'', rfl, g1, g2⟩ := hp.value
      unfold maxLen at g2
      clear hat hp x0 x1 x2
      have y3 := Ext.cell x3; have y4 := Ext.cell x4
      generalize t[k] = x at *
      go_wp2_with fail
      refine wp_region_ext (by kernel_rfl) (by kernel_rfl) ?_
      repeat (go_big_quiet_step (fail))
      refine wpQuiet_nil ?_
      simp only [min_if]
      intro w2 hb2
      clear y3 y4 x3 x4
      replace h := h.later (hb2.mono hb.size)
      replace hb := hb.trans (hb2.mono hb.size)
      go_wp2
      go_roundw
      case rel => exact ⟨k + 1, _, by omega, by go_num, rfl, h, hb⟩
      case measure => simp [intOf]; omega
    · obtain rfl : k = t.length := by omega
      have q1 : decide ((t.length : Int) ≤ 120) = false := by simp; omega
      go_wp2
      all_goals (go_ret; exact ⟨by rw [HF.out]; rfl, hb⟩)
end Go.Proofs.Ytmmhkjdnejeooaa.T
