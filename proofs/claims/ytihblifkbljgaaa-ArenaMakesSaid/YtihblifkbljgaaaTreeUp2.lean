/-
  arena.Up.
-/
import Derived.Test.YtihblifkbljgaaaTreeKids
import Derived.Test.YtihblifkbljgaaaRound
import Derived.Sort.LoopGhostIn
namespace Go.Proofs.Ytihblifkbljgaaa
open Go.RowKit Go.Shelf
attribute [local go_sem] Oper.semAt_some

theorem Marks.calm {B B' : Nat} {W W' : World} {Ds : List Nat} (h : Marks B W Ds) (hD : ∀ D ∈ Ds, D < B') (hc : Calm B' W W') : Marks B W' Ds :=
  ⟨h.1, fun D hd => ⟨(h.2 D hd).1, hc.block D _ (h.2 D hd).2 (.inl (hD D hd))⟩⟩
theorem Marks.others {B : Nat} {W W' : World} {Ds : List Nat} (h : Marks B W Ds) (hk : KeepsOthers W W') : Marks B W' Ds :=
  ⟨h.1, fun D hd => ⟨(h.2 D hd).1, keeps_deferred hk (h.2 D hd).2⟩⟩
theorem Marks.lt {B : Nat} {W : World} {Ds : List Nat} (h : Marks B W Ds) : ∀ D ∈ Ds, D < W.heap.size := fun D hd => (Array.getElem?_eq_some_iff.1 (h.2 D hd).2).1
theorem Marks.cons {B D : Nat} {W : World} {Ds : List Nat} (h : Marks B W Ds) (hB : B ≤ D) (hn : ∀ E ∈ Ds, E < D) (hD : W.heap[D]? = some (.deferred (some []))) : Marks B W (D :: Ds) :=
  ⟨List.nodup_cons.2 ⟨fun hm => by have := hn D hm; omega, h.1⟩, fun E hE => by
    rw [List.mem_cons] at hE
    rcases hE with rfl | hE
    · exact ⟨hB, hD⟩
    · exact h.2 E hE⟩

/-- Between two turns. -/
structure UpI (w : World) (v : Value) (I at_ Ba : Nat) (Ds : List Nat) (W : World) : Prop where
  b0 : Holds W w.heap.size 22 #[v]
  b1 : Holds W (w.heap.size + 1) 3 #[.int .i64 I]
  b2 : Holds W (w.heap.size + 1 + 1) 3 #[.int .i64 0]
  ba : Holds W Ba 3 #[.int .i64 at_]
  hBa : w.heap.size + 1 + 1 < Ba
  below : Below w.heap.size w W
  marks : Marks w.heap.size W Ds

theorem UpI.calm {w W W' : World} {v : Value} {I at_ Ba B' : Nat} {Ds : List Nat} (h : UpI w v I at_ Ba Ds W) (hB : w.heap.size ≤ B') (hD : ∀ D ∈ Ds, D < B') (hc : Calm B' W W') : UpI w v I at_ Ba Ds W' :=
  ⟨hc.holds h.b0, hc.holds h.b1, hc.holds h.b2, hc.holds h.ba, h.hBa, h.below.trans (hc.below hB h.below.size), h.marks.calm hD hc⟩

theorem UpI.alloc {w W : World} {v : Value} {I at_ Ba : Nat} {Ds : List Nat} (h : UpI w v I at_ Ba Ds W) (o : Obj) : UpI w v I at_ Ba Ds (W.alloc o) :=
  ⟨h.b0.alloc o, h.b1.alloc o, h.b2.alloc o, h.ba.alloc o, h.hBa, h.below.alloc h.below.size o, ⟨h.marks.1, fun D hd => ⟨(h.marks.2 D hd).1, (Below.heap_alloc W o D (h.marks.lt D hd)).trans (h.marks.2 D hd).2⟩⟩⟩

/-- The kids that are past end at or ahead of i; so does all that is beneath them. -/
theorem past_all {t : List Node} (ht : Tree t) {i a : Nat} (ha : a < t.length) : ∀ (pre : List Nat) (k : Nat), (∃ r, kidsFrom t (a + sz t a) k = pre ++ i :: r) → a < k → (∀ m, a < m → m < k → m + sz t m ≤ k) →
    (∀ m, a < m → m < i → m + sz t m ≤ i) ∧ i < a + sz t a ∧ a < i := by
  intro pre
  induction pre with
  | nil =>
    intro k ⟨r, hr⟩ hk h
    by_cases hlt : k < a + sz t a
    · obtain ⟨g1, g2, g3⟩ := tree_step ht ha hk hlt
      rw [kidsFrom_lt hlt g2] at hr
      simp at hr
      obtain ⟨rfl, _⟩ := hr
      exact ⟨h, hlt, hk⟩
    · rw [kidsFrom_ge hlt] at hr; simp at hr
  | cons y pre ih =>
    intro k ⟨r, hr⟩ hk h
    by_cases hlt : k < a + sz t a
    · obtain ⟨g1, g2, g3⟩ := tree_step ht ha hk hlt
      rw [kidsFrom_lt hlt g2] at hr
      simp at hr
      obtain ⟨rfl, hr⟩ := hr
      refine ih (k + sz t k) ⟨r, hr⟩ (by omega) (fun m a1 a2 => ?_)
      by_cases e : m < k
      · have := h m a1 e; omega
      · by_cases e2 : m = k
        · subst e2; exact Nat.le_refl _
        · exact (tree_step ht g1 (by omega) a2).2.2
    · rw [kidsFrom_ge hlt] at hr; simp at hr

theorem upN_of {t : List Node} {i a : Nat} (ha : a < i) (h : i < a + sz t a) (hp : ∀ m, a < m → m < i → m + sz t m ≤ i) : ∀ j, a < j → j ≤ i → upN t i j = a := by
  intro j
  induction j with
  | zero => intro h; omega
  | succ k ih =>
    intro h1 h2
    unfold upN
    by_cases e : k = a
    · subst e; rw [if_pos h]
    · have := hp k (by omega) (by omega)
      rw [if_neg (by omega)]
      exact ih (by omega) (by omega)
/-- Where one kid of a is i, and i is in a's stretch, the other's up is a. -/
theorem up_found {t : List Node} (ht : Tree t) {i a : Nat} (ha : a < t.length) {pre : List Nat} (hp : (pre ++ [i]) <+: kidsL t a) : upN t i i = a := by
  obtain ⟨r, hr⟩ := hp
  obtain ⟨h1, h2, h3⟩ := past_all (i := i) ht ha pre (a + 1) ⟨r, by unfold kidsL at hr; rw [← hr]; simp⟩ (by omega) (fun m a1 a2 => by omega)
  exact upN_of h3 h2 h1 i h3 (Nat.le_refl _)
/-- Not all the kids end ahead of a place in the stretch. -/
theorem kids_hit {t : List Node} (ht : Tree t) {i a : Nat} (ha : a < t.length) (hi : i < a + sz t a) : ∀ n k, a + sz t a - k ≤ n → a < k → k ≤ i → ¬ (∀ x ∈ kidsFrom t (a + sz t a) k, x + sz t x ≤ i) := by
  intro n
  induction n with
  | zero => intro k h1 h2 h3; omega
  | succ n ih =>
    intro k h1 h2 h3 h
    have hlt : k < a + sz t a := by omega
    obtain ⟨g1, g2, g3⟩ := tree_step ht ha h2 hlt
    rw [kidsFrom_lt hlt g2] at h
    have hk := h k (by simp)
    exact ih (k + sz t k) (by omega) (by omega) hk (fun x hx => h x (by simp [hx]))
/-- The next kid stands at or ahead of i where all that are past end there. -/
theorem kids_next {t : List Node} (ht : Tree t) {i a : Nat} (ha : a < t.length) : ∀ (pre : List Nat) (x k : Nat), (∃ r, kidsFrom t (a + sz t a) k = pre ++ x :: r) → a < k → k ≤ i → (∀ y ∈ pre, y + sz t y ≤ i) → x ≤ i := by
  intro pre
  induction pre with
  | nil =>
    intro x k ⟨r, hr⟩ hk hi _
    by_cases hlt : k < a + sz t a
    · obtain ⟨g1, g2, g3⟩ := tree_step ht ha hk hlt
      rw [kidsFrom_lt hlt g2] at hr
      simp at hr
      omega
    · rw [kidsFrom_ge hlt] at hr; simp at hr
  | cons y pre ih =>
    intro x k ⟨r, hr⟩ hk hi hy
    by_cases hlt : k < a + sz t a
    · obtain ⟨g1, g2, g3⟩ := tree_step ht ha hk hlt
      rw [kidsFrom_lt hlt g2] at hr
      simp at hr
      obtain ⟨rfl, hr⟩ := hr
      exact ih x (k + sz t k) ⟨r, hr⟩ (by omega) (hy k (by simp)) (fun z hz => hy z (by simp [hz]))
    · rw [kidsFrom_ge hlt] at hr; simp at hr
end Go.Proofs.Ytihblifkbljgaaa
