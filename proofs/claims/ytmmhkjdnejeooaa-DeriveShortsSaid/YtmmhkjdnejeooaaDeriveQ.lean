/-
  The document's passes end where the others end (plain).
-/
import Derived.Test.YtmmhkjdnejeooaaDeriveS
namespace Go.Proofs.Ytmmhkjdnejeooaa.T
open Go.RowKit Go.Shelf

/-- At least so much, where what is not known is more than all. -/
def geI (x y : Int) : Prop := x < 0 ∨ (0 ≤ y ∧ y ≤ x)
def geS (S T : List Int) : Prop := ∀ i : Int, geI (szI S i) (szI T i)
theorem geI_refl (x : Int) : geI x x := by unfold geI; omega
theorem geI_trans {x y z : Int} (h1 : geI x y) (h2 : geI y z) : geI x z := by unfold geI at *; omega
theorem geS_refl (S : List Int) : geS S S := fun _ => geI_refl _
theorem geS_trans {S T U : List Int} (h1 : geS S T) (h2 : geS T U) : geS S U := fun i => geI_trans (h1 i) (h2 i)
theorem countF_mono {S T : List Int} (h : geS S T) : ∀ (l : List Item) (n m : Int), 1 ≤ m → m ≤ n → countF S n l < 0 ∨ (0 ≤ countF T m l ∧ countF T m l ≤ countF S n l) := by
  intro l
  induction l with
  | nil => intro n m h1 h2; right; unfold countF; omega
  | cons y l ih =>
    intro n m h1 h2
    rw [countF, countF]
    split
    · exact ih (n + 1) (m + 1) (by omega) (by omega)
    · have hy := h y.n
      unfold geI at hy
      split
      · exact .inl (by decide)
      · rw [if_neg (by omega)]
        exact ih _ _ (by unfold capD; omega) (by unfold capD; omega)
theorem countP_mono {S T : List Int} (h : geS S T) (p : Prod) : geI (countP S p) (countP T p) := by
  have := countF_mono h p.right 1 1 (by decide) (by decide)
  unfold geI countP
  omega
theorem better_iff {S : List Int} {p : Prod} : betterB S p = true ↔ 0 ≤ countP S p ∧ (szI S p.left < 0 ∨ countP S p < szI S p.left) := by
  unfold betterB
  simp only [Bool.and_eq_true, Bool.or_eq_true, decide_eq_true_eq]
theorem szI_set {S : List Int} {p : Prod} {v : Int} (hl : 0 ≤ p.left ∧ p.left < S.length) (i : Int) (hi : 0 ≤ i) : szI (S.set p.left.toNat v) i = if i = p.left then v else szI S i := by
  unfold szI
  by_cases e : i = p.left
  · rw [if_pos e, e, List.getElem?_set_self (by omega)]; rfl
  · rw [if_neg e, List.getElem?_set_ne (by omega)]
theorem szI_neg (S : List Int) (i : Int) (hi : i < 0) : szI S i = szI S 0 := by unfold szI; rw [show i.toNat = (0 : Int).toNat by omega]
theorem geS_of {S T : List Int} (h : ∀ i : Int, 0 ≤ i → geI (szI S i) (szI T i)) : geS S T := fun i => by
  by_cases hi : 0 ≤ i
  · exact h i hi
  · rw [szI_neg S i (by omega), szI_neg T i (by omega)]; exact h 0 (by omega)
theorem step_le {S : List Int} {p : Prod} (hl : 0 ≤ p.left ∧ p.left < S.length) : geS S (stepS S p) := by
  unfold stepS
  split
  · rename_i hb
    have hb := better_iff.1 hb
    refine geS_of (fun i hi => ?_)
    rw [szI_set hl i hi]
    split
    · rename_i e; rw [e]; unfold geI; omega
    · exact geI_refl _
  · exact geS_refl _
theorem fold_le : ∀ (ps : List Prod) (S : List Int), (∀ p ∈ ps, 0 ≤ p.left ∧ p.left < S.length) → geS S (ps.foldl stepS S) := by
  intro ps
  induction ps with
  | nil => intro S _; exact geS_refl _
  | cons p r ih => intro S h; rw [List.foldl_cons]; exact geS_trans (step_le (h p List.mem_cons_self)) (ih _ (fun q hq => by rw [stepS_len]; exact h q (List.mem_cons_of_mem _ hq)))
/-- What is settled bounds all that comes before it. -/
theorem step_ge {S T : List Int} {p : Prod} (hl : 0 ≤ p.left ∧ p.left < S.length) (h : geS S T) (ht : betterB T p = false) : geS (stepS S p) T := by
  unfold stepS
  split
  · rename_i hb
    have hb := better_iff.1 hb
    have hm := countP_mono h p
    have ht2 : ¬ (0 ≤ countP T p ∧ (szI T p.left < 0 ∨ countP T p < szI T p.left)) := fun e => by rw [better_iff.2 e] at ht; cases ht
    refine geS_of (fun i hi => ?_)
    rw [szI_set hl i hi]
    split
    · rename_i e; rw [e]; unfold geI at hm ⊢; omega
    · exact h i
  · exact h
theorem fold_ge : ∀ (ps : List Prod) (S T : List Int), (∀ p ∈ ps, 0 ≤ p.left ∧ p.left < S.length) → geS S T → (∀ p ∈ ps, betterB T p = false) → geS (ps.foldl stepS S) T := by
  intro ps
  induction ps with
  | nil => intro S T _ h _; exact h
  | cons p r ih => intro S T hl h ht; rw [List.foldl_cons]; exact ih _ _ (fun q hq => by rw [stepS_len]; exact hl q (List.mem_cons_of_mem _ hq)) (step_ge (hl p List.mem_cons_self) h (ht p List.mem_cons_self)) (fun q hq => ht q (List.mem_cons_of_mem _ hq))
theorem start_ge (n : Nat) (T : List Int) : geS (startS n) T := fun i => by
  left
  unfold szI startS
  rw [List.getElem?_replicate]
  split <;> simp
theorem iter_succ (ps : List Prod) (k : Nat) (S : List Int) : iterS ps (k + 1) S = passS ps (iterS ps k S) := by rw [iterS_add]; rfl
theorem iter_ge {ps : List Prod} {n : Nat} {T : List Int} (hl : ∀ p ∈ ps, 0 ≤ p.left ∧ p.left < (n : Int)) (ht : Settled ps T) : ∀ k, geS (iterS ps k (startS n)) T := by
  intro k
  induction k with
  | zero => exact start_ge n T
  | succ k ih =>
    rw [iter_succ]
    have hk : (iterS ps k (startS n)).length = n := reachS_len ⟨k, rfl⟩
    exact fold_ge ps _ T (fun p hp => by rw [hk]; exact hl p hp) ih ht

/-! ### What is known is some production's -/
def InvS (ps : List Prod) (S : List Int) : Prop := ∀ r : Int, 0 ≤ r → 0 ≤ szI S r → ∃ p ∈ ps, p.left = r ∧ 0 ≤ countP S p ∧ countP S p ≤ szI S r
theorem inv_step {ps : List Prod} {S : List Int} {p : Prod} (hp : p ∈ ps) (hl : 0 ≤ p.left ∧ p.left < S.length) (h : InvS ps S) : InvS ps (stepS S p) := by
  have hle := step_le hl
  intro r hr0 hr
  by_cases hb : betterB S p = true
  · have e : stepS S p = S.set p.left.toNat (countP S p) := by unfold stepS; rw [if_pos hb]
    have hb2 := better_iff.1 hb
    by_cases er : r = p.left
    · have hs : szI (stepS S p) r = countP S p := by rw [e, szI_set hl r hr0, if_pos er]
      have hm := countP_mono hle p
      unfold geI at hm
      exact ⟨p, hp, er.symm, by omega, by omega⟩
    · have hs : szI (stepS S p) r = szI S r := by rw [e, szI_set hl r hr0, if_neg er]
      rw [hs] at hr
      obtain ⟨q, hq, h1, h2, h3⟩ := h r hr0 hr
      have hm := countP_mono hle q
      unfold geI at hm
      exact ⟨q, hq, h1, by omega, by omega⟩
  · have e : stepS S p = S := stepS_same (by simpa using hb)
    rw [e] at hr ⊢
    exact h r hr0 hr
theorem inv_fold {qs : List Prod} : ∀ (ps : List Prod) (S : List Int), (∀ p ∈ ps, p ∈ qs) → (∀ p ∈ ps, 0 ≤ p.left ∧ p.left < S.length) → InvS qs S → InvS qs (ps.foldl stepS S) := by
  intro ps
  induction ps with
  | nil => intro S _ _ h; exact h
  | cons p r ih => intro S hm hl h; rw [List.foldl_cons]; exact ih _ (fun q hq => hm q (List.mem_cons_of_mem _ hq)) (fun q hq => by rw [stepS_len]; exact hl q (List.mem_cons_of_mem _ hq)) (inv_step (hm p List.mem_cons_self) (hl p List.mem_cons_self) h)
theorem inv_iter {ps : List Prod} {n : Nat} (hl : ∀ p ∈ ps, 0 ≤ p.left ∧ p.left < (n : Int)) : ∀ k, InvS ps (iterS ps k (startS n)) := by
  intro k
  induction k with
  | zero =>
    intro r hr0 hr
    exfalso
    have := start_ge n (startS n) r
    have h2 : szI (startS n) r < 0 := by unfold szI startS; rw [List.getElem?_replicate]; split <;> simp
    have hr : 0 ≤ szI (startS n) r := hr
    omega
  | succ k ih =>
    rw [iter_succ]
    have hk : (iterS ps k (startS n)).length = n := reachS_len ⟨k, rfl⟩
    exact inv_fold ps _ (fun p hp => hp) (fun p hp => by rw [hk]; exact hl p hp) ih
/-- Where it is settled, what is known is what the production makes. -/
theorem settled_wit {ps : List Prod} {n : Nat} {T : List Int} (hl : ∀ p ∈ ps, 0 ≤ p.left ∧ p.left < (n : Int)) (hr : ReachS ps n T) (ht : Settled ps T) {r : Int} (h0 : 0 ≤ r) (h : 0 ≤ szI T r) : ∃ p ∈ ps, p.left = r ∧ countP T p = szI T r := by
  obtain ⟨k, rfl⟩ := hr
  obtain ⟨p, hp, h1, h2, h3⟩ := inv_iter hl k r h0 h
  refine ⟨p, hp, h1, ?_⟩
  have := ht p hp
  have hn : ¬ (0 ≤ countP (iterS ps k (startS n)) p ∧ (szI (iterS ps k (startS n)) p.left < 0 ∨ countP (iterS ps k (startS n)) p < szI (iterS ps k (startS n)) p.left)) := fun e => by rw [better_iff.2 e] at this; cases this
  rw [h1] at hn
  omega

/-! ### Alike as far as it matters -/
def eqvI (x y : Int) : Prop := x = y ∨ (capD ≤ x ∧ capD ≤ y) ∨ (x < 0 ∧ y < 0)
theorem countF_eqv {S T : List Int} : ∀ (l : List Item) (n : Int), 0 ≤ n → (∀ y ∈ l, y.rule = true → eqvI (szI S y.n) (szI T y.n)) → countF S n l = countF T n l := by
  intro l
  induction l with
  | nil => intro n _ _; rfl
  | cons y l ih =>
    intro n hn h
    have hr := fun z hz => h z (List.mem_cons_of_mem _ hz)
    rw [countF, countF]
    split
    · exact ih _ (by omega) hr
    · rename_i hy
      have := h y List.mem_cons_self (by simpa using hy)
      unfold eqvI capD at this
      rcases this with e | ⟨e1, e2⟩ | ⟨e1, e2⟩
      · rw [e]
        split
        · rfl
        · exact ih _ (by unfold capD; omega) hr
      · rw [if_neg (by omega), if_neg (by omega), show min (n + szI S y.n) capD = min (n + szI T y.n) capD by unfold capD; omega]
        exact ih _ (by unfold capD; omega) hr
      · rw [if_pos e1, if_pos e2]
theorem countF_low {S : List Int} : ∀ (l : List Item) (n : Int), 1 ≤ n → 0 ≤ countF S n l → min n capD ≤ countF S n l := by
  intro l
  induction l with
  | nil => intro n h1 h2; unfold countF; omega
  | cons y l ih =>
    intro n h1 h2
    rw [countF] at h2 ⊢
    split at h2
    · rename_i hy
      rw [if_pos hy]
      have := ih (n + 1) (by omega) h2
      omega
    · rename_i hy
      rw [if_neg hy]
      split at h2
      · omega
      · rename_i hs
        rw [if_neg hs]
        have := ih _ (by unfold capD; omega) h2
        unfold capD at *
        omega
/-- Of a production whose count is no great one each rule has fewer. -/
theorem countF_parts {S : List Int} : ∀ (l : List Item) (n : Int), 1 ≤ n → 0 ≤ countF S n l → (∀ y ∈ l, y.rule = true → 0 ≤ szI S y.n) ∧ (countF S n l < capD → ∀ y ∈ l, y.rule = true → szI S y.n < countF S n l) := by
  intro l
  induction l with
  | nil => intro n _ _; exact ⟨fun y h => (List.not_mem_nil h).elim, fun _ y h => (List.not_mem_nil h).elim⟩
  | cons y l ih =>
    intro n h1 h2
    rw [countF] at h2 ⊢
    split at h2
    · rename_i hy
      rw [if_pos hy]
      obtain ⟨a, b⟩ := ih (n + 1) (by omega) h2
      refine ⟨fun z hz hzr => ?_, fun hc z hz hzr => ?_⟩
      · rcases List.mem_cons.1 hz with rfl | hz
        · rw [hy] at hzr; cases hzr
        · exact a z hz hzr
      · rcases List.mem_cons.1 hz with rfl | hz
        · rw [hy] at hzr; cases hzr
        · exact b hc z hz hzr
    · rename_i hy
      rw [if_neg hy]
      split at h2
      · omega
      · rename_i hs
        rw [if_neg hs]
        obtain ⟨a, b⟩ := ih _ (by unfold capD; omega) h2
        have hlow := countF_low l _ (by unfold capD; omega) h2
        refine ⟨fun z hz hzr => ?_, fun hc z hz hzr => ?_⟩
        · rcases List.mem_cons.1 hz with rfl | hz
          · omega
          · exact a z hz hzr
        · rcases List.mem_cons.1 hz with rfl | hz
          · unfold capD at *; omega
          · exact b hc z hz hzr
theorem countP_eqv {S T : List Int} {p : Prod} (h : ∀ y ∈ p.right, y.rule = true → eqvI (szI S y.n) (szI T y.n)) : countP S p = countP T p := countF_eqv _ _ (by decide) h
theorem eqv_between {x y z : Int} (h1 : geI x y) (h2 : geI y z) (h : eqvI x z) : eqvI y z := by unfold geI eqvI capD at *; omega
/-- A production whose count stays so small makes its rule's so small. -/
theorem fold_hit {T : List Int} {c : Int} {p : Prod} : ∀ (ps : List Prod) (S : List Int), p ∈ ps → (∀ q ∈ ps, 0 ≤ q.left ∧ q.left < S.length) → geS S T → (∀ q ∈ ps, betterB T q = false) → (∀ S' : List Int, geS S S' → geS S' T → 0 ≤ countP S' p ∧ countP S' p ≤ c) →
    0 ≤ szI (ps.foldl stepS S) p.left ∧ szI (ps.foldl stepS S) p.left ≤ c := by
  intro ps
  induction ps with
  | nil => intro S h; cases h
  | cons q r ih =>
    intro S hp hl hge ht h
    rw [List.foldl_cons]
    have hlq := hl q List.mem_cons_self
    have hlr : ∀ z ∈ r, 0 ≤ z.left ∧ z.left < ((stepS S q).length : Int) := fun z hz => by rw [stepS_len]; exact hl z (List.mem_cons_of_mem _ hz)
    have hg2 := step_ge hlq hge (ht q List.mem_cons_self)
    rcases List.mem_cons.1 hp with rfl | hp
    · have h0 := h S (geS_refl _) hge
      have h1 : 0 ≤ szI (stepS S p) p.left ∧ szI (stepS S p) p.left ≤ c := by
        by_cases hb : betterB S p = true
        · have e : stepS S p = S.set p.left.toNat (countP S p) := by unfold stepS; rw [if_pos hb]
          rw [e, szI_set hlq _ hlq.1, if_pos rfl]
          exact h0
        · rw [stepS_same (by simpa using hb)]
          have hn : ¬ (0 ≤ countP S p ∧ (szI S p.left < 0 ∨ countP S p < szI S p.left)) := fun e => hb (better_iff.2 e)
          omega
      have h2 := fold_le r (stepS S p) hlr p.left
      unfold geI at h2
      omega
    · exact ih _ hp hlr hg2 (fun z hz => ht z (List.mem_cons_of_mem _ hz)) (fun S' a b => h S' (geS_trans (step_le hlq) a) b)
/-- Where nothing outside is made of what is inside alone, nothing outside is ever known. -/
theorem closed_fold {K : Int → Prop} {qs : List Prod} (hru : ∀ p ∈ qs, ∀ y ∈ p.right, y.rule = true → 0 ≤ y.n) (hcl : ∀ p ∈ qs, ¬ K p.left → ∃ y ∈ p.right, y.rule = true ∧ ¬ K y.n) : ∀ (ps : List Prod) (S : List Int), (∀ p ∈ ps, p ∈ qs) → (∀ p ∈ ps, 0 ≤ p.left ∧ p.left < S.length) →
    (∀ i : Int, 0 ≤ i → 0 ≤ szI S i → K i) → ∀ i : Int, 0 ≤ i → 0 ≤ szI (ps.foldl stepS S) i → K i := by
  intro ps
  induction ps with
  | nil => intro S _ _ h; exact h
  | cons p r ih =>
    intro S hm hl h
    rw [List.foldl_cons]
    refine ih _ (fun z hz => hm z (List.mem_cons_of_mem _ hz)) (fun z hz => by rw [stepS_len]; exact hl z (List.mem_cons_of_mem _ hz)) (fun i hi0 hi => ?_)
    by_cases hb : betterB S p = true
    · have hlp := hl p List.mem_cons_self
      have e : stepS S p = S.set p.left.toNat (countP S p) := by unfold stepS; rw [if_pos hb]
      rw [e, szI_set hlp i hi0] at hi
      split at hi
      · rename_i ei
        rw [ei]
        apply Classical.byContradiction
        intro hk
        obtain ⟨y, hy, hyr, hyk⟩ := hcl p (hm p List.mem_cons_self) hk
        have := (countF_parts p.right 1 (by decide) hi).1 y hy hyr
        exact hyk (h _ (hru p (hm p List.mem_cons_self) y hy hyr) this)
      · exact h i hi0 hi
    · rw [stepS_same (by simpa using hb)] at hi
      exact h i hi0 hi
theorem closed_iter {K : Int → Prop} {ps : List Prod} {n : Nat} (hl : ∀ p ∈ ps, 0 ≤ p.left ∧ p.left < (n : Int)) (hru : ∀ p ∈ ps, ∀ y ∈ p.right, y.rule = true → 0 ≤ y.n) (hcl : ∀ p ∈ ps, ¬ K p.left → ∃ y ∈ p.right, y.rule = true ∧ ¬ K y.n) : ∀ k, ∀ i : Int, 0 ≤ i → 0 ≤ szI (iterS ps k (startS n)) i → K i := by
  intro k
  induction k with
  | zero =>
    intro i _ hi
    have h2 : szI (startS n) i < 0 := by unfold szI startS; rw [List.getElem?_replicate]; split <;> simp
    have hi : 0 ≤ szI (startS n) i := hi
    omega
  | succ k ih =>
    rw [iter_succ]
    have hk : (iterS ps k (startS n)).length = n := reachS_len ⟨k, rfl⟩
    exact closed_fold hru hcl ps _ (fun p hp => hp) (fun p hp => by rw [hk]; exact hl p hp) ih
theorem filter_less {α : Type} {p q : α → Bool} : ∀ (l : List α), (∀ x ∈ l, q x = true → p x = true) → (∃ x ∈ l, p x = true ∧ q x = false) → (l.filter q).length < (l.filter p).length := by
  intro l
  induction l with
  | nil => intro _ h; obtain ⟨x, hx, _⟩ := h; cases hx
  | cons a l ih =>
    intro h1 h2
    have hle : (l.filter q).length ≤ (l.filter p).length := by
      rw [← List.countP_eq_length_filter, ← List.countP_eq_length_filter]
      exact List.countP_mono_left (fun x hx hq => h1 x (List.mem_cons_of_mem _ hx) hq)
    obtain ⟨x, hx, hp, hq⟩ := h2
    rcases List.mem_cons.1 hx with rfl | hx
    · rw [List.filter_cons, List.filter_cons, if_pos hp, if_neg (by rw [hq]; decide), List.length_cons]
      omega
    · have := ih (fun y hy => h1 y (List.mem_cons_of_mem _ hy)) ⟨x, hx, hp, hq⟩
      rw [List.filter_cons, List.filter_cons]
      by_cases ha : q a = true
      · rw [if_pos ha, if_pos (h1 a List.mem_cons_self ha), List.length_cons, List.length_cons]; omega
      · rw [if_neg ha]
        split
        · rw [List.length_cons]; omega
        · exact this
noncomputable def badS (ps : List Prod) (n : Nat) (T : List Int) (k r : Nat) : Bool := @decide (¬ eqvI (szI (iterS ps k (startS n)) r) (szI T r)) (Classical.propDecidable _)
theorem badS_iff {ps : List Prod} {n : Nat} {T : List Int} {k r : Nat} : badS ps n T k r = true ↔ ¬ eqvI (szI (iterS ps k (startS n)) r) (szI T r) := by unfold badS; exact @decide_eq_true_iff _ (Classical.propDecidable _)
theorem badS_not {ps : List Prod} {n : Nat} {T : List Int} {k r : Nat} : badS ps n T k r = false ↔ eqvI (szI (iterS ps k (startS n)) r) (szI T r) := by
  rw [Bool.eq_false_iff, ne_eq, badS_iff]; exact Classical.not_not
section
variable {ps : List Prod} {n : Nat} {T : List Int} (hl : ∀ p ∈ ps, 0 ≤ p.left ∧ p.left < (n : Int)) (hru : ∀ p ∈ ps, ∀ y ∈ p.right, y.rule = true → 0 ≤ y.n ∧ y.n < (n : Int)) (hT1 : ReachS ps n T) (hT2 : Settled ps T)
include hl in
theorem pass_le (k : Nat) : geS (iterS ps k (startS n)) (iterS ps (k + 1) (startS n)) := by
  rw [iter_succ]
  have hk : (iterS ps k (startS n)).length = n := reachS_len ⟨k, rfl⟩
  exact fold_le ps _ (fun p hp => by rw [hk]; exact hl p hp)
include hl hT2 in
theorem bad_mono (k r : Nat) (h : badS ps n T (k + 1) r = true) : badS ps n T k r = true := by
  rw [badS_iff] at h ⊢
  exact fun e => h (eqv_between (pass_le hl k r) (iter_ge hl hT2 (k + 1) r) e)
include hl hT2 in
theorem hit_at (k : Nat) {p : Prod} (hp : p ∈ ps) {c : Int} (h : ∀ S' : List Int, geS (iterS ps k (startS n)) S' → geS S' T → 0 ≤ countP S' p ∧ countP S' p ≤ c) : 0 ≤ szI (iterS ps (k + 1) (startS n)) p.left ∧ szI (iterS ps (k + 1) (startS n)) p.left ≤ c := by
  rw [iter_succ]
  have hk : (iterS ps k (startS n)).length = n := reachS_len ⟨k, rfl⟩
  exact fold_hit ps _ hp (fun q hq => by rw [hk]; exact hl q hq) (iter_ge hl hT2 k) hT2 h
include hl hru hT1 hT2 in
theorem bad_less (k : Nat) (h : ∃ r, r < n ∧ badS ps n T k r = true) : ∃ r, r < n ∧ badS ps n T k r = true ∧ badS ps n T (k + 1) r = false := by
  have hge := iter_ge hl hT2 k
  have hge1 := iter_ge hl hT2 (k + 1)
  by_cases hex : ∃ r, r < n ∧ badS ps n T k r = true ∧ 0 ≤ szI T r ∧ szI T r < capD
  · obtain ⟨r, hr⟩ := hex
    -- the least one of these
    have : ∀ (m : Nat) (r : Nat), (szI T r).toNat = m → r < n ∧ badS ps n T k r = true ∧ 0 ≤ szI T r ∧ szI T r < capD → ∃ r, r < n ∧ badS ps n T k r = true ∧ badS ps n T (k + 1) r = false := by
      intro m
      induction m using Nat.strongRecOn with
      | _ m ih =>
        intro r hm hr
        obtain ⟨hrn, hb, h0, hc⟩ := hr
        obtain ⟨p, hp, hpl, hpc⟩ := settled_wit hl hT1 hT2 (r := (r : Int)) (by omega) h0
        have hparts := countF_parts (S := T) p.right 1 (by decide) (by show 0 ≤ countP T p; omega)
        have hlt := hparts.2 (by show countP T p < capD; omega)
        by_cases hall : ∀ y ∈ p.right, y.rule = true → eqvI (szI (iterS ps k (startS n)) y.n) (szI T y.n)
        · refine ⟨r, hrn, hb, badS_not.2 ?_⟩
          have hh := hit_at hl hT2 k hp (c := szI T r) (fun S' a b => by
            have e : countP S' p = countP T p := countP_eqv (fun y hy hyr => eqv_between (a y.n) (b y.n) (hall y hy hyr))
            rw [e]; omega)
          rw [hpl] at hh
          have := hge1 (r : Int)
          unfold geI at this
          left; omega
        · have hex : ∃ y, y ∈ p.right ∧ y.rule = true ∧ ¬ eqvI (szI (iterS ps k (startS n)) y.n) (szI T y.n) := by
            apply Classical.byContradiction
            intro hn
            exact hall (fun y hy hyr => Classical.byContradiction (fun e => hn ⟨y, hy, hyr, e⟩))
          obtain ⟨y, hy, hyr, hye⟩ := hex
          obtain ⟨y0, y1⟩ := hru p hp y hy hyr
          obtain ⟨q, hq⟩ : ∃ q : Nat, y.n = (q : Int) := ⟨y.n.toNat, by omega⟩
          have a1 := hparts.1 y hy hyr
          have a2 : szI T y.n < szI T r := by have := hlt y hy hyr; have e : countF T 1 p.right = szI T r := hpc; omega
          rw [hq] at hye a1 a2 y1
          exact ih _ (by omega) q rfl ⟨by omega, badS_iff.2 hye, a1, by omega⟩
    exact this _ r rfl hr
  · -- all that are bad are not known, and great
    have hbig : ∀ r : Nat, r < n → badS ps n T k r = true → szI (iterS ps k (startS n)) r < 0 ∧ capD ≤ szI T r := by
      intro r hr hb
      have h1 := badS_iff.1 hb
      have h2 := hge (r : Int)
      have h3 : ¬ (0 ≤ szI T r ∧ szI T r < capD) := fun e => hex ⟨r, hr, hb, e⟩
      unfold eqvI geI capD at *
      omega
    apply Classical.byContradiction
    intro hno
    have hstay : ∀ r : Nat, r < n → badS ps n T k r = true → badS ps n T (k + 1) r = true := by
      intro r hr hb
      cases e : badS ps n T (k + 1) r
      · exact absurd ⟨r, hr, hb, e⟩ hno
      · rfl
    have hcl : ∀ p ∈ ps, ¬ (0 ≤ szI (iterS ps k (startS n)) p.left) → ∃ y ∈ p.right, y.rule = true ∧ ¬ (0 ≤ szI (iterS ps k (startS n)) y.n) := by
      intro p hp hk
      apply Classical.byContradiction
      intro hn
      have hkn : ∀ y ∈ p.right, y.rule = true → 0 ≤ szI (iterS ps k (startS n)) y.n := fun y hy hyr => Classical.byContradiction (fun e => hn ⟨y, hy, hyr, e⟩)
      have hkc : 0 ≤ countP (iterS ps k (startS n)) p := by
        have : ∀ (l : List Item) (m : Int), 1 ≤ m → (∀ y ∈ l, y.rule = true → 0 ≤ szI (iterS ps k (startS n)) y.n) → 0 ≤ countF (iterS ps k (startS n)) m l := by
          intro l
          induction l with
          | nil => intro m hm _; unfold countF; omega
          | cons y l ih =>
            intro m hm h
            rw [countF]
            split
            · exact ih _ (by omega) (fun z hz => h z (List.mem_cons_of_mem _ hz))
            · rename_i hy
              have := h y List.mem_cons_self (by simpa using hy)
              rw [if_neg (by omega)]
              exact ih _ (by unfold capD; omega) (fun z hz => h z (List.mem_cons_of_mem _ hz))
        exact this p.right 1 (by decide) hkn
      have hh := hit_at hl hT2 k hp (c := countP (iterS ps k (startS n)) p) (fun S' a _ => by
        have := countP_mono a p
        unfold geI at this
        omega)
      obtain ⟨l0, l1⟩ := hl p hp
      obtain ⟨q, hq⟩ : ∃ q : Nat, p.left = (q : Int) := ⟨p.left.toNat, by omega⟩
      rw [hq] at hh hk l1
      have hT := hge1 (q : Int)
      have hbq : badS ps n T k q = true := badS_iff.2 (fun e => by unfold eqvI geI capD at *; omega)
      have h5 := hbig q (by omega) hbq
      have h6 := badS_iff.1 (hstay q (by omega) hbq)
      unfold eqvI geI capD at *
      omega
    obtain ⟨r, hr, hb⟩ := h
    have h5 := hbig r hr hb
    obtain ⟨m, rfl⟩ := hT1
    have := closed_iter (K := fun i => 0 ≤ szI (iterS ps k (startS n)) i) hl (fun p hp y hy hyr => (hru p hp y hy hyr).1) hcl m (r : Int) (by omega) (by unfold capD at h5; omega)
    omega
include hl hru hT1 hT2 in
theorem bad_count : ∀ k, ((List.range n).filter (badS ps n T k)).length ≤ n - k := by
  intro k
  induction k with
  | zero => exact Nat.le_trans (List.length_filter_le _ _) (by simp)
  | succ k ih =>
    by_cases h : ∃ r, r < n ∧ badS ps n T k r = true
    · obtain ⟨r, h1, h2, h3⟩ := bad_less hl hru hT1 hT2 k h
      have := filter_less (p := badS ps n T k) (q := badS ps n T (k + 1)) (List.range n) (fun x _ hx => bad_mono hl hT2 k x hx) ⟨r, List.mem_range.2 h1, h2, h3⟩
      omega
    · have e : (List.range n).filter (badS ps n T (k + 1)) = [] := List.filter_eq_nil_iff.2 (fun x hx hb => h ⟨x, List.mem_range.1 hx, bad_mono hl hT2 k x hb⟩)
      rw [e]
      simp
include hl hru hT1 hT2 in
/-- After as many passes as there are rules, and one, nothing changes. -/
theorem doc_settled : Settled ps (iterS ps (n + 1) (startS n)) := by
  have h0 : ∀ r : Nat, r < n → eqvI (szI (iterS ps n (startS n)) r) (szI T r) := by
    intro r hr
    have := bad_count hl hru hT1 hT2 n
    rw [Nat.sub_self] at this
    have e := List.eq_nil_of_length_eq_zero (Nat.le_zero.1 this)
    have := List.filter_eq_nil_iff.1 e r (List.mem_range.2 hr)
    exact badS_not.1 (by simpa using this)
  have h1 : ∀ p ∈ ps, ∀ S' : List Int, geS (iterS ps n (startS n)) S' → geS S' T → countP S' p = countP T p := by
    intro p hp S' a b
    refine countP_eqv (fun y hy hyr => ?_)
    obtain ⟨y0, y1⟩ := hru p hp y hy hyr
    obtain ⟨q, hq⟩ : ∃ q : Nat, y.n = (q : Int) := ⟨y.n.toNat, by omega⟩
    refine eqv_between (a y.n) (b y.n) ?_
    rw [hq]
    exact h0 q (by omega)
  have hge1 := iter_ge hl hT2 (n + 1)
  intro p hp
  rw [Bool.eq_false_iff]
  intro hb
  have hb := better_iff.1 hb
  have e := h1 p hp _ (pass_le hl n) hge1
  have ht := hT2 p hp
  have hn : ¬ (0 ≤ countP T p ∧ (szI T p.left < 0 ∨ countP T p < szI T p.left)) := fun e => by rw [better_iff.2 e] at ht; cases ht
  rw [e] at hb
  have hTl : 0 ≤ szI T p.left ∧ szI T p.left ≤ countP T p := by omega
  obtain ⟨p2, hp2, hl2, hc2⟩ := settled_wit hl hT1 hT2 (hl p hp).1 hTl.1
  have hh := hit_at hl hT2 n hp2 (c := szI T p.left) (fun S' a b => by rw [h1 p2 hp2 S' a b]; omega)
  rw [hl2] at hh
  omega
end
end Go.Proofs.Ytmmhkjdnejeooaa.T
