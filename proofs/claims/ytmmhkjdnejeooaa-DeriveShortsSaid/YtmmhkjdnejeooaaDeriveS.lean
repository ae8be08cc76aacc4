/-
  Least parts (plain): how many nodes each has, by which production.
-/
import Derived.Test.YtmmhkjdnejeooaaT3
import Derived.Test.YtmmhkjdnejeooaaNullP
namespace Go.Proofs.Ytmmhkjdnejeooaa.T
open Go.RowKit Go.Shelf

def szI (S : List Int) (i : Int) : Int := S[i.toNat]?.getD (-1)
def capD : Int := 1099511627776
/-- How many nodes a part by these items has, as far as is known; -1: it is not known. -/
def countF (S : List Int) : Int → List Item → Int
  | n, [] => n
  | n, y :: l => if y.rule = false then countF S (n + 1) l else if szI S y.n < 0 then -1 else countF S (min (n + szI S y.n) capD) l
def countP (S : List Int) (p : Prod) : Int := countF S 1 p.right
def betterB (S : List Int) (p : Prod) : Bool := decide (0 ≤ countP S p) && (decide (szI S p.left < 0) || decide (countP S p < szI S p.left))
def stepS (S : List Int) (p : Prod) : List Int := if betterB S p = true then S.set p.left.toNat (countP S p) else S
def passK' (ps : List Prod) (S : List Int) (k : Nat) : List Int := (ps.take k).foldl stepS S
def passS (ps : List Prod) (S : List Int) : List Int := ps.foldl stepS S
def iterS (ps : List Prod) : Nat → List Int → List Int
  | 0, S => S
  | k + 1, S => iterS ps k (passS ps S)
def Settled (ps : List Prod) (S : List Int) : Prop := ∀ p ∈ ps, betterB S p = false
def startS (n : Nat) : List Int := List.replicate n (-1)
def ReachS (ps : List Prod) (n : Nat) (S : List Int) : Prop := ∃ k, S = iterS ps k (startS n)

theorem stepS_len (S : List Int) (p : Prod) : (stepS S p).length = S.length := by unfold stepS; split <;> simp
theorem foldS_len : ∀ (ps : List Prod) (S : List Int), (ps.foldl stepS S).length = S.length := by
  intro ps
  induction ps with
  | nil => intro S; rfl
  | cons p r ih => intro S; rw [List.foldl_cons, ih, stepS_len]
theorem iterS_len {ps : List Prod} : ∀ k S, (iterS ps k S).length = S.length := by
  intro k
  induction k with
  | zero => intro S; rfl
  | succ k ih => intro S; rw [iterS, ih]; exact foldS_len _ _
theorem reachS_len {ps : List Prod} {n : Nat} {S : List Int} (h : ReachS ps n S) : S.length = n := by
  obtain ⟨k, rfl⟩ := h
  rw [iterS_len]; unfold startS; simp
theorem passK'_succ {ps : List Prod} {S : List Int} {k : Nat} {p : Prod} (h : ps[k]? = some p) : passK' ps S (k + 1) = stepS (passK' ps S k) p := by
  unfold passK'
  rw [List.take_add_one, h, List.foldl_append]; rfl
theorem passK'_all (ps : List Prod) (S : List Int) : passK' ps S ps.length = passS ps S := by unfold passK' passS; rw [List.take_length]
theorem passK'_len {ps : List Prod} {S : List Int} {k : Nat} : (passK' ps S k).length = S.length := foldS_len _ _
theorem stepS_same {S : List Int} {p : Prod} (h : betterB S p = false) : stepS S p = S := by unfold stepS; rw [if_neg (by rw [h]; decide)]
theorem settled_pass {ps : List Prod} {S : List Int} (h : Settled ps S) : passS ps S = S := by
  unfold passS
  induction ps with
  | nil => rfl
  | cons p r ih => rw [List.foldl_cons, stepS_same (h p List.mem_cons_self)]; exact ih (fun q hq => h q (List.mem_cons_of_mem _ hq))
theorem settled_iter {ps : List Prod} {S : List Int} (h : Settled ps S) : ∀ k, iterS ps k S = S := by
  intro k
  induction k with
  | zero => rfl
  | succ k ih => rw [iterS, settled_pass h, ih]
theorem iterS_add {ps : List Prod} : ∀ a b S, iterS ps (a + b) S = iterS ps b (iterS ps a S) := by
  intro a
  induction a with
  | zero => intro b S; rw [Nat.zero_add]; rfl
  | succ a ih => intro b S; rw [Nat.succ_add, iterS, ih]; rfl
theorem reachS_next {ps : List Prod} {n : Nat} {S : List Int} (h : ReachS ps n S) : ReachS ps n (passS ps S) := by
  obtain ⟨k, rfl⟩ := h
  exact ⟨k + 1, by rw [iterS_add]; rfl⟩
/-- Where it ends, it ends alike. -/
theorem settled_one {ps : List Prod} {n : Nat} {S M : List Int} (h1 : ReachS ps n S) (h2 : Settled ps S) (h3 : ReachS ps n M) (h4 : Settled ps M) : S = M := by
  obtain ⟨a, ha⟩ := h1
  obtain ⟨b, hb⟩ := h3
  have e1 : iterS ps (a + b) (startS n) = S := by rw [iterS_add, ← ha, settled_iter h2]
  have e2 : iterS ps (b + a) (startS n) = M := by rw [iterS_add, ← hb, settled_iter h4]
  rw [← e1, ← e2, Nat.add_comm]

/-! ### How far it is from the end -/
def costV (v : Int) : Nat := if v < 0 then 17592186044416 else v.toNat
def costS (S : List Int) : Nat := (S.map costV).sum
def OkS (S : List Int) : Prop := ∀ v ∈ S, -1 ≤ v ∧ v ≤ 8796093022208
theorem cost_set : ∀ (S : List Int) (i : Nat) (v : Int), i < S.length → costV v < costV (S[i]?.getD (-1)) → costS (S.set i v) < costS S := by
  intro S
  induction S with
  | nil => intro i v h; simp at h
  | cons a r ih =>
    intro i v h1 h2
    cases i with
    | zero => simp [costS] at h2 ⊢; omega
    | succ i =>
      have := ih i v (by simpa using h1) (by simpa using h2)
      simp [costS] at this ⊢
      omega
theorem countF_range {S : List Int} {m : Int} : ∀ (l : List Item) (n j : Int), 1 ≤ n → 0 ≤ j → n ≤ capD + j → j + l.length ≤ m → countF S n l = -1 ∨ (1 ≤ countF S n l ∧ countF S n l ≤ capD + m) := by
  intro l
  induction l with
  | nil => intro n j h1 h2 h3 h4; right; unfold countF; simp at h4; omega
  | cons y l ih =>
    intro n j h1 h2 h3 h4
    have h5 : j + 1 + (l.length : Int) ≤ m := by simp at h4; omega
    rw [countF]
    split
    · exact ih (n + 1) (j + 1) (by omega) (by omega) (by omega) h5
    · split
      · exact .inl rfl
      · rename_i h6
        exact ih _ (j + 1) (by unfold capD; omega) (by omega) (by unfold capD; omega) h5
theorem countP_range (S : List Int) {p : Prod} (h : p.right.length ≤ 4398046511104) : countP S p = -1 ∨ (1 ≤ countP S p ∧ countP S p ≤ 5497558138880) := by
  have := countF_range (S := S) (m := 4398046511104) p.right 1 0 (by decide) (by decide) (by unfold capD; decide) (by omega)
  unfold countP
  unfold capD at this
  omega
theorem step_cost {S : List Int} {p : Prod} (h : p.right.length ≤ 4398046511104) (hl : 0 ≤ p.left ∧ p.left < S.length) (hb : betterB S p = true) : costS (stepS S p) < costS S := by
  unfold stepS
  rw [if_pos hb]
  refine cost_set S _ _ (by omega) ?_
  unfold betterB at hb
  simp only [Bool.and_eq_true, Bool.or_eq_true, decide_eq_true_eq] at hb
  have hr := countP_range S h
  unfold szI at hb
  obtain ⟨h1, h2⟩ := hb
  unfold costV
  rw [if_neg (by omega)]
  split <;> omega
theorem step_ok {S : List Int} {p : Prod} (h : p.right.length ≤ 4398046511104) (hs : OkS S) : OkS (stepS S p) := by
  unfold stepS
  split
  · intro v hv
    rcases List.mem_or_eq_of_mem_set hv with hv | rfl
    · exact hs v hv
    · have := countP_range S h
      omega
  · exact hs
theorem start_ok (n : Nat) : OkS (startS n) := by
  intro v hv
  unfold startS at hv
  have := List.eq_of_mem_replicate hv
  omega
theorem pass_ok : ∀ (ps : List Prod) (S : List Int), (∀ p ∈ ps, p.right.length ≤ 4398046511104) → OkS S → OkS (ps.foldl stepS S) := by
  intro ps
  induction ps with
  | nil => intro S _ h; exact h
  | cons p r ih => intro S hp h; rw [List.foldl_cons]; exact ih _ (fun q hq => hp q (List.mem_cons_of_mem _ hq)) (step_ok (hp p List.mem_cons_self) h)
theorem iter_ok {ps : List Prod} (hp : ∀ p ∈ ps, p.right.length ≤ 4398046511104) : ∀ k S, OkS S → OkS (iterS ps k S) := by
  intro k
  induction k with
  | zero => intro S h; exact h
  | succ k ih => intro S h; exact ih _ (pass_ok ps S hp h)
/-- Of a pass so far: either nothing was better, or it is nearer to the end. -/
def PassS (ps : List Prod) (S0 : List Int) (k : Nat) (b : Bool) (S : List Int) : Prop :=
  S = passK' ps S0 k ∧ ((b = false ∧ S = S0 ∧ ∀ p ∈ ps.take k, betterB S0 p = false) ∨ (b = true ∧ costS S < costS S0))
theorem PassS.start (ps : List Prod) (S0 : List Int) : PassS ps S0 0 false S0 := ⟨rfl, .inl ⟨rfl, rfl, fun p h => by simp at h⟩⟩
theorem PassS.yes {ps : List Prod} {S0 S : List Int} {k : Nat} {b : Bool} {p : Prod} (h : PassS ps S0 k b S) (hp : ps[k]? = some p) (hr : p.right.length ≤ 4398046511104) (hl : 0 ≤ p.left ∧ p.left < S.length) (hb : betterB S p = true) :
    PassS ps S0 (k + 1) true (S.set p.left.toNat (countP S p)) := by
  have hc := step_cost hr hl hb
  have e : stepS S p = S.set p.left.toNat (countP S p) := by unfold stepS; rw [if_pos hb]
  rw [e] at hc
  refine ⟨by rw [passK'_succ hp, ← h.1, e], .inr ⟨rfl, ?_⟩⟩
  rcases h.2 with ⟨_, h2, _⟩ | ⟨_, h2⟩
  · rw [h2] at hc ⊢; exact hc
  · omega
theorem PassS.no {ps : List Prod} {S0 S : List Int} {k : Nat} {b : Bool} {p : Prod} (h : PassS ps S0 k b S) (hp : ps[k]? = some p) (hb : betterB S p = false) : PassS ps S0 (k + 1) b S := by
  refine ⟨by rw [passK'_succ hp, ← h.1, stepS_same hb], ?_⟩
  rcases h.2 with ⟨h1, h2, h3⟩ | h2
  · refine .inl ⟨h1, h2, fun q hq => ?_⟩
    rw [List.take_add_one, hp] at hq
    rcases List.mem_append.1 hq with hq | hq
    · exact h3 q hq
    · simp at hq; subst hq; rw [← h2]; exact hb
  · exact .inr h2
theorem PassS.done {ps : List Prod} {S0 S : List Int} {b : Bool} (h : PassS ps S0 ps.length b S) : S = passS ps S0 ∧ ((b = false ∧ S = S0 ∧ Settled ps S) ∨ (b = true ∧ costS S < costS S0)) := by
  refine ⟨by rw [h.1, passK'_all], ?_⟩
  rcases h.2 with ⟨h1, h2, h3⟩ | h2
  · refine .inl ⟨h1, h2, ?_⟩
    rw [List.take_length] at h3
    rw [h2]; exact h3
  · exact .inr h2

/-! ### By which production -/
def byB (S B : List Int) (p : Prod) : Bool := decide (0 ≤ countP S p) && (decide (countP S p = szI S p.left) && decide (szI B p.left < 0))
def byStep (S : List Int) (B : List Int) (x : Prod × Nat) : List Int := if byB S B x.1 = true then B.set x.1.left.toNat (x.2 : Int) else B
def byK (ps : List Prod) (S : List Int) (k : Nat) : List Int := ((ps.zipIdx).take k).foldl (byStep S) (startS S.length)
def byD (ps : List Prod) (S : List Int) : List Int := byK ps S ps.length
theorem byK_len {ps : List Prod} {S : List Int} : ∀ k, (byK ps S k).length = S.length := by
  intro k
  unfold byK
  have : ∀ (l : List (Prod × Nat)) (B : List Int), (l.foldl (byStep S) B).length = B.length := by
    intro l
    induction l with
    | nil => intro B; rfl
    | cons x r ih => intro B; rw [List.foldl_cons, ih]; unfold byStep; split <;> simp
  rw [this]; unfold startS; simp
theorem byK_succ {ps : List Prod} {S : List Int} {k : Nat} {p : Prod} (h : ps[k]? = some p) : byK ps S (k + 1) = byStep S (byK ps S k) (p, k) := by
  unfold byK
  rw [List.take_add_one, List.getElem?_zipIdx, h, List.foldl_append]
  simp
/-- What is known of a rule's production: it is the first one that makes so few. -/
theorem by_at {ps : List Prod} {S : List Int} (hl : ∀ p ∈ ps, 0 ≤ p.left ∧ p.left < S.length) : ∀ k, k ≤ ps.length → ∀ r : Nat, r < S.length →
    ((szI (byK ps S k) r = -1 ∧ ∀ j p, j < k → ps[j]? = some p → p.left = (r : Int) → ¬ (0 ≤ countP S p ∧ countP S p = szI S r)) ∨
    (∃ j p, j < k ∧ ps[j]? = some p ∧ szI (byK ps S k) r = (j : Int) ∧ p.left = (r : Int) ∧ 0 ≤ countP S p ∧ countP S p = szI S r ∧ ∀ i q, i < j → ps[i]? = some q → q.left = (r : Int) → ¬ (0 ≤ countP S q ∧ countP S q = szI S r))) := by
  intro k
  induction k with
  | zero =>
    intro _ r hr
    refine .inl ⟨?_, fun j p h => by omega⟩
    unfold szI byK startS
    simp [hr]
  | succ k ih =>
    intro hk r hr
    have hp := List.getElem?_eq_getElem (show k < ps.length by omega)
    have hpl := hl _ (List.getElem_mem (show k < ps.length by omega))
    generalize ps[k] = p at *
    rw [byK_succ hp]
    have hBl := byK_len (ps := ps) (S := S) k
    unfold byStep
    dsimp only
    by_cases hb : byB S (byK ps S k) p = true
    · rw [if_pos hb]
      unfold byB at hb
      simp only [Bool.and_eq_true, decide_eq_true_eq] at hb
      by_cases e : p.left = (r : Int)
      · have hset : szI ((byK ps S k).set p.left.toNat (k : Int)) r = (k : Int) := by
          unfold szI
          rw [e, Int.toNat_natCast, List.getElem?_set_self (by omega)]
          rfl
        rw [e] at hb
        rcases ih (by omega) r hr with ⟨_, h2⟩ | ⟨j, q, _, _, h3, _⟩
        · exact .inr ⟨k, p, by omega, hp, hset, e, hb.1, hb.2.1, fun i q h1 h3 h4 => h2 i q h1 h3 h4⟩
        · rw [h3] at hb; omega
      · have hset : szI ((byK ps S k).set p.left.toNat (k : Int)) r = szI (byK ps S k) r := by
          unfold szI
          rw [Int.toNat_natCast, List.getElem?_set_ne (by omega)]
        rw [hset]
        rcases ih (by omega) r hr with ⟨h1, h2⟩ | ⟨j, q, h1, h2, h3, h4⟩
        · refine .inl ⟨h1, fun j q a b c => ?_⟩
          by_cases ej : j = k
          · subst ej; rw [hp] at b; cases b; exact absurd c e
          · exact h2 j q (by omega) b c
        · exact .inr ⟨j, q, by omega, h2, h3, h4⟩
    · rw [if_neg hb]
      unfold byB at hb
      simp only [Bool.and_eq_true, decide_eq_true_eq] at hb
      rcases ih (by omega) r hr with ⟨h1, h2⟩ | ⟨j, q, h1, h2, h3, h4⟩
      · refine .inl ⟨h1, fun j q a b c => ?_⟩
        by_cases ej : j = k
        · subst ej; rw [hp] at b; cases b
          intro hc
          rw [← c] at hc h1
          exact hb ⟨hc.1, hc.2, by omega⟩
        · exact h2 j q (by omega) b c
      · exact .inr ⟨j, q, by omega, h2, h3, h4⟩

/-! ### The part -/
def leafN (n : Int) : Node := ⟨3, n, 1, [], ⟨#[]⟩⟩
def madeN (n : Int) : Node := ⟨2, n, 0, [], ⟨#[]⟩⟩
def partL (ps : List Prod) (B : List Int) : Nat → Item → List Node
  | 0, _ => []
  | f + 1, y => if y.rule = false then [leafN y.n] else match ps[(szI B y.n).toNat]? with | none => [] | some p => oneOf (madeN (szI B y.n)) (p.right.map (partL ps B f))
def itR (r : Int) : Item := ⟨true, r, 0, 0⟩
end Go.Proofs.Ytmmhkjdnejeooaa.T
