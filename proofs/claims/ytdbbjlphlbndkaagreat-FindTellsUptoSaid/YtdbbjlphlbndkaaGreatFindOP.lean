/-
  What a selector finds (plain): the marks set, step by step.
-/
import Derived.Test.YtdbbjlphlbndkaaGreatFindT
import Derived.Test.YtdbbjlphlbndkaaGreatFindC
namespace Go.Proofs.YtdbbjlphlbndkaaGreat.T
open Go.RowKit Go.Shelf

def isN (g : Gram) (t : List Node) (nm : ByteArray) (i : Nat) : Bool := match t[i]? with | some x => namedD g x nm | none => false
def takeF (g : Gram) (t : List Node) (nm : ByteArray) (s : List Bool) (i : Nat) : List Bool := s.set i (s[i]?.getD false || isN g t nm i)
noncomputable def rowO (t : List Node) (al : Bool) (a : Nat) : List Nat := if al = true then List.range' (a + 1) (sz t a - 1) else kidsOf t (a : Int)
noncomputable def oneO (g : Gram) (t : List Node) (x : ByteArray × Bool) (s : List Bool) (a : Nat) (b : Bool) : List Bool := if b = true then (rowO t x.2 a).foldl (takeF g t x.1) s else s
noncomputable def passK (g : Gram) (t : List Node) (x : ByteArray × Bool) (now : List Bool) (k : Nat) : List Bool := (List.range k).foldl (fun s j => oneO g t x s j (now[j]?.getD false)) (List.replicate t.length false)
noncomputable def passO (g : Gram) (t : List Node) (now : List Bool) (x : ByteArray × Bool) : List Bool := passK g t x now t.length
noncomputable def nowO (g : Gram) (t : List Node) (xs : List (ByteArray × Bool)) : List Bool := xs.foldl (passO g t) ((List.replicate t.length false).set 0 true)
def foundK (s : List Bool) (k : Nat) : List Nat := (List.range k).filter fun i => s[i]?.getD false
def foundO (s : List Bool) : List Nat := foundK s s.length
noncomputable def ofErr (g : Gram) (t : List Node) (s : ByteArray) : Int := if checkF g s ≠ 0 then checkF g s else if treeB t = false then 1 else 0
noncomputable def ofRow (g : Gram) (t : List Node) (s : ByteArray) : List Nat := if ofErr g t s ≠ 0 then [] else foundO (nowO g t (stepsL s.data.toList))

theorem takeF_len (g : Gram) (t : List Node) (nm : ByteArray) (s : List Bool) (i : Nat) : (takeF g t nm s i).length = s.length := by unfold takeF; rw [List.length_set]
theorem takes_len (g : Gram) (t : List Node) (nm : ByteArray) (l : List Nat) : ∀ s : List Bool, (l.foldl (takeF g t nm) s).length = s.length := by
  induction l with
  | nil => exact fun s => rfl
  | cons x r ih => exact fun s => by rw [List.foldl_cons, ih, takeF_len]
theorem oneO_len (g : Gram) (t : List Node) (x : ByteArray × Bool) (s : List Bool) (a : Nat) (b : Bool) : (oneO g t x s a b).length = s.length := by
  unfold oneO
  split
  · exact takes_len _ _ _ _ _
  · rfl
theorem passK_succ (g : Gram) (t : List Node) (x : ByteArray × Bool) (now : List Bool) (k : Nat) : passK g t x now (k + 1) = oneO g t x (passK g t x now k) k (now[k]?.getD false) := by
  unfold passK
  rw [List.range_succ, List.foldl_append]
  rfl
theorem passK_len (g : Gram) (t : List Node) (x : ByteArray × Bool) (now : List Bool) (k : Nat) : (passK g t x now k).length = t.length := by
  induction k with
  | zero => unfold passK; simp
  | succ k ih => rw [passK_succ, oneO_len, ih]
theorem nowO_snoc (g : Gram) (t : List Node) (xs : List (ByteArray × Bool)) (x : ByteArray × Bool) : nowO g t (xs ++ [x]) = passO g t (nowO g t xs) x := by unfold nowO; rw [List.foldl_append]; rfl
theorem nowO_len (g : Gram) (t : List Node) (xs : List (ByteArray × Bool)) : (nowO g t xs).length = t.length := by
  rcases List.eq_nil_or_concat xs with rfl | ⟨l, x, rfl⟩
  · unfold nowO; simp
  · rw [List.concat_eq_append, nowO_snoc]; exact passK_len _ _ _ _ _
theorem foundK_succ (s : List Bool) (k : Nat) : foundK s (k + 1) = if s[k]?.getD false = true then foundK s k ++ [k] else foundK s k := by
  unfold foundK
  rw [List.range_succ, List.filter_append]
  cases h : s[k]?.getD false
  · simp [h]
  · simp [h]
theorem foundK_len (s : List Bool) (k : Nat) : (foundK s k).length ≤ k := by
  unfold foundK
  exact Nat.le_trans (List.length_filter_le _ _) (by simp)
theorem takes_snoc (g : Gram) (t : List Node) (nm : ByteArray) (a n : Nat) (s : List Bool) : (List.range' a (n + 1)).foldl (takeF g t nm) s = takeF g t nm ((List.range' a n).foldl (takeF g t nm) s) (a + n) := by
  rw [List.range'_1_concat, List.foldl_append]
  rfl
theorem takes_take (g : Gram) (t : List Node) (nm : ByteArray) (l : List Nat) {k y : Nat} (h : l[k]? = some y) (s : List Bool) : (l.take (k + 1)).foldl (takeF g t nm) s = takeF g t nm ((l.take k).foldl (takeF g t nm) s) y := by
  rw [List.take_add_one, h, List.foldl_append]
  rfl
theorem takeF_at {g : Gram} {t : List Node} {nm : ByteArray} {s : List Bool} {i : Nat} {x : Node} {u : Bool} (hx : t[i]? = some x) (hu : s[i]? = some u) : takeF g t nm s i = s.set i (u || namedD g x nm) := by
  unfold takeF isN
  rw [hx, hu]
  rfl
theorem kidsFrom_in {t : List Node} {e : Nat} : ∀ n k, e - k ≤ n → ∀ x ∈ kidsFrom t e k, k ≤ x ∧ x < e := by
  intro n
  induction n with
  | zero => intro k hk x hx; rw [kidsFrom_ge (by omega)] at hx; cases hx
  | succ n ih =>
    intro k hk x hx
    by_cases h : k < e
    · rw [kidsFrom, if_pos h] at hx
      rcases List.mem_cons.1 hx with rfl | hx
      · exact ⟨Nat.le_refl _, h⟩
      · have := ih _ (by omega) x hx
        omega
    · rw [kidsFrom_ge h] at hx; cases hx
theorem kidsOf_lt {t : List Node} (ht : Tree t) {a y : Nat} (ha : a < t.length) (hy : y ∈ kidsOf t (a : Int)) : y < t.length := by
  unfold kidsOf at hy
  split at hy
  · rw [Int.toNat_natCast] at hy
    have h1 := kidsFrom_in _ _ (Nat.le_refl _) y hy
    have h2 := tree_node ht ha
    omega
  · simp at hy
/-- All that is not the block q lies: the records of ranges, too. -/
theorem others_but {q : Nat} {w w' : World} {t : TypeId} {cs : Array Value} (h : But q w w') (hs : Holds w q t cs) : KeepsOthers w w' := by
  refine ⟨h.size, fun k o hk ho => ?_⟩
  by_cases e : k = q
  · subst e
    have := hs
    unfold Holds at this
    rw [this] at hk
    cases hk
    cases ho
  · exact (h.block k (Array.getElem?_eq_some_iff.1 hk).1 e).trans hk
end Go.Proofs.YtdbbjlphlbndkaaGreat.T
