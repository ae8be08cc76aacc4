/-
  Whether a given grammar is right, by reckoning. Plain.
-/
import Derived.Test.YtfmdmeokbbpmlaaGreatG4
namespace Go.Proofs.YtfmdmeokbbpmlaaGreat
open Go.RowKit Go.Shelf

def okC (c : Int) (i : Nat) : Bool := decide (partOf c = 2) || (decide (partOf c = 1) && decide (i ≠ 0))
def nameCs : List UInt8 → Nat → Bool
  | [], _ => true
  | c :: l, i => okC (c.toNat : Int) i && nameCs l (i + 1)
def nameC (s : ByteArray) : Bool := decide (1 ≤ s.data.toList.length) && (decide (s.data.toList.length ≤ 32) && nameCs s.data.toList 0)
theorem nameCs_at : ∀ (l : List UInt8) (k : Nat), nameCs l k = true → ∀ (i : Nat) (c : UInt8), l[i]? = some c → okAt (c.toNat : Int) (k + i) := by
  intro l
  induction l with
  | nil => intro k _ i c h; simp at h
  | cons d l ih =>
    intro k h i c hc
    unfold nameCs at h
    rw [Bool.and_eq_true] at h
    cases i with
    | zero =>
      simp at hc
      subst hc
      have h1 := h.1
      unfold okC at h1
      simp at h1
      unfold okAt
      rcases h1 with h1 | ⟨h1, h2⟩
      · exact .inl h1
      · exact .inr ⟨h1, by omega⟩
    | succ i =>
      have := ih (k + 1) h.2 i c (by simpa using hc)
      rwa [show k + 1 + i = k + (i + 1) by omega] at this
theorem nameC_name {s : ByteArray} (h : nameC s = true) : nameB s = true := by
  unfold nameC at h
  rw [Bool.and_eq_true, Bool.and_eq_true, decide_eq_true_iff, decide_eq_true_iff] at h
  have hs : s.data.toList.length = s.size := by simp
  refine holdsB_true ⟨by omega, by omega, fun i hi => ?_⟩
  have := nameCs_at _ 0 h.2.2 i (s[i]'hi) (by rw [List.getElem?_eq_getElem (by omega)]; rfl)
  rwa [Nat.zero_add] at this
def newC (s : ByteArray) (l : List ByteArray) : Bool := nameC s && !(l.any fun t => t.data.toList == s.data.toList)
theorem newC_ok {s : ByteArray} {l : List ByteArray} (h : newC s l = true) : nameErr s l = 0 := by
  unfold newC at h
  rw [Bool.and_eq_true, Bool.not_eq_true'] at h
  refine nameErr_ok (nameC_name h.1) (fun hm => ?_)
  have : (l.any fun t => t.data.toList == s.data.toList) = true := List.any_eq_true.2 ⟨s, hm, by simp⟩
  rw [h.2] at this
  cases this
def tokC (g : Gram) (i : Nat) : Bool := match g.toks[i]? with
  | some t => newC t.name ((allNames g).take i) && (decide (rxErr t.rex = 0) && (decide (0 ≤ t.cls) && decide (t.cls ≤ 3)))
  | none => true
def ruleC (g : Gram) (i : Nat) : Bool := match g.rules[i]? with
  | some s => newC s ((allNames g).take (g.toks.length + i))
  | none => true
def rightC (g : Gram) : Bool := decide ((sizesOf g).kind = 0) && ((List.range g.toks.length).all (tokC g) && ((List.range g.rules.length).all (ruleC g) &&
  ((List.range g.prods.length).all (fun i => decide ((prodD g i).kind = 0)) && (decide ((startD g).kind = 0) && (List.range g.rules.length).all (fun i => decide ((noneD g i).kind = 0))))))
theorem rightC_right {g : Gram} (h : rightC g = true) : rightB g = true := by
  unfold rightC at h
  simp only [Bool.and_eq_true, decide_eq_true_iff, List.all_eq_true, List.mem_range] at h
  obtain ⟨h1, h2, h3, h4, h5, h6⟩ := h
  unfold rightB
  rw [decide_eq_true_iff, right_iff]
  refine ⟨sizes_clean g h1, fun i hi => ?_, fun i hi => ?_, h4, h5, h6⟩
  · have := h2 i hi
    unfold tokC at this
    unfold tokD
    cases e : g.toks[i]? with
    | none => rfl
    | some t =>
      rw [e] at this
      simp only [Bool.and_eq_true, decide_eq_true_iff] at this
      obtain ⟨a1, a2, a3, a4⟩ := this
      dsimp only
      unfold tokErr
      dsimp only
      rw [newC_ok a1, if_neg (by omega), if_neg (by omega), if_neg (by omega)]
      rfl
  · have := h3 i hi
    unfold ruleC at this
    unfold ruleD
    cases e : g.rules[i]? with
    | none => rfl
    | some t =>
      rw [e] at this
      dsimp only at this ⊢
      rw [newC_ok this, if_neg (by omega)]
      rfl
end Go.Proofs.YtfmdmeokbbpmlaaGreat
