/-
  gprint: words with a blank between; strings.Join.
-/
import Derived.Test.YtfmdmeokbbpmlaaGreatGprB
import Derived.Test.YtfmdmeokbbpmlaaGreatShelfG
namespace Go.Proofs.YtfmdmeokbbpmlaaGreat
open Go.RowKit Go.Shelf

/-- Words, a blank between each two. -/
def lineB (x : ByteArray) (r : List ByteArray) : ByteArray := ⟨(Lib.join ((x :: r).map (·.data.toList)) [32]).toArray⟩
theorem ba_mk (s : ByteArray) : (⟨s.data.toList.toArray⟩ : ByteArray) = s := by
  obtain ⟨⟨l⟩⟩ := s
  rfl
theorem lineB_nil (x : ByteArray) : lineB x [] = x := by
  unfold lineB
  rw [List.map_cons, Lib.join_cons]
  unfold Lib.joinTail
  simp only [List.map_nil, List.flatten_nil, List.append_nil]
theorem lineB_snoc (x y : ByteArray) (r : List ByteArray) : lineB x (r ++ [y]) = lineB x r ++ ((⟨#[32]⟩ : ByteArray) ++ y) := by
  have e1 : (⟨#[32]⟩ : ByteArray) ++ y = ⟨([32] ++ y.data.toList).toArray⟩ := by
    rw [← bytes_app, ba_mk]
  unfold lineB
  rw [e1, bytes_app]
  simp only [List.map_cons, List.map_append, Lib.join_cons, Lib.joinTail, List.map_nil, List.flatten_append, List.flatten_cons, List.flatten_nil, List.append_nil, List.append_assoc]
theorem lineB_size (x : ByteArray) (r : List ByteArray) (n : Nat) (h : ∀ y ∈ r, y.size ≤ n) : (lineB x r).size ≤ x.size + (n + 1) * r.length := by
  unfold lineB
  rw [bytes_size, List.map_cons, Lib.join_cons, List.length_append]
  have h2 : (Lib.joinTail [32] (r.map (·.data.toList))).length ≤ (n + 1) * r.length := by
    unfold Lib.joinTail
    induction r with
    | nil => simp
    | cons y r ih =>
      have := ih (fun z hz => h z (List.mem_cons_of_mem _ hz))
      have h3 := h y List.mem_cons_self
      have h4 : y.data.toList.length = y.size := data_len y
      simp only [List.map_cons, List.flatten_cons, List.length_append, List.length_cons, List.length_nil] at this ⊢
      rw [Nat.mul_add]
      omega
  have h4 : x.data.toList.length = x.size := data_len x
  omega
/-- The word of a rule's line. -/
def ruleW : ByteArray := ⟨#[114, 117, 108, 101]⟩
/-- A production as a line, of a grammar that is right. -/
def prodOk (g : Gram) (p : Prod) : Bool := decide (0 ≤ p.left) && (decide (p.left < (g.rules.length : Int)) && p.right.all (itemOk g))
def prodT (g : Gram) (p : Prod) : ByteArray := if prodOk g p = true then lineB ruleW ((g.rules[p.left.toNat]?).getD ByteArray.empty :: p.right.map (itemT g)) else ByteArray.empty
theorem itemT_size {g : Gram} (hz : ∀ s ∈ allNames g, s.size ≤ 1000) (x : Item) : (itemT g x).size ≤ 1010 := by
  unfold itemT
  split
  · rename_i h
    unfold itemOk at h
    simp only [Bool.and_eq_true, decide_eq_true_eq] at h
    have h1 := name_size hz x
    have h2 := gapW_size x.gap
    have h3 : (inW x).size ≤ 2 := by
      unfold inW
      split
      · rw [ByteArray.size_append, show_small h.2.2.2.1 h.2.2.2.2]; decide
      · decide
    rw [ByteArray.size_append, ByteArray.size_append]
    omega
  · decide
theorem itemT_some {g : Gram} {x : Item} (h : itemOk g x = true) : (itemT g x).toList.isEmpty = false := by
  rw [list_isEmpty]
  refine decide_eq_false (fun e => ?_)
  unfold itemT at e
  rw [if_pos h, ByteArray.size_append, ByteArray.size_append] at e
  unfold itemOk at h
  simp only [Bool.and_eq_true, Bool.not_eq_true'] at h
  have := ba_size0 (s := nameOf g x) (by omega)
  rw [this, ba_same] at h
  exact absurd h.1 (by decide)
theorem itemT_none {g : Gram} {x : Item} (h : itemOk g x = false) : itemT g x = ByteArray.empty := by
  unfold itemT
  rw [if_neg (by rw [h]; exact Bool.false_ne_true)]
end Go.Proofs.YtfmdmeokbbpmlaaGreat
