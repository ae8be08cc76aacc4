/-
  The chapter's example, by reckoning (plain): its grammar and tree, what is found in them.
-/
import Derived.Test.YtdbbjlphlbndkaaGreatFindX
import Derived.Test.YtdbbjlphlbndkaaGreatLitTx
import Derived.Test.YtdbbjlphlbndkaaGreatGramC
namespace Go.Proofs.YtdbbjlphlbndkaaGreat.T
open Go.RowKit Go.Shelf

abbrev w41 : ByteArray := ⟨#[119, 111, 114, 100]⟩
abbrev d41 : ByteArray := ⟨#[100, 111, 99]⟩
abbrev i41 : ByteArray := ⟨#[105, 116, 101, 109]⟩
abbrev a41 : ByteArray := ⟨#[97]⟩
abbrev sel41 : ByteArray := ⟨#[47, 47, 105, 116, 101, 109, 47, 119, 111, 114, 100]⟩
abbrev doc41 : ByteArray := ⟨#[47, 100, 111, 99]⟩
abbrev x41 : ByteArray := ⟨#[47, 120]⟩
abbrev s41 : ByteArray := ⟨#[47]⟩
def g41 : Gram := ⟨[⟨w41, [rxA], 0⟩], [d41, i41], [⟨0, [⟨true, 1, 0, 0⟩]⟩, ⟨1, [⟨false, 0, 0, 0⟩]⟩], 0, 9, 9, 9, 9⟩
def t41 : List Node := [⟨1, 0, 4, [], ⟨#[]⟩⟩, ⟨2, 0, 3, [], ⟨#[]⟩⟩, ⟨2, 1, 2, [], ⟨#[]⟩⟩, ⟨3, 0, 1, [], a41⟩]
theorem g41_right : rightB g41 = true := rightC_right (by kernel_rfl)
theorem t41_tree : Tree t41 := by
  have s0 : sz t41 0 = 4 := rfl
  have s1 : sz t41 1 = 3 := rfl
  have s2 : sz t41 2 = 2 := rfl
  have s3 : sz t41 3 = 1 := rfl
  refine ⟨⟨_, rfl, rfl⟩, by rw [s0]; decide, by rw [s0]; decide, fun m _ hm => ?_⟩
  rw [s0] at hm ⊢
  have hc : m = 0 ∨ m = 1 ∨ m = 2 ∨ m = 3 := by omega
  have hk : ∀ k, k = 0 ∨ k = 1 ∨ k = 2 ∨ k = 3 ∨ 4 ≤ k := fun k => by omega
  have hl : ∀ (k n s : Int), (k = 2 ∨ k = 1) → 1 ≤ s → Local ⟨k, n, s, [], ⟨#[]⟩⟩ := fun k n s h hs => by
    unfold Local openK textedK
    dsimp only
    exact ⟨by omega, by omega, by omega, fun h' => by omega, fun _ => ⟨rfl, rfl⟩⟩
  have hl3 : Local ⟨3, 0, 1, [], a41⟩ := by
    unfold Local openK textedK
    dsimp only
    exact ⟨by omega, by omega, by omega, fun h' => rfl, fun h' => absurd (.inl rfl) h'⟩
  rcases hc with rfl | rfl | rfl | rfl
  · refine ⟨⟨⟨_, rfl, hl _ _ _ (by decide) (by decide)⟩, fun k h1 h2 => ?_⟩, by rw [s0]; decide⟩
    rw [s0] at h2 ⊢
    rcases hk k with rfl | rfl | rfl | rfl | h <;> first | omega | (rw [s1]; omega) | (rw [s2]; omega) | (rw [s3]; omega)
  · refine ⟨⟨⟨_, rfl, hl _ _ _ (by decide) (by decide)⟩, fun k h1 h2 => ?_⟩, by rw [s1]; decide⟩
    rw [s1] at h2 ⊢
    rcases hk k with rfl | rfl | rfl | rfl | h <;> first | omega | (rw [s1]; omega) | (rw [s2]; omega) | (rw [s3]; omega)
  · refine ⟨⟨⟨_, rfl, hl _ _ _ (by decide) (by decide)⟩, fun k h1 h2 => ?_⟩, by rw [s2]; decide⟩
    rw [s2] at h2 ⊢
    rcases hk k with rfl | rfl | rfl | rfl | h <;> first | omega | (rw [s1]; omega) | (rw [s2]; omega) | (rw [s3]; omega)
  · refine ⟨⟨⟨_, rfl, hl3⟩, fun k h1 h2 => ?_⟩, by rw [s3]; decide⟩
    rw [s3] at h2
    omega
theorem place41 {i : Nat} (h : i < 4) : placeB t41 (i : Int) = true := placeB_iff.2 ⟨by omega, by show (i : Int) < ((4 : Nat) : Int); omega, t41_tree⟩
theorem kids41_0 : kidsOf t41 (0 : Nat) = [1] := by
  unfold kidsOf
  rw [if_pos (place41 (by decide))]
  show kidsFrom t41 4 1 = [1]
  rw [kidsFrom_lt (by decide) (by decide), kidsFrom_ge (by decide)]
theorem kids41_2 : kidsOf t41 (2 : Nat) = [3] := by
  unfold kidsOf
  rw [if_pos (place41 (by decide))]
  show kidsFrom t41 4 3 = [3]
  rw [kidsFrom_lt (by decide) (by decide), kidsFrom_ge (by decide)]
theorem steps41 : stepsL sel41.data.toList = [(i41, true), (w41, false)] := by
  rw [stepsL_cons (by decide)]
  rw [stepsL_cons (by decide)]
  rw [show (tailOf ((tailOf sel41.data.toList).drop (endOf (tailOf sel41.data.toList)))).drop (endOf (tailOf ((tailOf sel41.data.toList).drop (endOf (tailOf sel41.data.toList))))) = [] from by kernel_rfl, stepsL_nil]
  kernel_rfl
theorem stepsD : stepsL doc41.data.toList = [(d41, false)] := by
  rw [stepsL_cons (by decide), show (tailOf doc41.data.toList).drop (endOf (tailOf doc41.data.toList)) = [] from by kernel_rfl, stepsL_nil]
  kernel_rfl
theorem stepsX : stepsL x41.data.toList = [(⟨#[120]⟩, false)] := by
  rw [stepsL_cons (by decide), show (tailOf x41.data.toList).drop (endOf (tailOf x41.data.toList)) = [] from by kernel_rfl, stepsL_nil]
  kernel_rfl
theorem stepsS : stepsL s41.data.toList = [(⟨#[]⟩, false)] := by
  rw [stepsL_cons (by decide), show (tailOf s41.data.toList).drop (endOf (tailOf s41.data.toList)) = [] from by kernel_rfl, stepsL_nil]
  kernel_rfl
theorem bad_zero {g : Gram} {s : ByteArray} (h1 : (s.toList == [42]) = false) (h2 : s.toList.isEmpty = false) (h3 : nameC s = true) (h4 : 0 ≤ findNo g s) : badStep g s = 0 := by
  unfold badStep
  rw [h1, if_neg (by decide), h2, if_neg (by decide), nameC_name h3, if_neg (by decide), if_neg (by omega)]
theorem find_tok {g : Gram} {s : ByteArray} (h : s ∈ tokNames g) : 0 ≤ findNo g s := by
  unfold findNo
  have := (find_mem (tokNames g) s).2 h
  rw [if_pos this]
  exact this
theorem find_rule {g : Gram} {s : ByteArray} (h : s ∈ g.rules) : 0 ≤ findNo g s := by
  unfold findNo
  have := (find_mem g.rules s).2 h
  split
  · assumption
  · exact this
theorem find_none {g : Gram} {s : ByteArray} (h1 : s ∉ tokNames g) (h2 : s ∉ g.rules) : findNo g s < 0 := by
  unfold findNo
  have a1 : ¬ 0 ≤ Go.Proofs.YtdbbjlphlbndkaaGreat.findOf (tokNames g) s := fun h => h1 ((find_mem (tokNames g) s).1 h)
  have a2 : ¬ 0 ≤ Go.Proofs.YtdbbjlphlbndkaaGreat.findOf g.rules s := fun h => h2 ((find_mem g.rules s).1 h)
  rw [if_neg a1]
  omega
theorem check41 : checkF g41 sel41 = 0 := by
  unfold checkF
  rw [g41_right, if_neg (by decide), if_neg (by decide), if_neg (by decide), steps41]
  unfold checkL checkL checkL
  rw [bad_zero (g := g41) (s := i41) (by kernel_rfl) (by kernel_rfl) (by kernel_rfl) (find_rule (by simp [g41])), if_pos rfl,
    bad_zero (g := g41) (s := w41) (by kernel_rfl) (by kernel_rfl) (by kernel_rfl) (find_tok (by simp [g41, tokNames])), if_pos rfl]
theorem checkD : checkF g41 doc41 = 0 := by
  unfold checkF
  rw [g41_right, if_neg (by decide), if_neg (by decide), if_neg (by decide), stepsD]
  unfold checkL checkL
  rw [bad_zero (g := g41) (s := d41) (by kernel_rfl) (by kernel_rfl) (by kernel_rfl) (find_rule (by simp [g41])), if_pos rfl]
theorem checkS : checkF g41 s41 = 3 := by
  unfold checkF
  rw [g41_right, if_neg (by decide), if_neg (by decide), if_neg (by decide), stepsS]
  have : badStep g41 ⟨#[]⟩ = 3 := by
    unfold badStep
    rw [show (((⟨#[]⟩ : ByteArray).toList == [42]) = false) from by kernel_rfl, if_neg (by decide), show ((⟨#[]⟩ : ByteArray).toList.isEmpty = true) from by kernel_rfl, if_pos rfl]
  unfold checkL
  dsimp only
  rw [this, if_neg (by decide)]
theorem checkX : checkF g41 x41 = 11 := by
  unfold checkF
  rw [g41_right, if_neg (by decide), if_neg (by decide), if_neg (by decide), stepsX]
  have : badStep g41 ⟨#[120]⟩ = 11 := by
    unfold badStep
    rw [show (((⟨#[120]⟩ : ByteArray).toList == [42]) = false) from by kernel_rfl, if_neg (by decide), show ((⟨#[120]⟩ : ByteArray).toList.isEmpty = false) from by kernel_rfl, if_neg (by decide), nameC_name (by kernel_rfl), if_neg (by decide), if_pos (find_none (by simp [g41, tokNames]) (by simp [g41]))]
  unfold checkL
  dsimp only
  rw [this, if_neg (by decide)]
theorem err41 : ofErr g41 t41 sel41 = 0 := by
  unfold ofErr
  rw [if_neg (by rw [check41]; decide), if_neg (by rw [treeB_iff.2 t41_tree]; decide)]
theorem errD : ofErr g41 t41 doc41 = 0 := by
  unfold ofErr
  rw [if_neg (by rw [checkD]; decide), if_neg (by rw [treeB_iff.2 t41_tree]; decide)]
theorem pass41a : passO g41 t41 [true, false, false, false] (i41, true) = [false, false, true, false] := by kernel_rfl
theorem pass41b : passO g41 t41 [false, false, true, false] (w41, false) = [false, false, false, true] := by
  have : passO g41 t41 [false, false, true, false] (w41, false) = (rowO t41 false 2).foldl (takeF g41 t41 w41) [false, false, false, false] := by kernel_rfl
  rw [this, show rowO t41 false 2 = kidsOf t41 (2 : Nat) from rfl, kids41_2]
  have h : [3].foldl (takeF g41 t41 w41) [false, false, false, false] = [false, false, false, true] := by kernel_rfl
  exact h
theorem passD : passO g41 t41 [true, false, false, false] (d41, false) = [false, true, false, false] := by
  have : passO g41 t41 [true, false, false, false] (d41, false) = (rowO t41 false 0).foldl (takeF g41 t41 d41) [false, false, false, false] := by kernel_rfl
  rw [this, show rowO t41 false 0 = kidsOf t41 (0 : Nat) from rfl, kids41_0]
  have h : [1].foldl (takeF g41 t41 d41) [false, false, false, false] = [false, true, false, false] := by kernel_rfl
  exact h
theorem row41 : ofRow g41 t41 sel41 = [3] := by
  unfold ofRow
  rw [if_neg (by rw [err41]; decide), steps41]
  show foundO (passO g41 t41 (passO g41 t41 [true, false, false, false] (i41, true)) (w41, false)) = [3]
  rw [pass41a, pass41b]
  kernel_rfl
theorem rowD41 : ofRow g41 t41 doc41 = [1] := by
  unfold ofRow
  rw [if_neg (by rw [errD]; decide), stepsD]
  show foundO (passO g41 t41 [true, false, false, false] (d41, false)) = [1]
  rw [passD]
  kernel_rfl
theorem leaves41 : leavesOf t41 = [3] := by
  unfold leavesOf leavesTo
  rw [if_pos (treeB_iff.2 t41_tree)]
  kernel_rfl
theorem text41 : textOf t41 = [97] := by
  unfold textOf
  rw [leaves41]
  show textL t41 [0] = [97]
  unfold textL nodeY
  rw [leaves41]
  kernel_rfl
theorem span41 (i : Nat) (h : i < 4) : spanOf t41 (i : Int) = (0, 1, true) := by
  unfold spanOf
  rw [if_pos (place41 h)]
  have hc : i = 0 ∨ i = 1 ∨ i = 2 ∨ i = 3 := by omega
  have hs : ∀ z : Nat × Nat × Bool, z.2.2 = false → z.1 = 0 → z.2.1 = 0 → ∀ k, k = 0 ∨ k = 1 ∨ k = 2 ∨ k = 3 → stepP t41 k (sz t41 k) z 0 = (0, 1, true) := by
    intro z h1 h2 h3 k hk
    obtain ⟨z1, z2, z3⟩ := z
    dsimp only at h1 h2 h3
    subst h1 h2 h3
    unfold stepP ownY nodeY fromY
    rw [leaves41]
    rcases hk with rfl | rfl | rfl | rfl <;> kernel_rfl
  have hp : ∀ k, k = 0 ∨ k = 1 ∨ k = 2 ∨ k = 3 → spanP t41 k (sz t41 k) (List.range (leavesOf t41).length) = (0, 1, true) := by
    intro k hk
    rw [leaves41]
    show stepP t41 k (sz t41 k) (0, 0, false) 0 = _
    exact hs _ rfl rfl rfl k hk
  rw [Int.toNat_natCast, hp i hc]
theorem texts41 : textsO g41 t41 doc41 = [a41] := by
  unfold textsO
  rw [rowD41]
  show [partT t41 1] = [a41]
  unfold partT
  rw [text41, span41 1 (by decide)]
  kernel_rfl
theorem bulk41 : bulkT t41 ≤ 1048576 := by decide
theorem small41 : Small g41 := ⟨by decide, by decide, by decide, by intro s h; simp [allNames, tokNames, g41] at h; rcases h with rfl | rfl | rfl <;> decide⟩
end Go.Proofs.YtdbbjlphlbndkaaGreat.T
