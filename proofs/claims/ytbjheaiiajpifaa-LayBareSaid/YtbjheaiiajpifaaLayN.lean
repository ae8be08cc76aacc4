/-
  law38.knows: the chapter's example.
-/
import Derived.Test.YtbjheaiiajpifaaLayM
import Derived.Test.YtbjheaiiajpifaaLayA
import Derived.Test.YtbjheaiiajpifaaLitTx
import Derived.Test.YtbjheaiiajpifaaGramC
namespace Go.Proofs.Ytbjheaiiajpifaa.T
open Go.RowKit Go.Shelf

abbrev n38a : ByteArray := ⟨#[97]⟩
abbrev n38b : ByteArray := ⟨#[98]⟩
abbrev n38s : ByteArray := ⟨#[115]⟩
abbrev n38x : ByteArray := ⟨#[120]⟩
def g38 : Gram := ⟨[⟨n38a, [rxA], 0⟩, ⟨n38b, [rxB], 0⟩], [n38s, n38x], [⟨0, [⟨true, 1, 2, 2⟩]⟩, ⟨1, [⟨false, 0, 1, 0⟩, ⟨false, 1, 0, 0⟩]⟩], 0, 9, 9, 9, 9⟩
def t38 : List Node := [⟨2, 0, 4, [], ⟨#[]⟩⟩, ⟨2, 1, 3, [], ⟨#[]⟩⟩, ⟨3, 0, 1, [], ⟨#[]⟩⟩, ⟨3, 1, 1, [], ⟨#[]⟩⟩]
theorem g38_right : rightB g38 = true := rightC_right (by kernel_rfl)
theorem t38_tree : Tree t38 := by
  have s0 : sz t38 0 = 4 := rfl
  have s1 : sz t38 1 = 3 := rfl
  have s2 : sz t38 2 = 1 := rfl
  have s3 : sz t38 3 = 1 := rfl
  refine ⟨⟨_, rfl, rfl⟩, by rw [s0]; decide, by rw [s0]; decide, fun m _ hm => ?_⟩
  rw [s0] at hm ⊢
  have hc : m = 0 ∨ m = 1 ∨ m = 2 ∨ m = 3 := by omega
  have hk : ∀ k, k = 0 ∨ k = 1 ∨ k = 2 ∨ k = 3 ∨ 4 ≤ k := fun k => by omega
  have hl : ∀ (k n s : Int), (k = 2 ∧ 1 ≤ s) ∨ (k = 3 ∧ s = 1) → Local ⟨k, n, s, [], ⟨#[]⟩⟩ := fun k n s h => by
    unfold Local openK textedK
    dsimp only
    exact ⟨by omega, by omega, by omega, fun h' => by omega, fun _ => ⟨rfl, rfl⟩⟩
  rcases hc with rfl | rfl | rfl | rfl
  · refine ⟨⟨⟨_, rfl, hl _ _ _ (by decide)⟩, fun k h1 h2 => ?_⟩, by rw [s0]; decide⟩
    rw [s0] at h2 ⊢
    rcases hk k with rfl | rfl | rfl | rfl | h <;> first | omega | (rw [s1]; omega) | (rw [s2]; omega) | (rw [s3]; omega)
  · refine ⟨⟨⟨_, rfl, hl _ _ _ (by decide)⟩, fun k h1 h2 => ?_⟩, by rw [s1]; decide⟩
    rw [s1] at h2 ⊢
    rcases hk k with rfl | rfl | rfl | rfl | h <;> first | omega | (rw [s1]; omega) | (rw [s2]; omega) | (rw [s3]; omega)
  · refine ⟨⟨⟨_, rfl, hl _ _ _ (by decide)⟩, fun k h1 h2 => ?_⟩, by rw [s2]; decide⟩
    rw [s2] at h2
    omega
  · refine ⟨⟨⟨_, rfl, hl _ _ _ (by decide)⟩, fun k h1 h2 => ?_⟩, by rw [s3]; decide⟩
    rw [s3] at h2
    omega
theorem kids38_0 : kidsL t38 0 = [1] := by
  show kidsFrom t38 4 1 = [1]
  rw [kidsFrom_lt (by decide) (by decide), kidsFrom_ge (by decide)]
theorem kids38_1 : kidsL t38 1 = [2, 3] := by
  show kidsFrom t38 4 2 = [2, 3]
  rw [kidsFrom_lt (by decide) (by decide), show 2 + sz t38 2 = 3 from rfl, kidsFrom_lt (by decide) (by decide), kidsFrom_ge (by decide)]
theorem item38_1 : itemOf g38 t38 1 = some ⟨true, 1, 2, 2⟩ := by rw [item_kid t38_tree (i := 0) (k := 0) (by decide) (by rw [kids38_0]; rfl), kids38_0]; rfl
theorem item38_2 : itemOf g38 t38 2 = some ⟨false, 0, 1, 0⟩ := by rw [item_kid t38_tree (i := 1) (k := 0) (by decide) (by rw [kids38_1]; rfl), kids38_1]; rfl
theorem item38_3 : itemOf g38 t38 3 = some ⟨false, 1, 0, 0⟩ := by rw [item_kid t38_tree (i := 1) (k := 1) (by decide) (by rw [kids38_1]; rfl), kids38_1]; rfl
theorem gap38_0 (b : Nat) : gapUp g38 t38 b 0 = 0 := by
  rw [gapUp_none (up_zero _)]
  unfold gapIt
  rw [show itemOf g38 t38 0 = none from by unfold itemOf; rw [if_pos (Or.inl (show upN t38 0 0 < 0 by rw [up_zero]; decide))]]
  simp [itemD, zeroIt]
theorem in38_0 : inUp g38 t38 0 = 0 := (style_top g38 t38).2
theorem in38_1 : inUp g38 t38 1 = 2 := by rw [inUp_some (a := 0) rfl, in38_0]; unfold inIt; rw [item38_1]; rfl
theorem pl38_2 : placeAt g38 t38 2 = ⟨2, 2, 2⟩ := by
  unfold placeAt
  rw [gapUp_some (a := 1) rfl, gapUp_some (a := 0) rfl, gap38_0, inUp_some (a := 1) rfl, in38_1]
  unfold gapIt inIt
  rw [item38_2, item38_1]
  rfl
theorem pl38_3 : placeAt g38 t38 3 = ⟨3, 0, 2⟩ := by
  unfold placeAt
  rw [gapUp_some (a := 1) rfl, gapUp_some (a := 0) rfl, gap38_0, inUp_some (a := 1) rfl, in38_1]
  unfold gapIt inIt
  rw [item38_3, item38_1]
  rfl
theorem places38 : placesOf g38 t38 = [⟨2, 2, 2⟩, ⟨3, 0, 2⟩] := by
  rw [placesOf_in g38_right t38_tree]
  show [placeAt g38 t38 2, placeAt g38 t38 3] = _
  rw [pl38_2, pl38_3]

theorem lit38 (W : World) (n c2 c3 : Nat) (A2 A3 : Option Addr) (hn : n = W.heap.size) (HA : Rd W (Old W) 5 (.slice A2 1 c2) 1 (rxCells rxA)) (HB : Rd W (Old W) 5 (.slice A3 1 c3) 1 (rxCells rxB)) :
    GramIs (((((((W.alloc (.cells #[.string n38a, .slice A2 1 c2, .int .i64 0, .string n38b, .slice A3 1 c3, .int .i64 0] 88)).alloc (.cells #[.string n38s, .string n38x] 9)).alloc (.cells #[.bool true, .int .i64 1, .int .i64 2, .int .i64 2] 80)).alloc (.cells #[.bool false, .int .i64 0, .int .i64 1, .int .i64 0, .bool false, .int .i64 1, .int .i64 0, .int .i64 0] 80)).alloc (.cells #[.int .i64 0, .slice (some ⟨n + 1 + 1, 0, none⟩) 1 1, .int .i64 1, .slice (some ⟨n + 1 + 1 + 1, 0, none⟩) 2 2] 77)).alloc (.cells #[.slice (some ⟨n, 0, none⟩) 2 2, .slice (some ⟨n + 1, 0, none⟩) 2 2, .slice (some ⟨n + 1 + 1 + 1 + 1, 0, none⟩) 2 2, .int .i64 0, .int .i64 9, .int .i64 9, .int .i64 9, .int .i64 9] 26)).alloc (.cells #[.int .i64 2, .int .i64 0, .int .i64 4, .slice none 0 0, .string ⟨#[]⟩, .int .i64 2, .int .i64 1, .int .i64 3, .slice none 0 0, .string ⟨#[]⟩, .int .i64 3, .int .i64 0, .int .i64 1, .slice none 0 0, .string ⟨#[]⟩, .int .i64 3, .int .i64 1, .int .i64 1, .slice none 0 0, .string ⟨#[]⟩] 58)) (Old (((((((W.alloc (.cells #[.string n38a, .slice A2 1 c2, .int .i64 0, .string n38b, .slice A3 1 c3, .int .i64 0] 88)).alloc (.cells #[.string n38s, .string n38x] 9)).alloc (.cells #[.bool true, .int .i64 1, .int .i64 2, .int .i64 2] 80)).alloc (.cells #[.bool false, .int .i64 0, .int .i64 1, .int .i64 0, .bool false, .int .i64 1, .int .i64 0, .int .i64 0] 80)).alloc (.cells #[.int .i64 0, .slice (some ⟨n + 1 + 1, 0, none⟩) 1 1, .int .i64 1, .slice (some ⟨n + 1 + 1 + 1, 0, none⟩) 2 2] 77)).alloc (.cells #[.slice (some ⟨n, 0, none⟩) 2 2, .slice (some ⟨n + 1, 0, none⟩) 2 2, .slice (some ⟨n + 1 + 1 + 1 + 1, 0, none⟩) 2 2, .int .i64 0, .int .i64 9, .int .i64 9, .int .i64 9, .int .i64 9] 26)).alloc (.cells #[.int .i64 2, .int .i64 0, .int .i64 4, .slice none 0 0, .string ⟨#[]⟩, .int .i64 2, .int .i64 1, .int .i64 3, .slice none 0 0, .string ⟨#[]⟩, .int .i64 3, .int .i64 0, .int .i64 1, .slice none 0 0, .string ⟨#[]⟩, .int .i64 3, .int .i64 1, .int .i64 1, .slice none 0 0, .string ⟨#[]⟩] 58))) (.slice (some ⟨n, 0, none⟩) 2 2) (.slice (some ⟨n + 1, 0, none⟩) 2 2) (.slice (some ⟨n + 1 + 1 + 1 + 1, 0, none⟩) 2 2) g38 ∧ Nds (((((((W.alloc (.cells #[.string n38a, .slice A2 1 c2, .int .i64 0, .string n38b, .slice A3 1 c3, .int .i64 0] 88)).alloc (.cells #[.string n38s, .string n38x] 9)).alloc (.cells #[.bool true, .int .i64 1, .int .i64 2, .int .i64 2] 80)).alloc (.cells #[.bool false, .int .i64 0, .int .i64 1, .int .i64 0, .bool false, .int .i64 1, .int .i64 0, .int .i64 0] 80)).alloc (.cells #[.int .i64 0, .slice (some ⟨n + 1 + 1, 0, none⟩) 1 1, .int .i64 1, .slice (some ⟨n + 1 + 1 + 1, 0, none⟩) 2 2] 77)).alloc (.cells #[.slice (some ⟨n, 0, none⟩) 2 2, .slice (some ⟨n + 1, 0, none⟩) 2 2, .slice (some ⟨n + 1 + 1 + 1 + 1, 0, none⟩) 2 2, .int .i64 0, .int .i64 9, .int .i64 9, .int .i64 9, .int .i64 9] 26)).alloc (.cells #[.int .i64 2, .int .i64 0, .int .i64 4, .slice none 0 0, .string ⟨#[]⟩, .int .i64 2, .int .i64 1, .int .i64 3, .slice none 0 0, .string ⟨#[]⟩, .int .i64 3, .int .i64 0, .int .i64 1, .slice none 0 0, .string ⟨#[]⟩, .int .i64 3, .int .i64 1, .int .i64 1, .slice none 0 0, .string ⟨#[]⟩] 58)) (Old (((((((W.alloc (.cells #[.string n38a, .slice A2 1 c2, .int .i64 0, .string n38b, .slice A3 1 c3, .int .i64 0] 88)).alloc (.cells #[.string n38s, .string n38x] 9)).alloc (.cells #[.bool true, .int .i64 1, .int .i64 2, .int .i64 2] 80)).alloc (.cells #[.bool false, .int .i64 0, .int .i64 1, .int .i64 0, .bool false, .int .i64 1, .int .i64 0, .int .i64 0] 80)).alloc (.cells #[.int .i64 0, .slice (some ⟨n + 1 + 1, 0, none⟩) 1 1, .int .i64 1, .slice (some ⟨n + 1 + 1 + 1, 0, none⟩) 2 2] 77)).alloc (.cells #[.slice (some ⟨n, 0, none⟩) 2 2, .slice (some ⟨n + 1, 0, none⟩) 2 2, .slice (some ⟨n + 1 + 1 + 1 + 1, 0, none⟩) 2 2, .int .i64 0, .int .i64 9, .int .i64 9, .int .i64 9, .int .i64 9] 26)).alloc (.cells #[.int .i64 2, .int .i64 0, .int .i64 4, .slice none 0 0, .string ⟨#[]⟩, .int .i64 2, .int .i64 1, .int .i64 3, .slice none 0 0, .string ⟨#[]⟩, .int .i64 3, .int .i64 0, .int .i64 1, .slice none 0 0, .string ⟨#[]⟩, .int .i64 3, .int .i64 1, .int .i64 1, .slice none 0 0, .string ⟨#[]⟩] 58))) (.slice (some ⟨n + 1 + 1 + 1 + 1 + 1 + 1, 0, none⟩) 4 4) t38 := by
  have h0 : Holds (((((((W.alloc (.cells #[.string n38a, .slice A2 1 c2, .int .i64 0, .string n38b, .slice A3 1 c3, .int .i64 0] 88)).alloc (.cells #[.string n38s, .string n38x] 9)).alloc (.cells #[.bool true, .int .i64 1, .int .i64 2, .int .i64 2] 80)).alloc (.cells #[.bool false, .int .i64 0, .int .i64 1, .int .i64 0, .bool false, .int .i64 1, .int .i64 0, .int .i64 0] 80)).alloc (.cells #[.int .i64 0, .slice (some ⟨n + 1 + 1, 0, none⟩) 1 1, .int .i64 1, .slice (some ⟨n + 1 + 1 + 1, 0, none⟩) 2 2] 77)).alloc (.cells #[.slice (some ⟨n, 0, none⟩) 2 2, .slice (some ⟨n + 1, 0, none⟩) 2 2, .slice (some ⟨n + 1 + 1 + 1 + 1, 0, none⟩) 2 2, .int .i64 0, .int .i64 9, .int .i64 9, .int .i64 9, .int .i64 9] 26)).alloc (.cells #[.int .i64 2, .int .i64 0, .int .i64 4, .slice none 0 0, .string ⟨#[]⟩, .int .i64 2, .int .i64 1, .int .i64 3, .slice none 0 0, .string ⟨#[]⟩, .int .i64 3, .int .i64 0, .int .i64 1, .slice none 0 0, .string ⟨#[]⟩, .int .i64 3, .int .i64 1, .int .i64 1, .slice none 0 0, .string ⟨#[]⟩] 58)) (n) 88 #[.string n38a, .slice A2 1 c2, .int .i64 0, .string n38b, .slice A3 1 c3, .int .i64 0] := by
    subst hn
    exact (((((((Holds.new_at (by simp)).alloc _).alloc _).alloc _).alloc _).alloc _).alloc _)
  have h1 : Holds (((((((W.alloc (.cells #[.string n38a, .slice A2 1 c2, .int .i64 0, .string n38b, .slice A3 1 c3, .int .i64 0] 88)).alloc (.cells #[.string n38s, .string n38x] 9)).alloc (.cells #[.bool true, .int .i64 1, .int .i64 2, .int .i64 2] 80)).alloc (.cells #[.bool false, .int .i64 0, .int .i64 1, .int .i64 0, .bool false, .int .i64 1, .int .i64 0, .int .i64 0] 80)).alloc (.cells #[.int .i64 0, .slice (some ⟨n + 1 + 1, 0, none⟩) 1 1, .int .i64 1, .slice (some ⟨n + 1 + 1 + 1, 0, none⟩) 2 2] 77)).alloc (.cells #[.slice (some ⟨n, 0, none⟩) 2 2, .slice (some ⟨n + 1, 0, none⟩) 2 2, .slice (some ⟨n + 1 + 1 + 1 + 1, 0, none⟩) 2 2, .int .i64 0, .int .i64 9, .int .i64 9, .int .i64 9, .int .i64 9] 26)).alloc (.cells #[.int .i64 2, .int .i64 0, .int .i64 4, .slice none 0 0, .string ⟨#[]⟩, .int .i64 2, .int .i64 1, .int .i64 3, .slice none 0 0, .string ⟨#[]⟩, .int .i64 3, .int .i64 0, .int .i64 1, .slice none 0 0, .string ⟨#[]⟩, .int .i64 3, .int .i64 1, .int .i64 1, .slice none 0 0, .string ⟨#[]⟩] 58)) (n + 1) 9 #[.string n38s, .string n38x] := by
    subst hn
    exact ((((((Holds.new_at (by simp)).alloc _).alloc _).alloc _).alloc _).alloc _)
  have h2 : Holds (((((((W.alloc (.cells #[.string n38a, .slice A2 1 c2, .int .i64 0, .string n38b, .slice A3 1 c3, .int .i64 0] 88)).alloc (.cells #[.string n38s, .string n38x] 9)).alloc (.cells #[.bool true, .int .i64 1, .int .i64 2, .int .i64 2] 80)).alloc (.cells #[.bool false, .int .i64 0, .int .i64 1, .int .i64 0, .bool false, .int .i64 1, .int .i64 0, .int .i64 0] 80)).alloc (.cells #[.int .i64 0, .slice (some ⟨n + 1 + 1, 0, none⟩) 1 1, .int .i64 1, .slice (some ⟨n + 1 + 1 + 1, 0, none⟩) 2 2] 77)).alloc (.cells #[.slice (some ⟨n, 0, none⟩) 2 2, .slice (some ⟨n + 1, 0, none⟩) 2 2, .slice (some ⟨n + 1 + 1 + 1 + 1, 0, none⟩) 2 2, .int .i64 0, .int .i64 9, .int .i64 9, .int .i64 9, .int .i64 9] 26)).alloc (.cells #[.int .i64 2, .int .i64 0, .int .i64 4, .slice none 0 0, .string ⟨#[]⟩, .int .i64 2, .int .i64 1, .int .i64 3, .slice none 0 0, .string ⟨#[]⟩, .int .i64 3, .int .i64 0, .int .i64 1, .slice none 0 0, .string ⟨#[]⟩, .int .i64 3, .int .i64 1, .int .i64 1, .slice none 0 0, .string ⟨#[]⟩] 58)) (n + 1 + 1) 80 #[.bool true, .int .i64 1, .int .i64 2, .int .i64 2] := by
    subst hn
    exact (((((Holds.new_at (by simp)).alloc _).alloc _).alloc _).alloc _)
  have h3 : Holds (((((((W.alloc (.cells #[.string n38a, .slice A2 1 c2, .int .i64 0, .string n38b, .slice A3 1 c3, .int .i64 0] 88)).alloc (.cells #[.string n38s, .string n38x] 9)).alloc (.cells #[.bool true, .int .i64 1, .int .i64 2, .int .i64 2] 80)).alloc (.cells #[.bool false, .int .i64 0, .int .i64 1, .int .i64 0, .bool false, .int .i64 1, .int .i64 0, .int .i64 0] 80)).alloc (.cells #[.int .i64 0, .slice (some ⟨n + 1 + 1, 0, none⟩) 1 1, .int .i64 1, .slice (some ⟨n + 1 + 1 + 1, 0, none⟩) 2 2] 77)).alloc (.cells #[.slice (some ⟨n, 0, none⟩) 2 2, .slice (some ⟨n + 1, 0, none⟩) 2 2, .slice (some ⟨n + 1 + 1 + 1 + 1, 0, none⟩) 2 2, .int .i64 0, .int .i64 9, .int .i64 9, .int .i64 9, .int .i64 9] 26)).alloc (.cells #[.int .i64 2, .int .i64 0, .int .i64 4, .slice none 0 0, .string ⟨#[]⟩, .int .i64 2, .int .i64 1, .int .i64 3, .slice none 0 0, .string ⟨#[]⟩, .int .i64 3, .int .i64 0, .int .i64 1, .slice none 0 0, .string ⟨#[]⟩, .int .i64 3, .int .i64 1, .int .i64 1, .slice none 0 0, .string ⟨#[]⟩] 58)) (n + 1 + 1 + 1) 80 #[.bool false, .int .i64 0, .int .i64 1, .int .i64 0, .bool false, .int .i64 1, .int .i64 0, .int .i64 0] := by
    subst hn
    exact ((((Holds.new_at (by simp)).alloc _).alloc _).alloc _)
  have h4 : Holds (((((((W.alloc (.cells #[.string n38a, .slice A2 1 c2, .int .i64 0, .string n38b, .slice A3 1 c3, .int .i64 0] 88)).alloc (.cells #[.string n38s, .string n38x] 9)).alloc (.cells #[.bool true, .int .i64 1, .int .i64 2, .int .i64 2] 80)).alloc (.cells #[.bool false, .int .i64 0, .int .i64 1, .int .i64 0, .bool false, .int .i64 1, .int .i64 0, .int .i64 0] 80)).alloc (.cells #[.int .i64 0, .slice (some ⟨n + 1 + 1, 0, none⟩) 1 1, .int .i64 1, .slice (some ⟨n + 1 + 1 + 1, 0, none⟩) 2 2] 77)).alloc (.cells #[.slice (some ⟨n, 0, none⟩) 2 2, .slice (some ⟨n + 1, 0, none⟩) 2 2, .slice (some ⟨n + 1 + 1 + 1 + 1, 0, none⟩) 2 2, .int .i64 0, .int .i64 9, .int .i64 9, .int .i64 9, .int .i64 9] 26)).alloc (.cells #[.int .i64 2, .int .i64 0, .int .i64 4, .slice none 0 0, .string ⟨#[]⟩, .int .i64 2, .int .i64 1, .int .i64 3, .slice none 0 0, .string ⟨#[]⟩, .int .i64 3, .int .i64 0, .int .i64 1, .slice none 0 0, .string ⟨#[]⟩, .int .i64 3, .int .i64 1, .int .i64 1, .slice none 0 0, .string ⟨#[]⟩] 58)) (n + 1 + 1 + 1 + 1) 77 #[.int .i64 0, .slice (some ⟨n + 1 + 1, 0, none⟩) 1 1, .int .i64 1, .slice (some ⟨n + 1 + 1 + 1, 0, none⟩) 2 2] := by
    subst hn
    exact (((Holds.new_at (by simp)).alloc _).alloc _)
  have h5 : Holds (((((((W.alloc (.cells #[.string n38a, .slice A2 1 c2, .int .i64 0, .string n38b, .slice A3 1 c3, .int .i64 0] 88)).alloc (.cells #[.string n38s, .string n38x] 9)).alloc (.cells #[.bool true, .int .i64 1, .int .i64 2, .int .i64 2] 80)).alloc (.cells #[.bool false, .int .i64 0, .int .i64 1, .int .i64 0, .bool false, .int .i64 1, .int .i64 0, .int .i64 0] 80)).alloc (.cells #[.int .i64 0, .slice (some ⟨n + 1 + 1, 0, none⟩) 1 1, .int .i64 1, .slice (some ⟨n + 1 + 1 + 1, 0, none⟩) 2 2] 77)).alloc (.cells #[.slice (some ⟨n, 0, none⟩) 2 2, .slice (some ⟨n + 1, 0, none⟩) 2 2, .slice (some ⟨n + 1 + 1 + 1 + 1, 0, none⟩) 2 2, .int .i64 0, .int .i64 9, .int .i64 9, .int .i64 9, .int .i64 9] 26)).alloc (.cells #[.int .i64 2, .int .i64 0, .int .i64 4, .slice none 0 0, .string ⟨#[]⟩, .int .i64 2, .int .i64 1, .int .i64 3, .slice none 0 0, .string ⟨#[]⟩, .int .i64 3, .int .i64 0, .int .i64 1, .slice none 0 0, .string ⟨#[]⟩, .int .i64 3, .int .i64 1, .int .i64 1, .slice none 0 0, .string ⟨#[]⟩] 58)) (n + 1 + 1 + 1 + 1 + 1) 26 #[.slice (some ⟨n, 0, none⟩) 2 2, .slice (some ⟨n + 1, 0, none⟩) 2 2, .slice (some ⟨n + 1 + 1 + 1 + 1, 0, none⟩) 2 2, .int .i64 0, .int .i64 9, .int .i64 9, .int .i64 9, .int .i64 9] := by
    subst hn
    exact ((Holds.new_at (by simp)).alloc _)
  have h6 : Holds (((((((W.alloc (.cells #[.string n38a, .slice A2 1 c2, .int .i64 0, .string n38b, .slice A3 1 c3, .int .i64 0] 88)).alloc (.cells #[.string n38s, .string n38x] 9)).alloc (.cells #[.bool true, .int .i64 1, .int .i64 2, .int .i64 2] 80)).alloc (.cells #[.bool false, .int .i64 0, .int .i64 1, .int .i64 0, .bool false, .int .i64 1, .int .i64 0, .int .i64 0] 80)).alloc (.cells #[.int .i64 0, .slice (some ⟨n + 1 + 1, 0, none⟩) 1 1, .int .i64 1, .slice (some ⟨n + 1 + 1 + 1, 0, none⟩) 2 2] 77)).alloc (.cells #[.slice (some ⟨n, 0, none⟩) 2 2, .slice (some ⟨n + 1, 0, none⟩) 2 2, .slice (some ⟨n + 1 + 1 + 1 + 1, 0, none⟩) 2 2, .int .i64 0, .int .i64 9, .int .i64 9, .int .i64 9, .int .i64 9] 26)).alloc (.cells #[.int .i64 2, .int .i64 0, .int .i64 4, .slice none 0 0, .string ⟨#[]⟩, .int .i64 2, .int .i64 1, .int .i64 3, .slice none 0 0, .string ⟨#[]⟩, .int .i64 3, .int .i64 0, .int .i64 1, .slice none 0 0, .string ⟨#[]⟩, .int .i64 3, .int .i64 1, .int .i64 1, .slice none 0 0, .string ⟨#[]⟩] 58)) (n + 1 + 1 + 1 + 1 + 1 + 1) 58 #[.int .i64 2, .int .i64 0, .int .i64 4, .slice none 0 0, .string ⟨#[]⟩, .int .i64 2, .int .i64 1, .int .i64 3, .slice none 0 0, .string ⟨#[]⟩, .int .i64 3, .int .i64 0, .int .i64 1, .slice none 0 0, .string ⟨#[]⟩, .int .i64 3, .int .i64 1, .int .i64 1, .slice none 0 0, .string ⟨#[]⟩] := by
    subst hn
    exact (Holds.new_at (by simp))
  have hb : Below W.heap.size W (((((((W.alloc (.cells #[.string n38a, .slice A2 1 c2, .int .i64 0, .string n38b, .slice A3 1 c3, .int .i64 0] 88)).alloc (.cells #[.string n38s, .string n38x] 9)).alloc (.cells #[.bool true, .int .i64 1, .int .i64 2, .int .i64 2] 80)).alloc (.cells #[.bool false, .int .i64 0, .int .i64 1, .int .i64 0, .bool false, .int .i64 1, .int .i64 0, .int .i64 0] 80)).alloc (.cells #[.int .i64 0, .slice (some ⟨n + 1 + 1, 0, none⟩) 1 1, .int .i64 1, .slice (some ⟨n + 1 + 1 + 1, 0, none⟩) 2 2] 77)).alloc (.cells #[.slice (some ⟨n, 0, none⟩) 2 2, .slice (some ⟨n + 1, 0, none⟩) 2 2, .slice (some ⟨n + 1 + 1 + 1 + 1, 0, none⟩) 2 2, .int .i64 0, .int .i64 9, .int .i64 9, .int .i64 9, .int .i64 9] 26)).alloc (.cells #[.int .i64 2, .int .i64 0, .int .i64 4, .slice none 0 0, .string ⟨#[]⟩, .int .i64 2, .int .i64 1, .int .i64 3, .slice none 0 0, .string ⟨#[]⟩, .int .i64 3, .int .i64 0, .int .i64 1, .slice none 0 0, .string ⟨#[]⟩, .int .i64 3, .int .i64 1, .int .i64 1, .slice none 0 0, .string ⟨#[]⟩] 58)) := (by repeat (first | (with_reducible exact Below.refl _ _) | (with_reducible assumption) | (with_reducible refine Below.drew ?_) | (with_reducible refine below_drewN ?_ _) | ((with_reducible refine below_alloc ?_ ?_); (focus (first | omega | (simp; done) | (simp; omega)))) | ((with_reducible refine below_set ?_ ?_); (focus (first | omega | (simp; done) | (simp; omega))))))
  have HA' := Rd.old HA hb
  have HB' := Rd.old HB hb
  clear hb HA HB
  generalize (((((((W.alloc (.cells #[.string n38a, .slice A2 1 c2, .int .i64 0, .string n38b, .slice A3 1 c3, .int .i64 0] 88)).alloc (.cells #[.string n38s, .string n38x] 9)).alloc (.cells #[.bool true, .int .i64 1, .int .i64 2, .int .i64 2] 80)).alloc (.cells #[.bool false, .int .i64 0, .int .i64 1, .int .i64 0, .bool false, .int .i64 1, .int .i64 0, .int .i64 0] 80)).alloc (.cells #[.int .i64 0, .slice (some ⟨n + 1 + 1, 0, none⟩) 1 1, .int .i64 1, .slice (some ⟨n + 1 + 1 + 1, 0, none⟩) 2 2] 77)).alloc (.cells #[.slice (some ⟨n, 0, none⟩) 2 2, .slice (some ⟨n + 1, 0, none⟩) 2 2, .slice (some ⟨n + 1 + 1 + 1 + 1, 0, none⟩) 2 2, .int .i64 0, .int .i64 9, .int .i64 9, .int .i64 9, .int .i64 9] 26)).alloc (.cells #[.int .i64 2, .int .i64 0, .int .i64 4, .slice none 0 0, .string ⟨#[]⟩, .int .i64 2, .int .i64 1, .int .i64 3, .slice none 0 0, .string ⟨#[]⟩, .int .i64 3, .int .i64 0, .int .i64 1, .slice none 0 0, .string ⟨#[]⟩, .int .i64 3, .int .i64 1, .int .i64 1, .slice none 0 0, .string ⟨#[]⟩] 58)) = X at *
  refine ⟨⟨recs_lit [_, _] h0 h0.lt rfl rfl rfl rfl (by decide) ⟨HA', HB', trivial⟩, rd_lit' h1 h1.lt rfl rfl (by decide), recs_lit [_, _] h4 h4.lt rfl rfl rfl rfl (by decide) ⟨rd_lit' h2 h2.lt rfl rfl (by decide), rd_lit' h3 h3.lt rfl rfl (by decide), trivial⟩⟩, ?_⟩
  refine ⟨[.slice none 0 0, .slice none 0 0, .slice none 0 0, .slice none 0 0], rfl, rd_lit' h6 h6.lt rfl rfl (by decide), fun i x l h1 h2 => ?_⟩
  have hi : i < 4 := (List.getElem?_eq_some_iff.1 h1).1
  have hc : i = 0 ∨ i = 1 ∨ i = 2 ∨ i = 3 := by omega
  rcases hc with rfl | rfl | rfl | rfl <;> (cases h1; cases h2; exact Rd.nil _ _ _)

set_option maxRecDepth 20000 in
set_option maxHeartbeats 4000000 in
theorem some38 (w : World) : Calls Try.prog 56 #[] w fun r w' => (∃ a b c v, r = .returned (.tuple #[.agg (gramCells a b c g38), v]) ∧ Hid (GramIs w' (Old w') a b c g38) ∧ Hid (Nds w' (Old w') v t38)) ∧ Below w.heap.size w w' := by
  have HA := hidden text_A
  have HB := hidden text_B
  have HZ := hidden (Holds.new w 26 #[.slice none 0 0, .slice none 0 0, .slice none 0 0, .int .i64 0, .int .i64 0, .int .i64 0, .int .i64 0, .int .i64 0])
  have hb := (Below.refl w.heap.size w).alloc (Nat.le_refl _) (.cells #[.slice none 0 0, .slice none 0 0, .slice none 0 0, .int .i64 0, .int .i64 0, .int .i64 0, .int .i64 0, .int .i64 0] 26)
  go_enter Try.func56, Try.ntmps56
  go_wp2_with fail
  refine (HA.out _).mono ?_
  rintro r w2 ⟨⟨u2, rfl, HF⟩, hb2⟩
  obtain ⟨A2, c2, rfl⟩ := HF.out.value
  go_wp2_with fail
  refine (HB.out _).mono ?_
  rintro r w3 ⟨⟨u3, rfl, HF3⟩, hb3⟩
  have HZ3 := (HZ.out.below hb2 HZ.out.lt).below hb3 (HZ.out.below hb2 HZ.out.lt).lt
  have hbw := below_lit (below_lit hb hb2) hb3
  have hz2 := hb2.size
  simp only [World.size_alloc] at hz2
  have hz3 := hb3.size
  have HR2 := hidden (Mine.rd (Mine.below HF.out hb3) (T := fun j => w.heap.size < j ∧ j < w3.heap.size) (fun q _ h h2 => by simp at h; omega))
  have HR3 := hidden (Mine.rd HF3.out (T := fun j => w.heap.size < j ∧ j < w3.heap.size) (fun q _ h h2 => by omega))
  obtain ⟨A3, c3, rfl⟩ := HF3.out.value
  have o0 : w3.cell? ⟨w.heap.size, 0, none⟩ = some (.slice none 0 0) := HZ3.cell 0
  have f0 := HZ3.frozen 0
  have o1 : w3.cell? ⟨w.heap.size, 1, none⟩ = some (.slice none 0 0) := HZ3.cell 1
  have f1 := HZ3.frozen 1
  have o2 : w3.cell? ⟨w.heap.size, 2, none⟩ = some (.slice none 0 0) := HZ3.cell 2
  have f2 := HZ3.frozen 2
  have o3 : w3.cell? ⟨w.heap.size, 3, none⟩ = some (.int .i64 0) := HZ3.cell 3
  have f3 := HZ3.frozen 3
  have o4 : w3.cell? ⟨w.heap.size, 4, none⟩ = some (.int .i64 0) := HZ3.cell 4
  have f4 := HZ3.frozen 4
  have o5 : w3.cell? ⟨w.heap.size, 5, none⟩ = some (.int .i64 0) := HZ3.cell 5
  have f5 := HZ3.frozen 5
  have o6 : w3.cell? ⟨w.heap.size, 6, none⟩ = some (.int .i64 0) := HZ3.cell 6
  have f6 := HZ3.frozen 6
  have o7 : w3.cell? ⟨w.heap.size, 7, none⟩ = some (.int .i64 0) := HZ3.cell 7
  have f7 := HZ3.frozen 7
  have hl := HZ3.lt
  have hl1 : w.heap.size < w3.heap.size + 1 := by omega
  have hl2 : w.heap.size < w3.heap.size + 1 + 1 := by omega
  have hl3 : w.heap.size < w3.heap.size + 1 + 1 + 1 := by omega
  have hl4 : w.heap.size < w3.heap.size + 1 + 1 + 1 + 1 := by omega
  have hl5 : w.heap.size < w3.heap.size + 1 + 1 + 1 + 1 + 1 := by omega
  have hl6 : w.heap.size < w3.heap.size + 1 + 1 + 1 + 1 + 1 + 1 := by omega
  have hl7 : w.heap.size < w3.heap.size + 1 + 1 + 1 + 1 + 1 + 1 + 1 := by omega
  clear HF HF3 hb hb2 hb3 HZ HZ3 HA HB
  have hold : ∀ k, w.heap.size < k ∧ k < w3.heap.size → Old ((((((((w3.setCell ⟨w.heap.size, 0, none⟩ (.slice (some ⟨w3.heap.size, 0, none⟩) 2 2)).setCell ⟨w.heap.size, 1, none⟩ (.slice (some ⟨w3.heap.size + 1, 0, none⟩) 2 2)).setCell ⟨w.heap.size, 2, none⟩ (.slice (some ⟨w3.heap.size + 1 + 1 + 1 + 1, 0, none⟩) 2 2)).setCell ⟨w.heap.size, 3, none⟩ (.int .i64 0)).setCell ⟨w.heap.size, 4, none⟩ (.int .i64 9)).setCell ⟨w.heap.size, 5, none⟩ (.int .i64 9)).setCell ⟨w.heap.size, 6, none⟩ (.int .i64 9)).setCell ⟨w.heap.size, 7, none⟩ (.int .i64 9)) k := fun k hk => by simp [Old]; exact hk.2
  have hR2 : Rd ((((((((w3.setCell ⟨w.heap.size, 0, none⟩ (.slice (some ⟨w3.heap.size, 0, none⟩) 2 2)).setCell ⟨w.heap.size, 1, none⟩ (.slice (some ⟨w3.heap.size + 1, 0, none⟩) 2 2)).setCell ⟨w.heap.size, 2, none⟩ (.slice (some ⟨w3.heap.size + 1 + 1 + 1 + 1, 0, none⟩) 2 2)).setCell ⟨w.heap.size, 3, none⟩ (.int .i64 0)).setCell ⟨w.heap.size, 4, none⟩ (.int .i64 9)).setCell ⟨w.heap.size, 5, none⟩ (.int .i64 9)).setCell ⟨w.heap.size, 6, none⟩ (.int .i64 9)).setCell ⟨w.heap.size, 7, none⟩ (.int .i64 9)) (Old ((((((((w3.setCell ⟨w.heap.size, 0, none⟩ (.slice (some ⟨w3.heap.size, 0, none⟩) 2 2)).setCell ⟨w.heap.size, 1, none⟩ (.slice (some ⟨w3.heap.size + 1, 0, none⟩) 2 2)).setCell ⟨w.heap.size, 2, none⟩ (.slice (some ⟨w3.heap.size + 1 + 1 + 1 + 1, 0, none⟩) 2 2)).setCell ⟨w.heap.size, 3, none⟩ (.int .i64 0)).setCell ⟨w.heap.size, 4, none⟩ (.int .i64 9)).setCell ⟨w.heap.size, 5, none⟩ (.int .i64 9)).setCell ⟨w.heap.size, 6, none⟩ (.int .i64 9)).setCell ⟨w.heap.size, 7, none⟩ (.int .i64 9))) 5 (.slice A2 1 c2) 1 (rxCells rxA) := Rd.mono (Rd.set (Rd.set (Rd.set (Rd.set (Rd.set (Rd.set (Rd.set (Rd.set HR2.out (p := ⟨w.heap.size, 0, none⟩) (by dsimp only; omega) _) (p := ⟨w.heap.size, 1, none⟩) (by dsimp only; omega) _) (p := ⟨w.heap.size, 2, none⟩) (by dsimp only; omega) _) (p := ⟨w.heap.size, 3, none⟩) (by dsimp only; omega) _) (p := ⟨w.heap.size, 4, none⟩) (by dsimp only; omega) _) (p := ⟨w.heap.size, 5, none⟩) (by dsimp only; omega) _) (p := ⟨w.heap.size, 6, none⟩) (by dsimp only; omega) _) (p := ⟨w.heap.size, 7, none⟩) (by dsimp only; omega) _) hold
  have hR3 : Rd ((((((((w3.setCell ⟨w.heap.size, 0, none⟩ (.slice (some ⟨w3.heap.size, 0, none⟩) 2 2)).setCell ⟨w.heap.size, 1, none⟩ (.slice (some ⟨w3.heap.size + 1, 0, none⟩) 2 2)).setCell ⟨w.heap.size, 2, none⟩ (.slice (some ⟨w3.heap.size + 1 + 1 + 1 + 1, 0, none⟩) 2 2)).setCell ⟨w.heap.size, 3, none⟩ (.int .i64 0)).setCell ⟨w.heap.size, 4, none⟩ (.int .i64 9)).setCell ⟨w.heap.size, 5, none⟩ (.int .i64 9)).setCell ⟨w.heap.size, 6, none⟩ (.int .i64 9)).setCell ⟨w.heap.size, 7, none⟩ (.int .i64 9)) (Old ((((((((w3.setCell ⟨w.heap.size, 0, none⟩ (.slice (some ⟨w3.heap.size, 0, none⟩) 2 2)).setCell ⟨w.heap.size, 1, none⟩ (.slice (some ⟨w3.heap.size + 1, 0, none⟩) 2 2)).setCell ⟨w.heap.size, 2, none⟩ (.slice (some ⟨w3.heap.size + 1 + 1 + 1 + 1, 0, none⟩) 2 2)).setCell ⟨w.heap.size, 3, none⟩ (.int .i64 0)).setCell ⟨w.heap.size, 4, none⟩ (.int .i64 9)).setCell ⟨w.heap.size, 5, none⟩ (.int .i64 9)).setCell ⟨w.heap.size, 6, none⟩ (.int .i64 9)).setCell ⟨w.heap.size, 7, none⟩ (.int .i64 9))) 5 (.slice A3 1 c3) 1 (rxCells rxB) := Rd.mono (Rd.set (Rd.set (Rd.set (Rd.set (Rd.set (Rd.set (Rd.set (Rd.set HR3.out (p := ⟨w.heap.size, 0, none⟩) (by dsimp only; omega) _) (p := ⟨w.heap.size, 1, none⟩) (by dsimp only; omega) _) (p := ⟨w.heap.size, 2, none⟩) (by dsimp only; omega) _) (p := ⟨w.heap.size, 3, none⟩) (by dsimp only; omega) _) (p := ⟨w.heap.size, 4, none⟩) (by dsimp only; omega) _) (p := ⟨w.heap.size, 5, none⟩) (by dsimp only; omega) _) (p := ⟨w.heap.size, 6, none⟩) (by dsimp only; omega) _) (p := ⟨w.heap.size, 7, none⟩) (by dsimp only; omega) _) hold
  have HLt := hidden (lit38 ((((((((w3.setCell ⟨w.heap.size, 0, none⟩ (.slice (some ⟨w3.heap.size, 0, none⟩) 2 2)).setCell ⟨w.heap.size, 1, none⟩ (.slice (some ⟨w3.heap.size + 1, 0, none⟩) 2 2)).setCell ⟨w.heap.size, 2, none⟩ (.slice (some ⟨w3.heap.size + 1 + 1 + 1 + 1, 0, none⟩) 2 2)).setCell ⟨w.heap.size, 3, none⟩ (.int .i64 0)).setCell ⟨w.heap.size, 4, none⟩ (.int .i64 9)).setCell ⟨w.heap.size, 5, none⟩ (.int .i64 9)).setCell ⟨w.heap.size, 6, none⟩ (.int .i64 9)).setCell ⟨w.heap.size, 7, none⟩ (.int .i64 9)) w3.heap.size c2 c3 A2 A3 (by simp) hR2 hR3)
  clear hR2 hR3 hold
  go_wp2
  refine bodyPost_ret (v := .tuple #[.agg #[.slice (some ⟨w3.heap.size, 0, none⟩) 2 2, .slice (some ⟨w3.heap.size + 1, 0, none⟩) 2 2, .slice (some ⟨w3.heap.size + 1 + 1 + 1 + 1, 0, none⟩) 2 2, .int .i64 0, .int .i64 9, .int .i64 9, .int .i64 9, .int .i64 9], .slice (some ⟨w3.heap.size + 1 + 1 + 1 + 1 + 1 + 1, 0, none⟩) 4 4]) (by simp [results, Try.results56, go_sem, o0, o1, o2, o3, o4, o5, o6, o7, hl, hl1, hl2, hl3, hl4, hl5, hl6]) rfl ⟨⟨_, _, _, _, rfl, hidden HLt.out.1, hidden HLt.out.2⟩, (by repeat (first | (with_reducible exact Below.refl _ _) | (with_reducible assumption) | (with_reducible refine Below.drew ?_) | (with_reducible refine below_drewN ?_ _) | ((with_reducible refine below_alloc ?_ ?_); (focus (first | omega | (simp; done) | (simp; omega)))) | ((with_reducible refine below_set ?_ ?_); (focus (first | omega | (simp; done) | (simp; omega))))))⟩

set_option maxRecDepth 20000 in
set_option maxHeartbeats 4000000 in
theorem knows38 (w : World) : Calls Try.prog 29 #[] w fun r w' => r = .returned (.bool true) ∧ Below w.heap.size w w' := by
  have HS := hidden (some38 w)
  have q1 : ∀ w, (Op.equalIn 10000 82 (.agg #[.int .i64 2, .int .i64 2, .int .i64 2]) (.agg #[.int .i64 2, .int .i64 2, .int .i64 2])).run Try.prog w = .ok true w := fun _ => by kernel_rfl
  have q2 : ∀ w, (Op.equalIn 10000 82 (.agg #[.int .i64 3, .int .i64 0, .int .i64 2]) (.agg #[.int .i64 3, .int .i64 0, .int .i64 2])).run Try.prog w = .ok true w := fun _ => by kernel_rfl
  go_enter Try.func29, Try.ntmps29
  go_wp2_with fail
  refine HS.out.mono ?_
  rintro r w2 ⟨⟨a, b, c, v, rfl, HG, HN⟩, hb⟩
  have hb1 := (Below.refl w2.heap.size w2).alloc (Nat.le_refl _) (.cells (gramCells a b c g38) 26)
  have HO := hidden (lay_Of v a b c g38 t38 _ (by decide) (by decide) (by decide) (by decide) (by intro s h; simp [allNames, tokNames, g38] at h; rcases h with rfl | rfl | rfl | rfl <;> decide) (HG.out.later hb1) (HN.out.old hb1))
  rw [places38] at HO
  obtain ⟨A1, k1, rfl, _, _⟩ := HG.out.1.value
  obtain ⟨A2, k2, rfl, _, _⟩ := HG.out.2.1.val
  obtain ⟨A3, k3, rfl, _, _⟩ := HG.out.2.2.value
  obtain ⟨A, c', rfl, _, _⟩ := HN.out.value
  have hbw := below_lit hb hb1
  clear HG HN hb hb1 HS
  unfold gramCells at *
  go_wp2_with fail
  refine HO.out.mono ?_
  rintro r w3 ⟨⟨u, rfl, HF⟩, hb3⟩
  have hbw3 := below_lit hbw hb3
  obtain ⟨A4, c4, rfl⟩ := HF.out.value
  have HRd := hidden (FlatM.rd HF.out)
  have HD := hidden (lay_Deep _ _ w3 HRd.out)
  rw [show deepPl [(⟨2, 2, 2⟩ : Plc), ⟨3, 0, 2⟩] = 2 from rfl] at HD
  obtain ⟨b5, o5, rfl, _, h0⟩ := HRd.out.flat_at (fun _ => rfl) (by decide) (show [(⟨2, 2, 2⟩ : Plc), ⟨3, 0, 2⟩][0]? = some _ from rfl)
  obtain ⟨b6, o6, e6, _, h1⟩ := HRd.out.flat_at (fun _ => rfl) (by decide) (show [(⟨2, 2, 2⟩ : Plc), ⟨3, 0, 2⟩][1]? = some _ from rfl)
  simp only [Option.some.injEq, Addr.mk.injEq] at e6
  obtain ⟨rfl, rfl, _⟩ := e6
  have x0 : w3.cell? ⟨b5, o5, none⟩ = some (.int .i64 2) := h0 0 _ rfl
  have x1 : w3.cell? ⟨b5, o5 + 1, none⟩ = some (.int .i64 2) := h0 1 _ rfl
  have x2 : w3.cell? ⟨b5, o5 + 2, none⟩ = some (.int .i64 2) := h0 2 _ rfl
  have x3 : w3.cell? ⟨b5, o5 + 3, none⟩ = some (.int .i64 3) := h1 0 _ rfl
  have x4 : w3.cell? ⟨b5, o5 + 3 + 1, none⟩ = some (.int .i64 0) := h1 1 _ rfl
  have x5 : w3.cell? ⟨b5, o5 + 3 + 2, none⟩ = some (.int .i64 2) := h1 2 _ rfl
  clear HF HRd h0 h1 hb3 hbw HO
  go_wp2_with fail
  refine HD.out.mono ?_
  rintro r w4 ⟨rfl, hb4⟩
  have hbw4 := below_lit hbw3 hb4
  clear hb4 x0 x1 x2 x3 x4 x5
  go_wp2
  go_ret
  exact ⟨rfl, hbw4⟩
end Go.Proofs.Ytbjheaiiajpifaa.T
