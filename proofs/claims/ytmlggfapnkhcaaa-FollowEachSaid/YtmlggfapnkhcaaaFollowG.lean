/-
  The grammar of law23.knows. Plain.
-/
import Derived.Test.YtmlggfapnkhcaaaFirstD
import Derived.Test.YtmlggfapnkhcaaaFollowR
import Derived.Test.YtmlggfapnkhcaaaFollowC
namespace Go.Proofs.Ytmlggfapnkhcaaa
open Go.RowKit Go.Shelf

def g4 : Gram := ⟨[⟨sA, [rxE], 0⟩, ⟨sB, [rxE], 0⟩], [sS, sT], [⟨0, [⟨true, 1, 0, 0⟩, ⟨false, 0, 0, 0⟩]⟩, ⟨1, [⟨true, 0, 0, 0⟩, ⟨false, 1, 0, 0⟩]⟩, ⟨1, []⟩], 0, 1, 1, 1, 1⟩
theorem g4_right : rightB g4 = true := rightC_right (by kernel_rfl)
theorem g4_empty : growsB g4 false = [false, true] := by rw [← grown_all (rightB_sound g4_right)]; kernel_rfl
theorem g4_reach : reachB g4 = [true, true] := by rw [← reached_all (rightB_sound g4_right)]; kernel_rfl
theorem g4_small : Small g4 := ⟨by decide, by decide, by decide, by intro s h; simp [allNames, tokNames, g4] at h; rcases h with rfl | rfl | rfl | rfl <;> decide⟩
theorem g4_p (k : Nat) (p : Prod) (h : g4.prods[k]? = some p) : p ∈ g4.prods := List.mem_of_getElem? h
theorem g4_fol : fol23 g4 = [[1, 2], [0]] := by
  unfold fol23
  rw [if_pos g4_right, g4_empty, g4_reach]
  have hw := whole22 g4_right
  have h0 := KnownB.first_ (g := g4) (by decide) [false, true] [true, true]
  have e0 : (List.replicate g4.rules.length ([] : List Int)).set g4.start.toNat [(g4.toks.length : Int)] = [[2], []] := rfl
  rw [e0] at h0
  have t1 : TailIs g4 [false, true] ((⟨0, [⟨true, 1, 0, 0⟩, ⟨false, 0, 0, 0⟩]⟩ : Prod).right.drop (0 + 1)) [] [0] := TailIs.tok (x := ⟨false, 0, 0, 0⟩) (post := []) rfl (by decide)
  have h1 := h0.bring hw (g4_p 0 _ rfl) (by rfl) (k := 0) (x := ⟨true, 1, 0, 0⟩) rfl rfl (fun z hz => by cases hz) t1
  have e1 : bringF [[2], []] (⟨true, 1, 0, 0⟩ : Item).n.toNat [0] = [[2], [0]] := by simp [bringF, mergeU]
  rw [e1] at h1
  have t2 : TailIs g4 [false, true] ((⟨1, [⟨true, 0, 0, 0⟩, ⟨false, 1, 0, 0⟩]⟩ : Prod).right.drop (0 + 1)) [] [1] := TailIs.tok (x := ⟨false, 1, 0, 0⟩) (post := []) rfl (by decide)
  have h2 := h1.bring hw (g4_p 1 _ rfl) (by rfl) (k := 0) (x := ⟨true, 0, 0, 0⟩) rfl rfl (fun z hz => by cases hz) t2
  have e2 : bringF [[2], [0]] (⟨true, 0, 0, 0⟩ : Item).n.toNat [1] = [[1, 2], [0]] := by simp [bringF, mergeU]
  rw [e2] at h2
  refine (h2.all ?_).symm
  intro p hp _ k x hx hr z hz
  simp [g4] at hp
  rcases hp with rfl | rfl | rfl
  · match k, hx with
    | 0, hx =>
      simp at hx; subst hx
      rcases hz with hz | ⟨hv, _⟩
      · have := (mem_firstL_tok (g := g4) (em := [false, true]) (x := ⟨false, 0, 0, 0⟩) (l := []) rfl (by decide) (z := z)).1 hz
        subst this; decide
      · simp [itemSo] at hv
    | 1, hx => simp at hx; subst hx; cases hr
    | k + 2, hx => simp at hx
  · match k, hx with
    | 0, hx =>
      simp at hx; subst hx
      rcases hz with hz | ⟨hv, _⟩
      · have := (mem_firstL_tok (g := g4) (em := [false, true]) (x := ⟨false, 1, 0, 0⟩) (l := []) rfl (by decide) (z := z)).1 hz
        subst this; decide
      · simp [itemSo] at hv
    | 1, hx => simp at hx; subst hx; cases hr
    | k + 2, hx => simp at hx
  · simp at hx
end Go.Proofs.Ytmlggfapnkhcaaa
