/-
  What the laws of layer 40 share.
-/
import Derived.Test.YtbjheaiiajpifaaSameK
namespace Go.Proofs.Ytbjheaiiajpifaa.T
open Go.RowKit Go.Shelf

theorem zero_copied : Copied zeroG := ⟨by decide, by decide, by decide, (fun x hx => by cases hx), (fun x hx => by cases hx)⟩
theorem dPath_len (ts : List Token) (a b : List Node) : (dPath ts a b).length ≤ a.length := by
  unfold dPath pathOf
  split
  · split
    · rename_i h
      have := placeB_iff.1 h
      have := path_len (t := a) (firstD40 ts a b).2.toNat
      omega
    · exact Nat.zero_le _
  · exact Nat.zero_le _
theorem ints_self (a b : Value) (L : List Nat) (w : World) (hl : L.length ≤ 140737488355) (hA : Rd w (Old w) 1 a L.length (ints L)) (hB : Rd w (Old w) 1 b L.length (ints L)) :
    Calls Try.prog 17 #[a, b] w fun r w' => r = .returned (.bool true) ∧ Below w.heap.size w w' := by
  have := same_ints a b L L w hl hA hB
  rwa [decide_eq_true rfl] at this
end Go.Proofs.Ytbjheaiiajpifaa.T
