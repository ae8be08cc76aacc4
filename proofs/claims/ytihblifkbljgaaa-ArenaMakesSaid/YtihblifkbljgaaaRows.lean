/-
  No cell of these rows narrows 'for every input' (looked for: loops, veiled, ifaces, maps, wideKeys, modest, calm, conditions, laid).
  DERIVED. THE GIVEN ROWS OF THIS SEAT. 9 by the template 'for every input the law returns true; each argument reads behind the call as it read before'; 0 by the template 'total and deterministic' (their statements: YtihblifkbljgaaaTotals.lean).
  GIVEN WITH THE SEED: the statements are not yours to turn. If you find one false, say at which input.
  Laid BY PROGRAM, IN A SANDBOX (cutbox-rows.mjs): the forced cells as the released guide's own fill.sh prints them over the translation 63a8c8785caf1fe2… (all of the seat's roots in one cut). By AI agents, Wed Nov 11 2026. No macro, syntax, notation, axiom, sorry.
-/
import Derived.Test.YtihblifkbljgaaaChecked
import GoSem.Claim
import GoSem.ClaimJoined
import GoSem.ClaimMapViews
import Derived.JoinedTies
import Derived.KernelRfl
namespace Go.Proofs.Ytihblifkbljgaaa
/- THE CELL 'sum', in the pinned program and in every row, IS THE sha256 OF THE DUMP (.gsa) THAT YtihblifkbljgaaaProg.lean LOADS. Nothing in Lean hashes anything: it is a label: what it is worth is what the hold of that sum in a sandbox is worth. -/
noncomputable def Try.pinned : Pinned := { name := "ytihblifkbljgaaa", sum := "63a8c8785caf1fe25a9f36fa0907a8dfafb756cebf535370e61e4bfea7a160b0", checked := Try.checked }
namespace Rows
def none {H : Type} : Left H := { results := [], args := [] }

/-- 'facsimilelaw27.ArenaParts': WHATEVER THE INPUT: true; the input reads as it did. -/
def arenaPartsSpec : ChangeSpec := { name := "arenaParts", fn := fun _ => fun
  | [d] => { results := [.lit (.bool true)], args := [d] }
  | _ => none }
def arenaPartsRow : OpenClaim := { program := "ytihblifkbljgaaa", sum := "63a8c8785caf1fe25a9f36fa0907a8dfafb756cebf535370e61e4bfea7a160b0", func := "facsimile/facsimilelaw27.ArenaParts", spec := "arenaParts", unfollowed := true, recurses := true, apart := false }
def ArenaPartsSaid : Prop := arenaPartsRow.holds Try.pinned (OpenSpec.ofChange arenaPartsSpec)

/-- ITS FALSE NEIGHBOUR: 'it returns false'. Refute it at one input. -/
def arenaPartsWrong : ChangeSpec := { name := "arenaParts", fn := fun _ => fun
  | [d] => { results := [.lit (.bool false)], args := [d] }
  | _ => none }
def ArenaPartsWrongFalsely : Prop := arenaPartsRow.holds Try.pinned (OpenSpec.ofChange arenaPartsWrong)

/-- 'facsimilelaw28.YieldPlaces': WHATEVER THE INPUT: true; the input reads as it did. -/
def yieldPlacesSpec : ChangeSpec := { name := "yieldPlaces", fn := fun _ => fun
  | [d1, d2, d3] => { results := [.lit (.bool true)], args := [d1, d2, d3] }
  | _ => none }
def yieldPlacesRow : OpenClaim := { program := "ytihblifkbljgaaa", sum := "63a8c8785caf1fe25a9f36fa0907a8dfafb756cebf535370e61e4bfea7a160b0", func := "facsimile/facsimilelaw28.YieldPlaces", spec := "yieldPlaces", inPlace := ["internal/abi.NoEscape"], unfollowed := true, recurses := true, apart := false }
def YieldPlacesSaid : Prop := yieldPlacesRow.holds Try.pinned (OpenSpec.ofChange yieldPlacesSpec)

/-- ITS FALSE NEIGHBOUR: 'it returns false'. Refute it at one input. -/
def yieldPlacesWrong : ChangeSpec := { name := "yieldPlaces", fn := fun _ => fun
  | [d1, d2, d3] => { results := [.lit (.bool false)], args := [d1, d2, d3] }
  | _ => none }
def YieldPlacesWrongFalsely : Prop := yieldPlacesRow.holds Try.pinned (OpenSpec.ofChange yieldPlacesWrong)

/-- 'facsimilelaw28.YieldWithin': WHATEVER THE INPUT: true; the input reads as it did. -/
def yieldWithinSpec : ChangeSpec := { name := "yieldWithin", fn := fun _ => fun
  | [d] => { results := [.lit (.bool true)], args := [d] }
  | _ => none }
def yieldWithinRow : OpenClaim := { program := "ytihblifkbljgaaa", sum := "63a8c8785caf1fe25a9f36fa0907a8dfafb756cebf535370e61e4bfea7a160b0", func := "facsimile/facsimilelaw28.YieldWithin", spec := "yieldWithin", inPlace := ["internal/abi.NoEscape"], unfollowed := true, recurses := true, apart := false }
def YieldWithinSaid : Prop := yieldWithinRow.holds Try.pinned (OpenSpec.ofChange yieldWithinSpec)

/-- ITS FALSE NEIGHBOUR: 'it returns false'. Refute it at one input. -/
def yieldWithinWrong : ChangeSpec := { name := "yieldWithin", fn := fun _ => fun
  | [d] => { results := [.lit (.bool false)], args := [d] }
  | _ => none }
def YieldWithinWrongFalsely : Prop := yieldWithinRow.holds Try.pinned (OpenSpec.ofChange yieldWithinWrong)

/-- 'facsimilelaw27.ArenaMakes': WHATEVER THE INPUT: true; the input reads as it did. -/
def arenaMakesSpec : ChangeSpec := { name := "arenaMakes", fn := fun _ => fun
  | [d1, d2, d3, d4] => { results := [.lit (.bool true)], args := [d1, d2, d3, d4] }
  | _ => none }
def arenaMakesRow : OpenClaim := { program := "ytihblifkbljgaaa", sum := "63a8c8785caf1fe25a9f36fa0907a8dfafb756cebf535370e61e4bfea7a160b0", func := "facsimile/facsimilelaw27.ArenaMakes", spec := "arenaMakes", unfollowed := true, recurses := true, apart := false }
def ArenaMakesSaid : Prop := arenaMakesRow.holds Try.pinned (OpenSpec.ofChange arenaMakesSpec)

/-- ITS FALSE NEIGHBOUR: 'it returns false'. Refute it at one input. -/
def arenaMakesWrong : ChangeSpec := { name := "arenaMakes", fn := fun _ => fun
  | [d1, d2, d3, d4] => { results := [.lit (.bool false)], args := [d1, d2, d3, d4] }
  | _ => none }
def ArenaMakesWrongFalsely : Prop := arenaMakesRow.holds Try.pinned (OpenSpec.ofChange arenaMakesWrong)

/-- 'facsimilelaw27.ArenaPuts': WHATEVER THE INPUT: true; the input reads as it did. -/
def arenaPutsSpec : ChangeSpec := { name := "arenaPuts", fn := fun _ => fun
  | [d1, d2, d3] => { results := [.lit (.bool true)], args := [d1, d2, d3] }
  | _ => none }
def arenaPutsRow : OpenClaim := { program := "ytihblifkbljgaaa", sum := "63a8c8785caf1fe25a9f36fa0907a8dfafb756cebf535370e61e4bfea7a160b0", func := "facsimile/facsimilelaw27.ArenaPuts", spec := "arenaPuts", unfollowed := true, recurses := true, apart := false }
def ArenaPutsSaid : Prop := arenaPutsRow.holds Try.pinned (OpenSpec.ofChange arenaPutsSpec)

/-- ITS FALSE NEIGHBOUR: 'it returns false'. Refute it at one input. -/
def arenaPutsWrong : ChangeSpec := { name := "arenaPuts", fn := fun _ => fun
  | [d1, d2, d3] => { results := [.lit (.bool false)], args := [d1, d2, d3] }
  | _ => none }
def ArenaPutsWrongFalsely : Prop := arenaPutsRow.holds Try.pinned (OpenSpec.ofChange arenaPutsWrong)

/-- 'facsimilelaw28.YieldTexts': WHATEVER THE INPUT: true; the input reads as it did. -/
def yieldTextsSpec : ChangeSpec := { name := "yieldTexts", fn := fun _ => fun
  | [d] => { results := [.lit (.bool true)], args := [d] }
  | _ => none }
def yieldTextsRow : OpenClaim := { program := "ytihblifkbljgaaa", sum := "63a8c8785caf1fe25a9f36fa0907a8dfafb756cebf535370e61e4bfea7a160b0", func := "facsimile/facsimilelaw28.YieldTexts", spec := "yieldTexts", inPlace := ["internal/abi.NoEscape"], unfollowed := true, recurses := true, apart := false }
def YieldTextsSaid : Prop := yieldTextsRow.holds Try.pinned (OpenSpec.ofChange yieldTextsSpec)

/-- ITS FALSE NEIGHBOUR: 'it returns false'. Refute it at one input. -/
def yieldTextsWrong : ChangeSpec := { name := "yieldTexts", fn := fun _ => fun
  | [d] => { results := [.lit (.bool false)], args := [d] }
  | _ => none }
def YieldTextsWrongFalsely : Prop := yieldTextsRow.holds Try.pinned (OpenSpec.ofChange yieldTextsWrong)

/-- 'facsimilelaw28.YieldJoins': WHATEVER THE INPUT: true; the input reads as it did. -/
def yieldJoinsSpec : ChangeSpec := { name := "yieldJoins", fn := fun _ => fun
  | [d] => { results := [.lit (.bool true)], args := [d] }
  | _ => none }
def yieldJoinsRow : OpenClaim := { program := "ytihblifkbljgaaa", sum := "63a8c8785caf1fe25a9f36fa0907a8dfafb756cebf535370e61e4bfea7a160b0", func := "facsimile/facsimilelaw28.YieldJoins", spec := "yieldJoins", inPlace := ["internal/abi.NoEscape"], unfollowed := true, recurses := true, apart := false }
def YieldJoinsSaid : Prop := yieldJoinsRow.holds Try.pinned (OpenSpec.ofChange yieldJoinsSpec)

/-- ITS FALSE NEIGHBOUR: 'it returns false'. Refute it at one input. -/
def yieldJoinsWrong : ChangeSpec := { name := "yieldJoins", fn := fun _ => fun
  | [d] => { results := [.lit (.bool false)], args := [d] }
  | _ => none }
def YieldJoinsWrongFalsely : Prop := yieldJoinsRow.holds Try.pinned (OpenSpec.ofChange yieldJoinsWrong)

/-- 'facsimilelaw27.ArenaAsks': WHATEVER THE INPUT: true; the input reads as it did. -/
def arenaAsksSpec : ChangeSpec := { name := "arenaAsks", fn := fun _ => fun
  | [d1, d2, d3] => { results := [.lit (.bool true)], args := [d1, d2, d3] }
  | _ => none }
def arenaAsksRow : OpenClaim := { program := "ytihblifkbljgaaa", sum := "63a8c8785caf1fe25a9f36fa0907a8dfafb756cebf535370e61e4bfea7a160b0", func := "facsimile/facsimilelaw27.ArenaAsks", spec := "arenaAsks", unfollowed := true, recurses := true, apart := false }
def ArenaAsksSaid : Prop := arenaAsksRow.holds Try.pinned (OpenSpec.ofChange arenaAsksSpec)

/-- ITS FALSE NEIGHBOUR: 'it returns false'. Refute it at one input. -/
def arenaAsksWrong : ChangeSpec := { name := "arenaAsks", fn := fun _ => fun
  | [d1, d2, d3] => { results := [.lit (.bool false)], args := [d1, d2, d3] }
  | _ => none }
def ArenaAsksWrongFalsely : Prop := arenaAsksRow.holds Try.pinned (OpenSpec.ofChange arenaAsksWrong)

/-- 'facsimilelaw27.ArenaSteps': WHATEVER THE INPUT: true; the input reads as it did. -/
def arenaStepsSpec : ChangeSpec := { name := "arenaSteps", fn := fun _ => fun
  | [d1, d2, d3] => { results := [.lit (.bool true)], args := [d1, d2, d3] }
  | _ => none }
def arenaStepsRow : OpenClaim := { program := "ytihblifkbljgaaa", sum := "63a8c8785caf1fe25a9f36fa0907a8dfafb756cebf535370e61e4bfea7a160b0", func := "facsimile/facsimilelaw27.ArenaSteps", spec := "arenaSteps", unfollowed := true, recurses := true, apart := false }
def ArenaStepsSaid : Prop := arenaStepsRow.holds Try.pinned (OpenSpec.ofChange arenaStepsSpec)

/-- ITS FALSE NEIGHBOUR: 'it returns false'. Refute it at one input. -/
def arenaStepsWrong : ChangeSpec := { name := "arenaSteps", fn := fun _ => fun
  | [d1, d2, d3] => { results := [.lit (.bool false)], args := [d1, d2, d3] }
  | _ => none }
def ArenaStepsWrongFalsely : Prop := arenaStepsRow.holds Try.pinned (OpenSpec.ofChange arenaStepsWrong)

/- THE SECOND FORM. 'bulk': how many values and letters a reading holds, each counted each time it is reached (what is shared counts as often as it is met; a slice's spare places count too). A statement '..UptoSaid' is the law's where the arguments, and the package variables that the reading takes, are together of bulk at most 1048576: NARROWER than '..Said'. Prove '..Said' where nothing that the law and all that it calls make is longer than what came in: it says more and counts as full. Else prove '..UptoSaid'. A law counts once. -/
mutual
def uptoBulk {H : Type} : DataW H → Nat
  | .lit (.string bytes) => bytes.length + 1
  | .lit _ => 1
  | .nil => 1
  | .ptr d => uptoBulk d + 1
  | .slice elems spare => uptoBulkAll elems + uptoBulkAll spare + 1
  | .agg parts => uptoBulkAll parts + 1
  | .iface _ d => uptoBulk d + 1
  | .map entries => uptoBulkEntries entries + 1
  | .held _ => 1
def uptoBulkAll {H : Type} : List (DataW H) → Nat
  | [] => 0
  | d :: r => uptoBulk d + uptoBulkAll r
def uptoBulkEntries {H : Type} : List (Lit × DataW H) → Nat
  | [] => 0
  | x :: r => uptoBulkEntry x + uptoBulkEntries r
def uptoBulkEntry {H : Type} : Lit × DataW H → Nat
  | (.string bytes, d) => bytes.length + uptoBulk d + 1
  | (_, d) => uptoBulk d + 1
 end
def uptoSmall : (H : Type) → List (DataW H) → Bool := fun _ ds => decide (uptoBulkAll ds ≤ 1048576)
def OpenSpec.upto (s : _root_.Go.ChangeSpec) : _root_.Go.OpenSpec := { _root_.Go.OpenSpec.ofChange s with cond := some uptoSmall }

/-- 'facsimilelaw27.ArenaParts', WHERE WHAT IT READS IS OF BULK AT MOST 1048576: true; the input reads as it did. -/
def arenaPartsUptoRow : OpenClaim := { program := "ytihblifkbljgaaa", sum := "63a8c8785caf1fe25a9f36fa0907a8dfafb756cebf535370e61e4bfea7a160b0", func := "facsimile/facsimilelaw27.ArenaParts", spec := "arenaParts", unfollowed := true, recurses := true, apart := false, narrowed := true }
def ArenaPartsUptoSaid : Prop := arenaPartsUptoRow.holds Try.pinned (OpenSpec.upto arenaPartsSpec)

/-- 'facsimilelaw28.YieldPlaces', WHERE WHAT IT READS IS OF BULK AT MOST 1048576: true; the input reads as it did. -/
def yieldPlacesUptoRow : OpenClaim := { program := "ytihblifkbljgaaa", sum := "63a8c8785caf1fe25a9f36fa0907a8dfafb756cebf535370e61e4bfea7a160b0", func := "facsimile/facsimilelaw28.YieldPlaces", spec := "yieldPlaces", inPlace := ["internal/abi.NoEscape"], unfollowed := true, recurses := true, apart := false, narrowed := true }
def YieldPlacesUptoSaid : Prop := yieldPlacesUptoRow.holds Try.pinned (OpenSpec.upto yieldPlacesSpec)

/-- 'facsimilelaw28.YieldWithin', WHERE WHAT IT READS IS OF BULK AT MOST 1048576: true; the input reads as it did. -/
def yieldWithinUptoRow : OpenClaim := { program := "ytihblifkbljgaaa", sum := "63a8c8785caf1fe25a9f36fa0907a8dfafb756cebf535370e61e4bfea7a160b0", func := "facsimile/facsimilelaw28.YieldWithin", spec := "yieldWithin", inPlace := ["internal/abi.NoEscape"], unfollowed := true, recurses := true, apart := false, narrowed := true }
def YieldWithinUptoSaid : Prop := yieldWithinUptoRow.holds Try.pinned (OpenSpec.upto yieldWithinSpec)

/-- 'facsimilelaw27.ArenaMakes', WHERE WHAT IT READS IS OF BULK AT MOST 1048576: true; the input reads as it did. -/
def arenaMakesUptoRow : OpenClaim := { program := "ytihblifkbljgaaa", sum := "63a8c8785caf1fe25a9f36fa0907a8dfafb756cebf535370e61e4bfea7a160b0", func := "facsimile/facsimilelaw27.ArenaMakes", spec := "arenaMakes", unfollowed := true, recurses := true, apart := false, narrowed := true }
def ArenaMakesUptoSaid : Prop := arenaMakesUptoRow.holds Try.pinned (OpenSpec.upto arenaMakesSpec)

/-- 'facsimilelaw27.ArenaPuts', WHERE WHAT IT READS IS OF BULK AT MOST 1048576: true; the input reads as it did. -/
def arenaPutsUptoRow : OpenClaim := { program := "ytihblifkbljgaaa", sum := "63a8c8785caf1fe25a9f36fa0907a8dfafb756cebf535370e61e4bfea7a160b0", func := "facsimile/facsimilelaw27.ArenaPuts", spec := "arenaPuts", unfollowed := true, recurses := true, apart := false, narrowed := true }
def ArenaPutsUptoSaid : Prop := arenaPutsUptoRow.holds Try.pinned (OpenSpec.upto arenaPutsSpec)

/-- 'facsimilelaw28.YieldTexts', WHERE WHAT IT READS IS OF BULK AT MOST 1048576: true; the input reads as it did. -/
def yieldTextsUptoRow : OpenClaim := { program := "ytihblifkbljgaaa", sum := "63a8c8785caf1fe25a9f36fa0907a8dfafb756cebf535370e61e4bfea7a160b0", func := "facsimile/facsimilelaw28.YieldTexts", spec := "yieldTexts", inPlace := ["internal/abi.NoEscape"], unfollowed := true, recurses := true, apart := false, narrowed := true }
def YieldTextsUptoSaid : Prop := yieldTextsUptoRow.holds Try.pinned (OpenSpec.upto yieldTextsSpec)

/-- 'facsimilelaw28.YieldJoins', WHERE WHAT IT READS IS OF BULK AT MOST 1048576: true; the input reads as it did. -/
def yieldJoinsUptoRow : OpenClaim := { program := "ytihblifkbljgaaa", sum := "63a8c8785caf1fe25a9f36fa0907a8dfafb756cebf535370e61e4bfea7a160b0", func := "facsimile/facsimilelaw28.YieldJoins", spec := "yieldJoins", inPlace := ["internal/abi.NoEscape"], unfollowed := true, recurses := true, apart := false, narrowed := true }
def YieldJoinsUptoSaid : Prop := yieldJoinsUptoRow.holds Try.pinned (OpenSpec.upto yieldJoinsSpec)

/-- 'facsimilelaw27.ArenaAsks', WHERE WHAT IT READS IS OF BULK AT MOST 1048576: true; the input reads as it did. -/
def arenaAsksUptoRow : OpenClaim := { program := "ytihblifkbljgaaa", sum := "63a8c8785caf1fe25a9f36fa0907a8dfafb756cebf535370e61e4bfea7a160b0", func := "facsimile/facsimilelaw27.ArenaAsks", spec := "arenaAsks", unfollowed := true, recurses := true, apart := false, narrowed := true }
def ArenaAsksUptoSaid : Prop := arenaAsksUptoRow.holds Try.pinned (OpenSpec.upto arenaAsksSpec)

/-- 'facsimilelaw27.ArenaSteps', WHERE WHAT IT READS IS OF BULK AT MOST 1048576: true; the input reads as it did. -/
def arenaStepsUptoRow : OpenClaim := { program := "ytihblifkbljgaaa", sum := "63a8c8785caf1fe25a9f36fa0907a8dfafb756cebf535370e61e4bfea7a160b0", func := "facsimile/facsimilelaw27.ArenaSteps", spec := "arenaSteps", unfollowed := true, recurses := true, apart := false, narrowed := true }
def ArenaStepsUptoSaid : Prop := arenaStepsUptoRow.holds Try.pinned (OpenSpec.upto arenaStepsSpec)

end Rows
end Go.Proofs.Ytihblifkbljgaaa
