/-
  No cell of these rows narrows 'for every input' (looked for: loops, veiled, ifaces, maps, wideKeys, modest, calm, conditions, laid).
  DERIVED. THE GIVEN ROWS OF THIS SEAT. 10 by the template 'for every input the law returns true; each argument reads behind the call as it read before'; 0 by the template 'total and deterministic' (their statements: YtmlggfapnkhcaaaTotals.lean).
  GIVEN WITH THE SEED: the statements are not yours to turn. If you find one false, say at which input.
  Laid BY PROGRAM, IN A SANDBOX (cutbox-rows.mjs): the forced cells as the released guide's own fill.sh prints them over the translation 952d251479cc7634… (all of the seat's roots in one cut). By AI agents, Wed Nov 11 2026. No macro, syntax, notation, axiom, sorry.
-/
import Derived.Test.YtmlggfapnkhcaaaChecked
import GoSem.Claim
import GoSem.ClaimJoined
import GoSem.ClaimMapViews
import Derived.JoinedTies
import Derived.KernelRfl
namespace Go.Proofs.Ytmlggfapnkhcaaa
/- THE CELL 'sum', in the pinned program and in every row, IS THE sha256 OF THE DUMP (.gsa) THAT YtmlggfapnkhcaaaProg.lean LOADS. Nothing in Lean hashes anything: it is a label: what it is worth is what the hold of that sum in a sandbox is worth. -/
noncomputable def Try.pinned : Pinned := { name := "ytmlggfapnkhcaaa", sum := "952d251479cc7634ab65a5d84fa92afe4bb3b4dcc46c2ef99f07f5bdec6b06c9", checked := Try.checked }
namespace Rows
def none {H : Type} : Left H := { results := [], args := [] }

/-- 'facsimilelaw22.FirstTells': WHATEVER THE INPUT: true; the input reads as it did. -/
def firstTellsSpec : ChangeSpec := { name := "firstTells", fn := fun _ => fun
  | [d1, d2, d3, d4] => { results := [.lit (.bool true)], args := [d1, d2, d3, d4] }
  | _ => none }
def firstTellsRow : OpenClaim := { program := "ytmlggfapnkhcaaa", sum := "952d251479cc7634ab65a5d84fa92afe4bb3b4dcc46c2ef99f07f5bdec6b06c9", func := "facsimile/facsimilelaw22.FirstTells", spec := "firstTells", unfollowed := true, recurses := true, plainKeys := false, apart := false }
def FirstTellsSaid : Prop := firstTellsRow.holds Try.pinned (OpenSpec.ofChange firstTellsSpec)

/-- ITS FALSE NEIGHBOUR: 'it returns false'. Refute it at one input. -/
def firstTellsWrong : ChangeSpec := { name := "firstTells", fn := fun _ => fun
  | [d1, d2, d3, d4] => { results := [.lit (.bool false)], args := [d1, d2, d3, d4] }
  | _ => none }
def FirstTellsWrongFalsely : Prop := firstTellsRow.holds Try.pinned (OpenSpec.ofChange firstTellsWrong)

/-- 'facsimilelaw22.FirstEach': WHATEVER THE INPUT: true; the input reads as it did. -/
def firstEachSpec : ChangeSpec := { name := "firstEach", fn := fun _ => fun
  | [d] => { results := [.lit (.bool true)], args := [d] }
  | _ => none }
def firstEachRow : OpenClaim := { program := "ytmlggfapnkhcaaa", sum := "952d251479cc7634ab65a5d84fa92afe4bb3b4dcc46c2ef99f07f5bdec6b06c9", func := "facsimile/facsimilelaw22.FirstEach", spec := "firstEach", unfollowed := true, recurses := true, plainKeys := false, apart := false }
def FirstEachSaid : Prop := firstEachRow.holds Try.pinned (OpenSpec.ofChange firstEachSpec)

/-- ITS FALSE NEIGHBOUR: 'it returns false'. Refute it at one input. -/
def firstEachWrong : ChangeSpec := { name := "firstEach", fn := fun _ => fun
  | [d] => { results := [.lit (.bool false)], args := [d] }
  | _ => none }
def FirstEachWrongFalsely : Prop := firstEachRow.holds Try.pinned (OpenSpec.ofChange firstEachWrong)

/-- 'facsimilelaw23.FollowTells': WHATEVER THE INPUT: true; the input reads as it did. -/
def followTellsSpec : ChangeSpec := { name := "followTells", fn := fun _ => fun
  | [d1, d2, d3] => { results := [.lit (.bool true)], args := [d1, d2, d3] }
  | _ => none }
def followTellsRow : OpenClaim := { program := "ytmlggfapnkhcaaa", sum := "952d251479cc7634ab65a5d84fa92afe4bb3b4dcc46c2ef99f07f5bdec6b06c9", func := "facsimile/facsimilelaw23.FollowTells", spec := "followTells", unfollowed := true, recurses := true, plainKeys := false, apart := false }
def FollowTellsSaid : Prop := followTellsRow.holds Try.pinned (OpenSpec.ofChange followTellsSpec)

/-- ITS FALSE NEIGHBOUR: 'it returns false'. Refute it at one input. -/
def followTellsWrong : ChangeSpec := { name := "followTells", fn := fun _ => fun
  | [d1, d2, d3] => { results := [.lit (.bool false)], args := [d1, d2, d3] }
  | _ => none }
def FollowTellsWrongFalsely : Prop := followTellsRow.holds Try.pinned (OpenSpec.ofChange followTellsWrong)

/-- 'facsimilelaw23.FollowEach': WHATEVER THE INPUT: true; the input reads as it did. -/
def followEachSpec : ChangeSpec := { name := "followEach", fn := fun _ => fun
  | [d] => { results := [.lit (.bool true)], args := [d] }
  | _ => none }
def followEachRow : OpenClaim := { program := "ytmlggfapnkhcaaa", sum := "952d251479cc7634ab65a5d84fa92afe4bb3b4dcc46c2ef99f07f5bdec6b06c9", func := "facsimile/facsimilelaw23.FollowEach", spec := "followEach", unfollowed := true, recurses := true, plainKeys := false, apart := false }
def FollowEachSaid : Prop := followEachRow.holds Try.pinned (OpenSpec.ofChange followEachSpec)

/-- ITS FALSE NEIGHBOUR: 'it returns false'. Refute it at one input. -/
def followEachWrong : ChangeSpec := { name := "followEach", fn := fun _ => fun
  | [d] => { results := [.lit (.bool false)], args := [d] }
  | _ => none }
def FollowEachWrongFalsely : Prop := followEachRow.holds Try.pinned (OpenSpec.ofChange followEachWrong)

/-- 'facsimilelaw30.DeriveTells': WHATEVER THE INPUT: true; the input reads as it did. -/
def deriveTellsSpec : ChangeSpec := { name := "deriveTells", fn := fun _ => fun
  | [d1, d2, d3] => { results := [.lit (.bool true)], args := [d1, d2, d3] }
  | _ => none }
def deriveTellsRow : OpenClaim := { program := "ytmlggfapnkhcaaa", sum := "952d251479cc7634ab65a5d84fa92afe4bb3b4dcc46c2ef99f07f5bdec6b06c9", func := "facsimile/facsimilelaw30.DeriveTells", spec := "deriveTells", unfollowed := true, recurses := true, plainKeys := false, apart := false }
def DeriveTellsSaid : Prop := deriveTellsRow.holds Try.pinned (OpenSpec.ofChange deriveTellsSpec)

/-- ITS FALSE NEIGHBOUR: 'it returns false'. Refute it at one input. -/
def deriveTellsWrong : ChangeSpec := { name := "deriveTells", fn := fun _ => fun
  | [d1, d2, d3] => { results := [.lit (.bool false)], args := [d1, d2, d3] }
  | _ => none }
def DeriveTellsWrongFalsely : Prop := deriveTellsRow.holds Try.pinned (OpenSpec.ofChange deriveTellsWrong)

/-- 'facsimilelaw30.DeriveShorts': WHATEVER THE INPUT: true; the input reads as it did. -/
def deriveShortsSpec : ChangeSpec := { name := "deriveShorts", fn := fun _ => fun
  | [d1, d2] => { results := [.lit (.bool true)], args := [d1, d2] }
  | _ => none }
def deriveShortsRow : OpenClaim := { program := "ytmlggfapnkhcaaa", sum := "952d251479cc7634ab65a5d84fa92afe4bb3b4dcc46c2ef99f07f5bdec6b06c9", func := "facsimile/facsimilelaw30.DeriveShorts", spec := "deriveShorts", unfollowed := true, recurses := true, plainKeys := false, apart := false }
def DeriveShortsSaid : Prop := deriveShortsRow.holds Try.pinned (OpenSpec.ofChange deriveShortsSpec)

/-- ITS FALSE NEIGHBOUR: 'it returns false'. Refute it at one input. -/
def deriveShortsWrong : ChangeSpec := { name := "deriveShorts", fn := fun _ => fun
  | [d1, d2] => { results := [.lit (.bool false)], args := [d1, d2] }
  | _ => none }
def DeriveShortsWrongFalsely : Prop := deriveShortsRow.holds Try.pinned (OpenSpec.ofChange deriveShortsWrong)

/-- 'facsimilelaw24.TableTakes': WHATEVER THE INPUT: true; the input reads as it did. -/
def tableTakesSpec : ChangeSpec := { name := "tableTakes", fn := fun _ => fun
  | [d1, d2, d3] => { results := [.lit (.bool true)], args := [d1, d2, d3] }
  | _ => none }
def tableTakesRow : OpenClaim := { program := "ytmlggfapnkhcaaa", sum := "952d251479cc7634ab65a5d84fa92afe4bb3b4dcc46c2ef99f07f5bdec6b06c9", func := "facsimile/facsimilelaw24.TableTakes", spec := "tableTakes", unfollowed := true, recurses := true, plainKeys := false, apart := false }
def TableTakesSaid : Prop := tableTakesRow.holds Try.pinned (OpenSpec.ofChange tableTakesSpec)

/-- ITS FALSE NEIGHBOUR: 'it returns false'. Refute it at one input. -/
def tableTakesWrong : ChangeSpec := { name := "tableTakes", fn := fun _ => fun
  | [d1, d2, d3] => { results := [.lit (.bool false)], args := [d1, d2, d3] }
  | _ => none }
def TableTakesWrongFalsely : Prop := tableTakesRow.holds Try.pinned (OpenSpec.ofChange tableTakesWrong)

/-- 'facsimilelaw24.TableEmpty': WHATEVER THE INPUT: true; the input reads as it did. -/
def tableEmptySpec : ChangeSpec := { name := "tableEmpty", fn := fun _ => fun
  | [d] => { results := [.lit (.bool true)], args := [d] }
  | _ => none }
def tableEmptyRow : OpenClaim := { program := "ytmlggfapnkhcaaa", sum := "952d251479cc7634ab65a5d84fa92afe4bb3b4dcc46c2ef99f07f5bdec6b06c9", func := "facsimile/facsimilelaw24.TableEmpty", spec := "tableEmpty", unfollowed := true, recurses := true, plainKeys := false, apart := false }
def TableEmptySaid : Prop := tableEmptyRow.holds Try.pinned (OpenSpec.ofChange tableEmptySpec)

/-- ITS FALSE NEIGHBOUR: 'it returns false'. Refute it at one input. -/
def tableEmptyWrong : ChangeSpec := { name := "tableEmpty", fn := fun _ => fun
  | [d] => { results := [.lit (.bool false)], args := [d] }
  | _ => none }
def TableEmptyWrongFalsely : Prop := tableEmptyRow.holds Try.pinned (OpenSpec.ofChange tableEmptyWrong)

/-- 'facsimilelaw24.TableTells': WHATEVER THE INPUT: true; the input reads as it did. -/
def tableTellsSpec : ChangeSpec := { name := "tableTells", fn := fun _ => fun
  | [d1, d2] => { results := [.lit (.bool true)], args := [d1, d2] }
  | _ => none }
def tableTellsRow : OpenClaim := { program := "ytmlggfapnkhcaaa", sum := "952d251479cc7634ab65a5d84fa92afe4bb3b4dcc46c2ef99f07f5bdec6b06c9", func := "facsimile/facsimilelaw24.TableTells", spec := "tableTells", unfollowed := true, recurses := true, plainKeys := false, apart := false }
def TableTellsSaid : Prop := tableTellsRow.holds Try.pinned (OpenSpec.ofChange tableTellsSpec)

/-- ITS FALSE NEIGHBOUR: 'it returns false'. Refute it at one input. -/
def tableTellsWrong : ChangeSpec := { name := "tableTells", fn := fun _ => fun
  | [d1, d2] => { results := [.lit (.bool false)], args := [d1, d2] }
  | _ => none }
def TableTellsWrongFalsely : Prop := tableTellsRow.holds Try.pinned (OpenSpec.ofChange tableTellsWrong)

/-- 'facsimilelaw24.TableOne': WHATEVER THE INPUT: true; the input reads as it did. -/
def tableOneSpec : ChangeSpec := { name := "tableOne", fn := fun _ => fun
  | [d] => { results := [.lit (.bool true)], args := [d] }
  | _ => none }
def tableOneRow : OpenClaim := { program := "ytmlggfapnkhcaaa", sum := "952d251479cc7634ab65a5d84fa92afe4bb3b4dcc46c2ef99f07f5bdec6b06c9", func := "facsimile/facsimilelaw24.TableOne", spec := "tableOne", unfollowed := true, recurses := true, plainKeys := false, apart := false }
def TableOneSaid : Prop := tableOneRow.holds Try.pinned (OpenSpec.ofChange tableOneSpec)

/-- ITS FALSE NEIGHBOUR: 'it returns false'. Refute it at one input. -/
def tableOneWrong : ChangeSpec := { name := "tableOne", fn := fun _ => fun
  | [d] => { results := [.lit (.bool false)], args := [d] }
  | _ => none }
def TableOneWrongFalsely : Prop := tableOneRow.holds Try.pinned (OpenSpec.ofChange tableOneWrong)

/- THE SECOND FORM. 'bulk': how many values and letters a reading holds, each counted each time it is reached (what is shared counts as often as it is met; a slice's spare places count too). A statement '..UptoSaid' is the law's where the arguments, and the package variables that the reading takes, are together of bulk at most 1048576: NARROWER than '..Said'. Prove '..Said' where nothing that the law and all that it calls make is longer than what came in: it says more and counts as full. Else prove '..UptoSaid'. A law counts once. -/
mutual
def uptoBulk {H : Type} : DataW H → Nat
  | .lit (.string bytes) => bytes.length + 1
  | .lit _ => 1
  | .nil => 1
  | .ptr d => uptoBulk d + 1
  | .slice elems spare => uptoBulkAll elems + uptoBulkAll spare + 1
  | .agg parts => uptoBulkAll parts + 1
  | .iface _ d => uptoBulk d + 1
  | .map entries => uptoBulkEntries entries + 1
  | .held _ => 1
def uptoBulkAll {H : Type} : List (DataW H) → Nat
  | [] => 0
  | d :: r => uptoBulk d + uptoBulkAll r
def uptoBulkEntries {H : Type} : List (Lit × DataW H) → Nat
  | [] => 0
  | x :: r => uptoBulkEntry x + uptoBulkEntries r
def uptoBulkEntry {H : Type} : Lit × DataW H → Nat
  | (.string bytes, d) => bytes.length + uptoBulk d + 1
  | (_, d) => uptoBulk d + 1
 end
def uptoSmall : (H : Type) → List (DataW H) → Bool := fun _ ds => decide (uptoBulkAll ds ≤ 1048576)
def OpenSpec.upto (s : _root_.Go.ChangeSpec) : _root_.Go.OpenSpec := { _root_.Go.OpenSpec.ofChange s with cond := some uptoSmall }

/-- 'facsimilelaw22.FirstTells', WHERE WHAT IT READS IS OF BULK AT MOST 1048576: true; the input reads as it did. -/
def firstTellsUptoRow : OpenClaim := { program := "ytmlggfapnkhcaaa", sum := "952d251479cc7634ab65a5d84fa92afe4bb3b4dcc46c2ef99f07f5bdec6b06c9", func := "facsimile/facsimilelaw22.FirstTells", spec := "firstTells", unfollowed := true, recurses := true, plainKeys := false, apart := false, narrowed := true }
def FirstTellsUptoSaid : Prop := firstTellsUptoRow.holds Try.pinned (OpenSpec.upto firstTellsSpec)

/-- 'facsimilelaw22.FirstEach', WHERE WHAT IT READS IS OF BULK AT MOST 1048576: true; the input reads as it did. -/
def firstEachUptoRow : OpenClaim := { program := "ytmlggfapnkhcaaa", sum := "952d251479cc7634ab65a5d84fa92afe4bb3b4dcc46c2ef99f07f5bdec6b06c9", func := "facsimile/facsimilelaw22.FirstEach", spec := "firstEach", unfollowed := true, recurses := true, plainKeys := false, apart := false, narrowed := true }
def FirstEachUptoSaid : Prop := firstEachUptoRow.holds Try.pinned (OpenSpec.upto firstEachSpec)

/-- 'facsimilelaw23.FollowTells', WHERE WHAT IT READS IS OF BULK AT MOST 1048576: true; the input reads as it did. -/
def followTellsUptoRow : OpenClaim := { program := "ytmlggfapnkhcaaa", sum := "952d251479cc7634ab65a5d84fa92afe4bb3b4dcc46c2ef99f07f5bdec6b06c9", func := "facsimile/facsimilelaw23.FollowTells", spec := "followTells", unfollowed := true, recurses := true, plainKeys := false, apart := false, narrowed := true }
def FollowTellsUptoSaid : Prop := followTellsUptoRow.holds Try.pinned (OpenSpec.upto followTellsSpec)

/-- 'facsimilelaw23.FollowEach', WHERE WHAT IT READS IS OF BULK AT MOST 1048576: true; the input reads as it did. -/
def followEachUptoRow : OpenClaim := { program := "ytmlggfapnkhcaaa", sum := "952d251479cc7634ab65a5d84fa92afe4bb3b4dcc46c2ef99f07f5bdec6b06c9", func := "facsimile/facsimilelaw23.FollowEach", spec := "followEach", unfollowed := true, recurses := true, plainKeys := false, apart := false, narrowed := true }
def FollowEachUptoSaid : Prop := followEachUptoRow.holds Try.pinned (OpenSpec.upto followEachSpec)

/-- 'facsimilelaw30.DeriveTells', WHERE WHAT IT READS IS OF BULK AT MOST 1048576: true; the input reads as it did. -/
def deriveTellsUptoRow : OpenClaim := { program := "ytmlggfapnkhcaaa", sum := "952d251479cc7634ab65a5d84fa92afe4bb3b4dcc46c2ef99f07f5bdec6b06c9", func := "facsimile/facsimilelaw30.DeriveTells", spec := "deriveTells", unfollowed := true, recurses := true, plainKeys := false, apart := false, narrowed := true }
def DeriveTellsUptoSaid : Prop := deriveTellsUptoRow.holds Try.pinned (OpenSpec.upto deriveTellsSpec)

/-- 'facsimilelaw30.DeriveShorts', WHERE WHAT IT READS IS OF BULK AT MOST 1048576: true; the input reads as it did. -/
def deriveShortsUptoRow : OpenClaim := { program := "ytmlggfapnkhcaaa", sum := "952d251479cc7634ab65a5d84fa92afe4bb3b4dcc46c2ef99f07f5bdec6b06c9", func := "facsimile/facsimilelaw30.DeriveShorts", spec := "deriveShorts", unfollowed := true, recurses := true, plainKeys := false, apart := false, narrowed := true }
def DeriveShortsUptoSaid : Prop := deriveShortsUptoRow.holds Try.pinned (OpenSpec.upto deriveShortsSpec)

/-- 'facsimilelaw24.TableTakes', WHERE WHAT IT READS IS OF BULK AT MOST 1048576: true; the input reads as it did. -/
def tableTakesUptoRow : OpenClaim := { program := "ytmlggfapnkhcaaa", sum := "952d251479cc7634ab65a5d84fa92afe4bb3b4dcc46c2ef99f07f5bdec6b06c9", func := "facsimile/facsimilelaw24.TableTakes", spec := "tableTakes", unfollowed := true, recurses := true, plainKeys := false, apart := false, narrowed := true }
def TableTakesUptoSaid : Prop := tableTakesUptoRow.holds Try.pinned (OpenSpec.upto tableTakesSpec)

/-- 'facsimilelaw24.TableEmpty', WHERE WHAT IT READS IS OF BULK AT MOST 1048576: true; the input reads as it did. -/
def tableEmptyUptoRow : OpenClaim := { program := "ytmlggfapnkhcaaa", sum := "952d251479cc7634ab65a5d84fa92afe4bb3b4dcc46c2ef99f07f5bdec6b06c9", func := "facsimile/facsimilelaw24.TableEmpty", spec := "tableEmpty", unfollowed := true, recurses := true, plainKeys := false, apart := false, narrowed := true }
def TableEmptyUptoSaid : Prop := tableEmptyUptoRow.holds Try.pinned (OpenSpec.upto tableEmptySpec)

/-- 'facsimilelaw24.TableTells', WHERE WHAT IT READS IS OF BULK AT MOST 1048576: true; the input reads as it did. -/
def tableTellsUptoRow : OpenClaim := { program := "ytmlggfapnkhcaaa", sum := "952d251479cc7634ab65a5d84fa92afe4bb3b4dcc46c2ef99f07f5bdec6b06c9", func := "facsimile/facsimilelaw24.TableTells", spec := "tableTells", unfollowed := true, recurses := true, plainKeys := false, apart := false, narrowed := true }
def TableTellsUptoSaid : Prop := tableTellsUptoRow.holds Try.pinned (OpenSpec.upto tableTellsSpec)

/-- 'facsimilelaw24.TableOne', WHERE WHAT IT READS IS OF BULK AT MOST 1048576: true; the input reads as it did. -/
def tableOneUptoRow : OpenClaim := { program := "ytmlggfapnkhcaaa", sum := "952d251479cc7634ab65a5d84fa92afe4bb3b4dcc46c2ef99f07f5bdec6b06c9", func := "facsimile/facsimilelaw24.TableOne", spec := "tableOne", unfollowed := true, recurses := true, plainKeys := false, apart := false, narrowed := true }
def TableOneUptoSaid : Prop := tableOneUptoRow.holds Try.pinned (OpenSpec.upto tableOneSpec)

end Rows
end Go.Proofs.Ytmlggfapnkhcaaa
