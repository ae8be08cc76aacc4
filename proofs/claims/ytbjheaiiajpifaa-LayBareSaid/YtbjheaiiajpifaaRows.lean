/-
  No cell of these rows narrows 'for every input' (looked for: loops, veiled, ifaces, maps, wideKeys, modest, calm, conditions, laid).
  DERIVED. THE GIVEN ROWS OF THIS SEAT. 7 by the template 'for every input the law returns true; each argument reads behind the call as it read before'; 0 by the template 'total and deterministic' (their statements: YtbjheaiiajpifaaTotals.lean).
  GIVEN WITH THE SEED: the statements are not yours to turn. If you find one false, say at which input.
  Laid BY PROGRAM, IN A SANDBOX (cutbox-rows.mjs): the forced cells as the released guide's own fill.sh prints them over the translation 879505053ccbca1a… (all of the seat's roots in one cut). By AI agents, Wed Nov 11 2026. No macro, syntax, notation, axiom, sorry.
-/
import Derived.Test.YtbjheaiiajpifaaChecked
import GoSem.Claim
import GoSem.ClaimJoined
import GoSem.ClaimMapViews
import Derived.JoinedTies
import Derived.KernelRfl
namespace Go.Proofs.Ytbjheaiiajpifaa
/- THE CELL 'sum', in the pinned program and in every row, IS THE sha256 OF THE DUMP (.gsa) THAT YtbjheaiiajpifaaProg.lean LOADS. Nothing in Lean hashes anything: it is a label: what it is worth is what the hold of that sum in a sandbox is worth. -/
noncomputable def Try.pinned : Pinned := { name := "ytbjheaiiajpifaa", sum := "879505053ccbca1ab50e10e88df9b88cd2d8117b909868cef01ee61efa5537bd", checked := Try.checked }
namespace Rows
def none {H : Type} : Left H := { results := [], args := [] }

/-- 'facsimilelaw40.SameTells': WHATEVER THE INPUT: true; the input reads as it did. -/
def sameTellsSpec : ChangeSpec := { name := "sameTells", fn := fun _ => fun
  | [d1, d2, d3] => { results := [.lit (.bool true)], args := [d1, d2, d3] }
  | _ => none }
def sameTellsRow : OpenClaim := { program := "ytbjheaiiajpifaa", sum := "879505053ccbca1ab50e10e88df9b88cd2d8117b909868cef01ee61efa5537bd", func := "facsimile/facsimilelaw40.SameTells", spec := "sameTells", unfollowed := true, recurses := true, apart := false }
def SameTellsSaid : Prop := sameTellsRow.holds Try.pinned (OpenSpec.ofChange sameTellsSpec)

/-- ITS FALSE NEIGHBOUR: 'it returns false'. Refute it at one input. -/
def sameTellsWrong : ChangeSpec := { name := "sameTells", fn := fun _ => fun
  | [d1, d2, d3] => { results := [.lit (.bool false)], args := [d1, d2, d3] }
  | _ => none }
def SameTellsWrongFalsely : Prop := sameTellsRow.holds Try.pinned (OpenSpec.ofChange sameTellsWrong)

/-- 'facsimilelaw40.SameTurned': WHATEVER THE INPUT: true; the input reads as it did. -/
def sameTurnedSpec : ChangeSpec := { name := "sameTurned", fn := fun _ => fun
  | [d1, d2, d3] => { results := [.lit (.bool true)], args := [d1, d2, d3] }
  | _ => none }
def sameTurnedRow : OpenClaim := { program := "ytbjheaiiajpifaa", sum := "879505053ccbca1ab50e10e88df9b88cd2d8117b909868cef01ee61efa5537bd", func := "facsimile/facsimilelaw40.SameTurned", spec := "sameTurned", unfollowed := true, recurses := true, apart := false }
def SameTurnedSaid : Prop := sameTurnedRow.holds Try.pinned (OpenSpec.ofChange sameTurnedSpec)

/-- ITS FALSE NEIGHBOUR: 'it returns false'. Refute it at one input. -/
def sameTurnedWrong : ChangeSpec := { name := "sameTurned", fn := fun _ => fun
  | [d1, d2, d3] => { results := [.lit (.bool false)], args := [d1, d2, d3] }
  | _ => none }
def SameTurnedWrongFalsely : Prop := sameTurnedRow.holds Try.pinned (OpenSpec.ofChange sameTurnedWrong)

/-- 'facsimilelaw40.SameNone': WHATEVER THE INPUT: true; the input reads as it did. -/
def sameNoneSpec : ChangeSpec := { name := "sameNone", fn := fun _ => fun
  | [d1, d2, d3] => { results := [.lit (.bool true)], args := [d1, d2, d3] }
  | _ => none }
def sameNoneRow : OpenClaim := { program := "ytbjheaiiajpifaa", sum := "879505053ccbca1ab50e10e88df9b88cd2d8117b909868cef01ee61efa5537bd", func := "facsimile/facsimilelaw40.SameNone", spec := "sameNone", unfollowed := true, recurses := true, apart := false }
def SameNoneSaid : Prop := sameNoneRow.holds Try.pinned (OpenSpec.ofChange sameNoneSpec)

/-- ITS FALSE NEIGHBOUR: 'it returns false'. Refute it at one input. -/
def sameNoneWrong : ChangeSpec := { name := "sameNone", fn := fun _ => fun
  | [d1, d2, d3] => { results := [.lit (.bool false)], args := [d1, d2, d3] }
  | _ => none }
def SameNoneWrongFalsely : Prop := sameNoneRow.holds Try.pinned (OpenSpec.ofChange sameNoneWrong)

/-- 'facsimilelaw40.SameEdits': WHATEVER THE INPUT: true; the input reads as it did. -/
def sameEditsSpec : ChangeSpec := { name := "sameEdits", fn := fun _ => fun
  | [d1, d2] => { results := [.lit (.bool true)], args := [d1, d2] }
  | _ => none }
def sameEditsRow : OpenClaim := { program := "ytbjheaiiajpifaa", sum := "879505053ccbca1ab50e10e88df9b88cd2d8117b909868cef01ee61efa5537bd", func := "facsimile/facsimilelaw40.SameEdits", spec := "sameEdits", unfollowed := true, recurses := true, apart := false }
def SameEditsSaid : Prop := sameEditsRow.holds Try.pinned (OpenSpec.ofChange sameEditsSpec)

/-- ITS FALSE NEIGHBOUR: 'it returns false'. Refute it at one input. -/
def sameEditsWrong : ChangeSpec := { name := "sameEdits", fn := fun _ => fun
  | [d1, d2] => { results := [.lit (.bool false)], args := [d1, d2] }
  | _ => none }
def SameEditsWrongFalsely : Prop := sameEditsRow.holds Try.pinned (OpenSpec.ofChange sameEditsWrong)

/-- 'facsimilelaw38.LayTells': WHATEVER THE INPUT: true; the input reads as it did. -/
def layTellsSpec : ChangeSpec := { name := "layTells", fn := fun _ => fun
  | [d1, d2] => { results := [.lit (.bool true)], args := [d1, d2] }
  | _ => none }
def layTellsRow : OpenClaim := { program := "ytbjheaiiajpifaa", sum := "879505053ccbca1ab50e10e88df9b88cd2d8117b909868cef01ee61efa5537bd", func := "facsimile/facsimilelaw38.LayTells", spec := "layTells", unfollowed := true, recurses := true, apart := false }
def LayTellsSaid : Prop := layTellsRow.holds Try.pinned (OpenSpec.ofChange layTellsSpec)

/-- ITS FALSE NEIGHBOUR: 'it returns false'. Refute it at one input. -/
def layTellsWrong : ChangeSpec := { name := "layTells", fn := fun _ => fun
  | [d1, d2] => { results := [.lit (.bool false)], args := [d1, d2] }
  | _ => none }
def LayTellsWrongFalsely : Prop := layTellsRow.holds Try.pinned (OpenSpec.ofChange layTellsWrong)

/-- 'facsimilelaw38.LayParts': WHATEVER THE INPUT: true; the input reads as it did. -/
def layPartsSpec : ChangeSpec := { name := "layParts", fn := fun _ => fun
  | [d1, d2] => { results := [.lit (.bool true)], args := [d1, d2] }
  | _ => none }
def layPartsRow : OpenClaim := { program := "ytbjheaiiajpifaa", sum := "879505053ccbca1ab50e10e88df9b88cd2d8117b909868cef01ee61efa5537bd", func := "facsimile/facsimilelaw38.LayParts", spec := "layParts", unfollowed := true, recurses := true, apart := false }
def LayPartsSaid : Prop := layPartsRow.holds Try.pinned (OpenSpec.ofChange layPartsSpec)

/-- ITS FALSE NEIGHBOUR: 'it returns false'. Refute it at one input. -/
def layPartsWrong : ChangeSpec := { name := "layParts", fn := fun _ => fun
  | [d1, d2] => { results := [.lit (.bool false)], args := [d1, d2] }
  | _ => none }
def LayPartsWrongFalsely : Prop := layPartsRow.holds Try.pinned (OpenSpec.ofChange layPartsWrong)

/-- 'facsimilelaw38.LayBare': WHATEVER THE INPUT: true; the input reads as it did. -/
def layBareSpec : ChangeSpec := { name := "layBare", fn := fun _ => fun
  | [d1, d2, d3] => { results := [.lit (.bool true)], args := [d1, d2, d3] }
  | _ => none }
def layBareRow : OpenClaim := { program := "ytbjheaiiajpifaa", sum := "879505053ccbca1ab50e10e88df9b88cd2d8117b909868cef01ee61efa5537bd", func := "facsimile/facsimilelaw38.LayBare", spec := "layBare", unfollowed := true, recurses := true, apart := false }
def LayBareSaid : Prop := layBareRow.holds Try.pinned (OpenSpec.ofChange layBareSpec)

/-- ITS FALSE NEIGHBOUR: 'it returns false'. Refute it at one input. -/
def layBareWrong : ChangeSpec := { name := "layBare", fn := fun _ => fun
  | [d1, d2, d3] => { results := [.lit (.bool false)], args := [d1, d2, d3] }
  | _ => none }
def LayBareWrongFalsely : Prop := layBareRow.holds Try.pinned (OpenSpec.ofChange layBareWrong)

/- THE SECOND FORM. 'bulk': how many values and letters a reading holds, each counted each time it is reached (what is shared counts as often as it is met; a slice's spare places count too). A statement '..UptoSaid' is the law's where the arguments, and the package variables that the reading takes, are together of bulk at most 1048576: NARROWER than '..Said'. Prove '..Said' where nothing that the law and all that it calls make is longer than what came in: it says more and counts as full. Else prove '..UptoSaid'. A law counts once. -/
mutual
def uptoBulk {H : Type} : DataW H → Nat
  | .lit (.string bytes) => bytes.length + 1
  | .lit _ => 1
  | .nil => 1
  | .ptr d => uptoBulk d + 1
  | .slice elems spare => uptoBulkAll elems + uptoBulkAll spare + 1
  | .agg parts => uptoBulkAll parts + 1
  | .iface _ d => uptoBulk d + 1
  | .map entries => uptoBulkEntries entries + 1
  | .held _ => 1
def uptoBulkAll {H : Type} : List (DataW H) → Nat
  | [] => 0
  | d :: r => uptoBulk d + uptoBulkAll r
def uptoBulkEntries {H : Type} : List (Lit × DataW H) → Nat
  | [] => 0
  | x :: r => uptoBulkEntry x + uptoBulkEntries r
def uptoBulkEntry {H : Type} : Lit × DataW H → Nat
  | (.string bytes, d) => bytes.length + uptoBulk d + 1
  | (_, d) => uptoBulk d + 1
 end
def uptoSmall : (H : Type) → List (DataW H) → Bool := fun _ ds => decide (uptoBulkAll ds ≤ 1048576)
def OpenSpec.upto (s : _root_.Go.ChangeSpec) : _root_.Go.OpenSpec := { _root_.Go.OpenSpec.ofChange s with cond := some uptoSmall }

/-- 'facsimilelaw40.SameTells', WHERE WHAT IT READS IS OF BULK AT MOST 1048576: true; the input reads as it did. -/
def sameTellsUptoRow : OpenClaim := { program := "ytbjheaiiajpifaa", sum := "879505053ccbca1ab50e10e88df9b88cd2d8117b909868cef01ee61efa5537bd", func := "facsimile/facsimilelaw40.SameTells", spec := "sameTells", unfollowed := true, recurses := true, apart := false, narrowed := true }
def SameTellsUptoSaid : Prop := sameTellsUptoRow.holds Try.pinned (OpenSpec.upto sameTellsSpec)

/-- 'facsimilelaw40.SameTurned', WHERE WHAT IT READS IS OF BULK AT MOST 1048576: true; the input reads as it did. -/
def sameTurnedUptoRow : OpenClaim := { program := "ytbjheaiiajpifaa", sum := "879505053ccbca1ab50e10e88df9b88cd2d8117b909868cef01ee61efa5537bd", func := "facsimile/facsimilelaw40.SameTurned", spec := "sameTurned", unfollowed := true, recurses := true, apart := false, narrowed := true }
def SameTurnedUptoSaid : Prop := sameTurnedUptoRow.holds Try.pinned (OpenSpec.upto sameTurnedSpec)

/-- 'facsimilelaw40.SameNone', WHERE WHAT IT READS IS OF BULK AT MOST 1048576: true; the input reads as it did. -/
def sameNoneUptoRow : OpenClaim := { program := "ytbjheaiiajpifaa", sum := "879505053ccbca1ab50e10e88df9b88cd2d8117b909868cef01ee61efa5537bd", func := "facsimile/facsimilelaw40.SameNone", spec := "sameNone", unfollowed := true, recurses := true, apart := false, narrowed := true }
def SameNoneUptoSaid : Prop := sameNoneUptoRow.holds Try.pinned (OpenSpec.upto sameNoneSpec)

/-- 'facsimilelaw40.SameEdits', WHERE WHAT IT READS IS OF BULK AT MOST 1048576: true; the input reads as it did. -/
def sameEditsUptoRow : OpenClaim := { program := "ytbjheaiiajpifaa", sum := "879505053ccbca1ab50e10e88df9b88cd2d8117b909868cef01ee61efa5537bd", func := "facsimile/facsimilelaw40.SameEdits", spec := "sameEdits", unfollowed := true, recurses := true, apart := false, narrowed := true }
def SameEditsUptoSaid : Prop := sameEditsUptoRow.holds Try.pinned (OpenSpec.upto sameEditsSpec)

/-- 'facsimilelaw38.LayTells', WHERE WHAT IT READS IS OF BULK AT MOST 1048576: true; the input reads as it did. -/
def layTellsUptoRow : OpenClaim := { program := "ytbjheaiiajpifaa", sum := "879505053ccbca1ab50e10e88df9b88cd2d8117b909868cef01ee61efa5537bd", func := "facsimile/facsimilelaw38.LayTells", spec := "layTells", unfollowed := true, recurses := true, apart := false, narrowed := true }
def LayTellsUptoSaid : Prop := layTellsUptoRow.holds Try.pinned (OpenSpec.upto layTellsSpec)

/-- 'facsimilelaw38.LayParts', WHERE WHAT IT READS IS OF BULK AT MOST 1048576: true; the input reads as it did. -/
def layPartsUptoRow : OpenClaim := { program := "ytbjheaiiajpifaa", sum := "879505053ccbca1ab50e10e88df9b88cd2d8117b909868cef01ee61efa5537bd", func := "facsimile/facsimilelaw38.LayParts", spec := "layParts", unfollowed := true, recurses := true, apart := false, narrowed := true }
def LayPartsUptoSaid : Prop := layPartsUptoRow.holds Try.pinned (OpenSpec.upto layPartsSpec)

/-- 'facsimilelaw38.LayBare', WHERE WHAT IT READS IS OF BULK AT MOST 1048576: true; the input reads as it did. -/
def layBareUptoRow : OpenClaim := { program := "ytbjheaiiajpifaa", sum := "879505053ccbca1ab50e10e88df9b88cd2d8117b909868cef01ee61efa5537bd", func := "facsimile/facsimilelaw38.LayBare", spec := "layBare", unfollowed := true, recurses := true, apart := false, narrowed := true }
def LayBareUptoSaid : Prop := layBareUptoRow.holds Try.pinned (OpenSpec.upto layBareSpec)

end Rows
end Go.Proofs.Ytbjheaiiajpifaa
