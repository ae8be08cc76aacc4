/-
  No cell of these rows narrows 'for every input' (looked for: loops, veiled, ifaces, maps, wideKeys, modest, calm, conditions, laid).
  DERIVED. THE GIVEN ROWS OF THIS SEAT. 3 by the template 'for every input the law returns true; each argument reads behind the call as it read before'; 0 by the template 'total and deterministic' (their statements: YtfmdmeokbbpmlaaGreatTotals.lean).
  GIVEN WITH THE SEED: the statements are not yours to turn. If you find one false, say at which input.
  Laid BY PROGRAM, IN A SANDBOX (cutbox-rows.mjs): the forced cells as the released guide's own fill.sh prints them over the translation 6f784ba93ce0ec29… (all of the seat's roots in one cut). By AI agents, Wed Nov 11 2026. No macro, syntax, notation, axiom, sorry.
-/
import Derived.Test.YtfmdmeokbbpmlaaGreatChecked
import GoSem.Claim
import GoSem.ClaimJoined
import GoSem.ClaimMapViews
import Derived.JoinedTies
import Derived.KernelRfl
namespace Go.Proofs.YtfmdmeokbbpmlaaGreat
/- THE CELL 'sum', in the pinned program and in every row, IS THE sha256 OF THE DUMP (.gsa) THAT YtfmdmeokbbpmlaaGreatProg.lean LOADS. Nothing in Lean hashes anything: it is a label: what it is worth is what the hold of that sum in a sandbox is worth. -/
noncomputable def Tryz.pinned : Pinned := { name := "ytfmdmeokbbpmlaagreat", sum := "6f784ba93ce0ec29c4e8842bdf03bd1d8c3c5ce6867abbd45e7c23b09c6750a2", checked := Tryz.checked }
namespace Rows
def none {H : Type} : Left H := { results := [], args := [] }

/-- 'facsimilelaw20.GreadReads': WHATEVER THE INPUT: true; the input reads as it did. -/
def greadReadsSpec : ChangeSpec := { name := "greadReads", fn := fun _ => fun
  | [d] => { results := [.lit (.bool true)], args := [d] }
  | _ => none }
def greadReadsRow : OpenClaim := { program := "ytfmdmeokbbpmlaagreat", sum := "6f784ba93ce0ec29c4e8842bdf03bd1d8c3c5ce6867abbd45e7c23b09c6750a2", func := "facsimile/facsimilelaw20.GreadReads", spec := "greadReads", inPlace := ["internal/bytealg.IndexByteString", "internal/bytealg.IndexString"], unfollowed := true, recurses := true, named := ["internal/bytealg.MaxLen"], apart := false }
def GreadReadsSaid : Prop := greadReadsRow.holds Tryz.pinned (OpenSpec.ofChange greadReadsSpec)

/-- ITS FALSE NEIGHBOUR: 'it returns false'. Refute it at one input. -/
def greadReadsWrong : ChangeSpec := { name := "greadReads", fn := fun _ => fun
  | [d] => { results := [.lit (.bool false)], args := [d] }
  | _ => none }
def GreadReadsWrongFalsely : Prop := greadReadsRow.holds Tryz.pinned (OpenSpec.ofChange greadReadsWrong)

/-- 'facsimilelaw20.GreadBack': WHATEVER THE INPUT: true; the input reads as it did. -/
def greadBackSpec : ChangeSpec := { name := "greadBack", fn := fun _ => fun
  | [d] => { results := [.lit (.bool true)], args := [d] }
  | _ => none }
def greadBackRow : OpenClaim := { program := "ytfmdmeokbbpmlaagreat", sum := "6f784ba93ce0ec29c4e8842bdf03bd1d8c3c5ce6867abbd45e7c23b09c6750a2", func := "facsimile/facsimilelaw20.GreadBack", spec := "greadBack", inPlace := ["internal/bytealg.IndexByteString", "internal/bytealg.IndexString"], unfollowed := true, recurses := true, named := ["internal/bytealg.MaxLen"], apart := false }
def GreadBackSaid : Prop := greadBackRow.holds Tryz.pinned (OpenSpec.ofChange greadBackSpec)

/-- ITS FALSE NEIGHBOUR: 'it returns false'. Refute it at one input. -/
def greadBackWrong : ChangeSpec := { name := "greadBack", fn := fun _ => fun
  | [d] => { results := [.lit (.bool false)], args := [d] }
  | _ => none }
def GreadBackWrongFalsely : Prop := greadBackRow.holds Tryz.pinned (OpenSpec.ofChange greadBackWrong)

/-- 'facsimilelaw20.GreadAgain': WHATEVER THE INPUT: true; the input reads as it did. -/
def greadAgainSpec : ChangeSpec := { name := "greadAgain", fn := fun _ => fun
  | [d] => { results := [.lit (.bool true)], args := [d] }
  | _ => none }
def greadAgainRow : OpenClaim := { program := "ytfmdmeokbbpmlaagreat", sum := "6f784ba93ce0ec29c4e8842bdf03bd1d8c3c5ce6867abbd45e7c23b09c6750a2", func := "facsimile/facsimilelaw20.GreadAgain", spec := "greadAgain", inPlace := ["internal/bytealg.IndexByteString", "internal/bytealg.IndexString"], unfollowed := true, recurses := true, named := ["internal/bytealg.MaxLen"], apart := false }
def GreadAgainSaid : Prop := greadAgainRow.holds Tryz.pinned (OpenSpec.ofChange greadAgainSpec)

/-- ITS FALSE NEIGHBOUR: 'it returns false'. Refute it at one input. -/
def greadAgainWrong : ChangeSpec := { name := "greadAgain", fn := fun _ => fun
  | [d] => { results := [.lit (.bool false)], args := [d] }
  | _ => none }
def GreadAgainWrongFalsely : Prop := greadAgainRow.holds Tryz.pinned (OpenSpec.ofChange greadAgainWrong)

/- THE SECOND FORM. 'bulk': how many values and letters a reading holds, each counted each time it is reached (what is shared counts as often as it is met; a slice's spare places count too). A statement '..UptoSaid' is the law's where the arguments, and the package variables that the reading takes, are together of bulk at most 1048576: NARROWER than '..Said'. Prove '..Said' where nothing that the law and all that it calls make is longer than what came in: it says more and counts as full. Else prove '..UptoSaid'. A law counts once. -/
mutual
def uptoBulk {H : Type} : DataW H → Nat
  | .lit (.string bytes) => bytes.length + 1
  | .lit _ => 1
  | .nil => 1
  | .ptr d => uptoBulk d + 1
  | .slice elems spare => uptoBulkAll elems + uptoBulkAll spare + 1
  | .agg parts => uptoBulkAll parts + 1
  | .iface _ d => uptoBulk d + 1
  | .map entries => uptoBulkEntries entries + 1
  | .held _ => 1
def uptoBulkAll {H : Type} : List (DataW H) → Nat
  | [] => 0
  | d :: r => uptoBulk d + uptoBulkAll r
def uptoBulkEntries {H : Type} : List (Lit × DataW H) → Nat
  | [] => 0
  | x :: r => uptoBulkEntry x + uptoBulkEntries r
def uptoBulkEntry {H : Type} : Lit × DataW H → Nat
  | (.string bytes, d) => bytes.length + uptoBulk d + 1
  | (_, d) => uptoBulk d + 1
 end
def uptoSmall : (H : Type) → List (DataW H) → Bool := fun _ ds => decide (uptoBulkAll ds ≤ 1048576)
def OpenSpec.upto (s : _root_.Go.ChangeSpec) : _root_.Go.OpenSpec := { _root_.Go.OpenSpec.ofChange s with cond := some uptoSmall }

/-- 'facsimilelaw20.GreadReads', WHERE WHAT IT READS IS OF BULK AT MOST 1048576: true; the input reads as it did. -/
def greadReadsUptoRow : OpenClaim := { program := "ytfmdmeokbbpmlaagreat", sum := "6f784ba93ce0ec29c4e8842bdf03bd1d8c3c5ce6867abbd45e7c23b09c6750a2", func := "facsimile/facsimilelaw20.GreadReads", spec := "greadReads", inPlace := ["internal/bytealg.IndexByteString", "internal/bytealg.IndexString"], unfollowed := true, recurses := true, named := ["internal/bytealg.MaxLen"], apart := false, narrowed := true }
def GreadReadsUptoSaid : Prop := greadReadsUptoRow.holds Tryz.pinned (OpenSpec.upto greadReadsSpec)

/-- 'facsimilelaw20.GreadBack', WHERE WHAT IT READS IS OF BULK AT MOST 1048576: true; the input reads as it did. -/
def greadBackUptoRow : OpenClaim := { program := "ytfmdmeokbbpmlaagreat", sum := "6f784ba93ce0ec29c4e8842bdf03bd1d8c3c5ce6867abbd45e7c23b09c6750a2", func := "facsimile/facsimilelaw20.GreadBack", spec := "greadBack", inPlace := ["internal/bytealg.IndexByteString", "internal/bytealg.IndexString"], unfollowed := true, recurses := true, named := ["internal/bytealg.MaxLen"], apart := false, narrowed := true }
def GreadBackUptoSaid : Prop := greadBackUptoRow.holds Tryz.pinned (OpenSpec.upto greadBackSpec)

/-- 'facsimilelaw20.GreadAgain', WHERE WHAT IT READS IS OF BULK AT MOST 1048576: true; the input reads as it did. -/
def greadAgainUptoRow : OpenClaim := { program := "ytfmdmeokbbpmlaagreat", sum := "6f784ba93ce0ec29c4e8842bdf03bd1d8c3c5ce6867abbd45e7c23b09c6750a2", func := "facsimile/facsimilelaw20.GreadAgain", spec := "greadAgain", inPlace := ["internal/bytealg.IndexByteString", "internal/bytealg.IndexString"], unfollowed := true, recurses := true, named := ["internal/bytealg.MaxLen"], apart := false, narrowed := true }
def GreadAgainUptoSaid : Prop := greadAgainUptoRow.holds Tryz.pinned (OpenSpec.upto greadAgainSpec)

end Rows
end Go.Proofs.YtfmdmeokbbpmlaaGreat
