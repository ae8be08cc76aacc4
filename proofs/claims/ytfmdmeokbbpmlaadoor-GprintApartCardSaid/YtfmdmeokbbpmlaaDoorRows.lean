/-
  NARROWER THAN 'FOR EVERY INPUT', by the rows' own cells (each row's printed sentence says how): RxtextShows: laid · RxtextBack: laid · RxtextAgain: laid · GprintLines: laid · GprintShows: laid · GprintApart: laid.
  DERIVED. THE GIVEN ROWS OF THIS SEAT. 6 by the template 'for every input the law returns true; each argument reads behind the call as it read before'; 0 by the template 'total and deterministic' (their statements: YtfmdmeokbbpmlaaDoorTotals.lean).
  GIVEN WITH THE SEED: the statements are not yours to turn. If you find one false, say at which input.
  Laid BY PROGRAM, IN A SANDBOX (cutbox-rows.mjs): the forced cells as the released guide's own fill.sh prints them over the translation 5c4ee40fcddca98a… (all of the seat's roots in one cut). By AI agents, Wed Nov 11 2026. No macro, syntax, notation, axiom, sorry.
-/
import Derived.Test.YtfmdmeokbbpmlaaDoorChecked
import GoSem.Claim
import GoSem.ClaimJoined
import GoSem.ClaimMapViews
import Derived.JoinedTies
import Derived.KernelRfl
namespace Go.Proofs.YtfmdmeokbbpmlaaDoor
/- THE CELL 'sum', in the pinned program and in every row, IS THE sha256 OF THE DUMP (.gsa) THAT YtfmdmeokbbpmlaaDoorProg.lean LOADS. Nothing in Lean hashes anything: it is a label: what it is worth is what the hold of that sum in a sandbox is worth. -/
noncomputable def Tryd.pinned : Pinned := { name := "ytfmdmeokbbpmlaadoor", sum := "5c4ee40fcddca98a6826896d7fd6e26fe2570fa3ee7f9c1051c502696f79a2f0", checked := Tryd.checked }
namespace Rows
def none {H : Type} : Left H := { results := [], args := [] }

/- WHAT THE LISTED PACKAGE-LEVEL VARIABLES READ AS WHEN THE CALL BEGINS. Each datum BY PROGRAM (the guide's laid-datum.mjs) off the statement by which the dump's own 'gosem.cut.vars' lays the variable. In a bare row this is a premise. The card (YtfmdmeokbbpmlaaDoorCards.lean) ties it to the program's text. -/
def laid_math_bits_deBruijn64tab {H : Type} : DataW H := .agg [.lit (.int .u8 0), .lit (.int .u8 1), .lit (.int .u8 56), .lit (.int .u8 2), .lit (.int .u8 57), .lit (.int .u8 49), .lit (.int .u8 28), .lit (.int .u8 3), .lit (.int .u8 61), .lit (.int .u8 58), .lit (.int .u8 42), .lit (.int .u8 50), .lit (.int .u8 38), .lit (.int .u8 29), .lit (.int .u8 17), .lit (.int .u8 4), .lit (.int .u8 62), .lit (.int .u8 47), .lit (.int .u8 59), .lit (.int .u8 36), .lit (.int .u8 45), .lit (.int .u8 43), .lit (.int .u8 51), .lit (.int .u8 22), .lit (.int .u8 53), .lit (.int .u8 39), .lit (.int .u8 33), .lit (.int .u8 30), .lit (.int .u8 24), .lit (.int .u8 18), .lit (.int .u8 12), .lit (.int .u8 5), .lit (.int .u8 63), .lit (.int .u8 55), .lit (.int .u8 48), .lit (.int .u8 27), .lit (.int .u8 60), .lit (.int .u8 41), .lit (.int .u8 37), .lit (.int .u8 16), .lit (.int .u8 46), .lit (.int .u8 35), .lit (.int .u8 44), .lit (.int .u8 21), .lit (.int .u8 52), .lit (.int .u8 32), .lit (.int .u8 23), .lit (.int .u8 11), .lit (.int .u8 54), .lit (.int .u8 26), .lit (.int .u8 40), .lit (.int .u8 15), .lit (.int .u8 34), .lit (.int .u8 20), .lit (.int .u8 31), .lit (.int .u8 10), .lit (.int .u8 25), .lit (.int .u8 14), .lit (.int .u8 19), .lit (.int .u8 9), .lit (.int .u8 13), .lit (.int .u8 8), .lit (.int .u8 7), .lit (.int .u8 6)]
def laid_facsimile_gprint_classes {H : Type} : DataW H := .agg [.lit (.string [116, 111, 107, 101, 110]), .lit (.string [98, 108, 97, 110, 107]), .lit (.string [110, 111, 116, 101]), .lit (.string [108, 105, 110, 101])]
def laid_facsimile_gprint_gaps {H : Type} : DataW H := .agg [.lit (.string []), .lit (.string [126]), .lit (.string [33])]

/-- 'facsimilelaw08.RxtextShows': WHATEVER THE INPUT: true; the input reads as it did. -/
def rxtextShowsSpec : ChangeSpec := { name := "rxtextShows", fn := fun _ => fun
  | [d1, d2] => { results := [.lit (.bool true)], args := [d1, d2] }
  | _ => none }
def rxtextShowsRow : OpenClaim := { program := "ytfmdmeokbbpmlaadoor", sum := "5c4ee40fcddca98a6826896d7fd6e26fe2570fa3ee7f9c1051c502696f79a2f0", func := "facsimile/facsimilelaw08.RxtextShows", spec := "rxtextShows", inPlace := ["internal/bytealg.IndexByteString"], unfollowed := true, recurses := true, named := ["math/bits.deBruijn64tab"], apart := false, laid := [("math/bits.deBruijn64tab", laid_math_bits_deBruijn64tab)] }
def RxtextShowsSaid : Prop := rxtextShowsRow.holds Tryd.pinned (OpenSpec.ofChange rxtextShowsSpec)

/-- ITS FALSE NEIGHBOUR: 'it returns false'. Refute it at one input. -/
def rxtextShowsWrong : ChangeSpec := { name := "rxtextShows", fn := fun _ => fun
  | [d1, d2] => { results := [.lit (.bool false)], args := [d1, d2] }
  | _ => none }
def RxtextShowsWrongFalsely : Prop := rxtextShowsRow.holds Tryd.pinned (OpenSpec.ofChange rxtextShowsWrong)

/-- 'facsimilelaw08.RxtextBack': WHATEVER THE INPUT: true; the input reads as it did. -/
def rxtextBackSpec : ChangeSpec := { name := "rxtextBack", fn := fun _ => fun
  | [d] => { results := [.lit (.bool true)], args := [d] }
  | _ => none }
def rxtextBackRow : OpenClaim := { program := "ytfmdmeokbbpmlaadoor", sum := "5c4ee40fcddca98a6826896d7fd6e26fe2570fa3ee7f9c1051c502696f79a2f0", func := "facsimile/facsimilelaw08.RxtextBack", spec := "rxtextBack", inPlace := ["internal/bytealg.IndexByteString"], unfollowed := true, recurses := true, named := ["math/bits.deBruijn64tab"], apart := false, laid := [("math/bits.deBruijn64tab", laid_math_bits_deBruijn64tab)] }
def RxtextBackSaid : Prop := rxtextBackRow.holds Tryd.pinned (OpenSpec.ofChange rxtextBackSpec)

/-- ITS FALSE NEIGHBOUR: 'it returns false'. Refute it at one input. -/
def rxtextBackWrong : ChangeSpec := { name := "rxtextBack", fn := fun _ => fun
  | [d] => { results := [.lit (.bool false)], args := [d] }
  | _ => none }
def RxtextBackWrongFalsely : Prop := rxtextBackRow.holds Tryd.pinned (OpenSpec.ofChange rxtextBackWrong)

/-- 'facsimilelaw08.RxtextAgain': WHATEVER THE INPUT: true; the input reads as it did. -/
def rxtextAgainSpec : ChangeSpec := { name := "rxtextAgain", fn := fun _ => fun
  | [d] => { results := [.lit (.bool true)], args := [d] }
  | _ => none }
def rxtextAgainRow : OpenClaim := { program := "ytfmdmeokbbpmlaadoor", sum := "5c4ee40fcddca98a6826896d7fd6e26fe2570fa3ee7f9c1051c502696f79a2f0", func := "facsimile/facsimilelaw08.RxtextAgain", spec := "rxtextAgain", inPlace := ["internal/bytealg.IndexByteString"], unfollowed := true, recurses := true, named := ["math/bits.deBruijn64tab"], apart := false, laid := [("math/bits.deBruijn64tab", laid_math_bits_deBruijn64tab)] }
def RxtextAgainSaid : Prop := rxtextAgainRow.holds Tryd.pinned (OpenSpec.ofChange rxtextAgainSpec)

/-- ITS FALSE NEIGHBOUR: 'it returns false'. Refute it at one input. -/
def rxtextAgainWrong : ChangeSpec := { name := "rxtextAgain", fn := fun _ => fun
  | [d] => { results := [.lit (.bool false)], args := [d] }
  | _ => none }
def RxtextAgainWrongFalsely : Prop := rxtextAgainRow.holds Tryd.pinned (OpenSpec.ofChange rxtextAgainWrong)

/-- 'facsimilelaw19.GprintLines': WHATEVER THE INPUT: true; the input reads as it did. -/
def gprintLinesSpec : ChangeSpec := { name := "gprintLines", fn := fun _ => fun
  | [d1, d2, d3, d4] => { results := [.lit (.bool true)], args := [d1, d2, d3, d4] }
  | _ => none }
def gprintLinesRow : OpenClaim := { program := "ytfmdmeokbbpmlaadoor", sum := "5c4ee40fcddca98a6826896d7fd6e26fe2570fa3ee7f9c1051c502696f79a2f0", func := "facsimile/facsimilelaw19.GprintLines", spec := "gprintLines", inPlace := ["internal/abi.NoEscape", "internal/bytealg.MakeNoZero", "internal/bytealg.IndexByteString"], unfollowed := true, recurses := true, named := ["facsimile/gprint.gaps", "facsimile/gprint.classes", "math/bits.deBruijn64tab"], apart := false, laid := [("math/bits.deBruijn64tab", laid_math_bits_deBruijn64tab), ("facsimile/gprint.classes", laid_facsimile_gprint_classes), ("facsimile/gprint.gaps", laid_facsimile_gprint_gaps)] }
def GprintLinesSaid : Prop := gprintLinesRow.holds Tryd.pinned (OpenSpec.ofChange gprintLinesSpec)

/-- ITS FALSE NEIGHBOUR: 'it returns false'. Refute it at one input. -/
def gprintLinesWrong : ChangeSpec := { name := "gprintLines", fn := fun _ => fun
  | [d1, d2, d3, d4] => { results := [.lit (.bool false)], args := [d1, d2, d3, d4] }
  | _ => none }
def GprintLinesWrongFalsely : Prop := gprintLinesRow.holds Tryd.pinned (OpenSpec.ofChange gprintLinesWrong)

/-- 'facsimilelaw19.GprintShows': WHATEVER THE INPUT: true; the input reads as it did. -/
def gprintShowsSpec : ChangeSpec := { name := "gprintShows", fn := fun _ => fun
  | [d] => { results := [.lit (.bool true)], args := [d] }
  | _ => none }
def gprintShowsRow : OpenClaim := { program := "ytfmdmeokbbpmlaadoor", sum := "5c4ee40fcddca98a6826896d7fd6e26fe2570fa3ee7f9c1051c502696f79a2f0", func := "facsimile/facsimilelaw19.GprintShows", spec := "gprintShows", inPlace := ["internal/abi.NoEscape", "internal/bytealg.MakeNoZero", "internal/bytealg.IndexByteString"], unfollowed := true, recurses := true, named := ["facsimile/gprint.gaps", "facsimile/gprint.classes", "math/bits.deBruijn64tab"], apart := false, laid := [("math/bits.deBruijn64tab", laid_math_bits_deBruijn64tab), ("facsimile/gprint.classes", laid_facsimile_gprint_classes), ("facsimile/gprint.gaps", laid_facsimile_gprint_gaps)] }
def GprintShowsSaid : Prop := gprintShowsRow.holds Tryd.pinned (OpenSpec.ofChange gprintShowsSpec)

/-- ITS FALSE NEIGHBOUR: 'it returns false'. Refute it at one input. -/
def gprintShowsWrong : ChangeSpec := { name := "gprintShows", fn := fun _ => fun
  | [d] => { results := [.lit (.bool false)], args := [d] }
  | _ => none }
def GprintShowsWrongFalsely : Prop := gprintShowsRow.holds Tryd.pinned (OpenSpec.ofChange gprintShowsWrong)

/-- 'facsimilelaw19.GprintApart': WHATEVER THE INPUT: true; the input reads as it did. -/
def gprintApartSpec : ChangeSpec := { name := "gprintApart", fn := fun _ => fun
  | [d1, d2] => { results := [.lit (.bool true)], args := [d1, d2] }
  | _ => none }
def gprintApartRow : OpenClaim := { program := "ytfmdmeokbbpmlaadoor", sum := "5c4ee40fcddca98a6826896d7fd6e26fe2570fa3ee7f9c1051c502696f79a2f0", func := "facsimile/facsimilelaw19.GprintApart", spec := "gprintApart", inPlace := ["internal/abi.NoEscape", "internal/bytealg.MakeNoZero", "internal/bytealg.IndexByteString"], unfollowed := true, recurses := true, named := ["facsimile/gprint.gaps", "facsimile/gprint.classes", "math/bits.deBruijn64tab"], apart := false, laid := [("math/bits.deBruijn64tab", laid_math_bits_deBruijn64tab), ("facsimile/gprint.classes", laid_facsimile_gprint_classes), ("facsimile/gprint.gaps", laid_facsimile_gprint_gaps)] }
def GprintApartSaid : Prop := gprintApartRow.holds Tryd.pinned (OpenSpec.ofChange gprintApartSpec)

/-- ITS FALSE NEIGHBOUR: 'it returns false'. Refute it at one input. -/
def gprintApartWrong : ChangeSpec := { name := "gprintApart", fn := fun _ => fun
  | [d1, d2] => { results := [.lit (.bool false)], args := [d1, d2] }
  | _ => none }
def GprintApartWrongFalsely : Prop := gprintApartRow.holds Tryd.pinned (OpenSpec.ofChange gprintApartWrong)

/- THE SECOND FORM. 'bulk': how many values and letters a reading holds, each counted each time it is reached (what is shared counts as often as it is met; a slice's spare places count too). A statement '..UptoSaid' is the law's where the arguments, and the package variables that the reading takes, are together of bulk at most 1048576: NARROWER than '..Said'. Prove '..Said' where nothing that the law and all that it calls make is longer than what came in: it says more and counts as full. Else prove '..UptoSaid'. A law counts once. -/
mutual
def uptoBulk {H : Type} : DataW H → Nat
  | .lit (.string bytes) => bytes.length + 1
  | .lit _ => 1
  | .nil => 1
  | .ptr d => uptoBulk d + 1
  | .slice elems spare => uptoBulkAll elems + uptoBulkAll spare + 1
  | .agg parts => uptoBulkAll parts + 1
  | .iface _ d => uptoBulk d + 1
  | .map entries => uptoBulkEntries entries + 1
  | .held _ => 1
def uptoBulkAll {H : Type} : List (DataW H) → Nat
  | [] => 0
  | d :: r => uptoBulk d + uptoBulkAll r
def uptoBulkEntries {H : Type} : List (Lit × DataW H) → Nat
  | [] => 0
  | x :: r => uptoBulkEntry x + uptoBulkEntries r
def uptoBulkEntry {H : Type} : Lit × DataW H → Nat
  | (.string bytes, d) => bytes.length + uptoBulk d + 1
  | (_, d) => uptoBulk d + 1
 end
def uptoSmall : (H : Type) → List (DataW H) → Bool := fun _ ds => decide (uptoBulkAll ds ≤ 1048576)
def OpenSpec.upto (s : _root_.Go.ChangeSpec) : _root_.Go.OpenSpec := { _root_.Go.OpenSpec.ofChange s with cond := some uptoSmall }

/-- 'facsimilelaw08.RxtextShows', WHERE WHAT IT READS IS OF BULK AT MOST 1048576: true; the input reads as it did. -/
def rxtextShowsUptoRow : OpenClaim := { program := "ytfmdmeokbbpmlaadoor", sum := "5c4ee40fcddca98a6826896d7fd6e26fe2570fa3ee7f9c1051c502696f79a2f0", func := "facsimile/facsimilelaw08.RxtextShows", spec := "rxtextShows", inPlace := ["internal/bytealg.IndexByteString"], unfollowed := true, recurses := true, named := ["math/bits.deBruijn64tab"], apart := false, laid := [("math/bits.deBruijn64tab", laid_math_bits_deBruijn64tab)], narrowed := true }
def RxtextShowsUptoSaid : Prop := rxtextShowsUptoRow.holds Tryd.pinned (OpenSpec.upto rxtextShowsSpec)

/-- 'facsimilelaw08.RxtextBack', WHERE WHAT IT READS IS OF BULK AT MOST 1048576: true; the input reads as it did. -/
def rxtextBackUptoRow : OpenClaim := { program := "ytfmdmeokbbpmlaadoor", sum := "5c4ee40fcddca98a6826896d7fd6e26fe2570fa3ee7f9c1051c502696f79a2f0", func := "facsimile/facsimilelaw08.RxtextBack", spec := "rxtextBack", inPlace := ["internal/bytealg.IndexByteString"], unfollowed := true, recurses := true, named := ["math/bits.deBruijn64tab"], apart := false, laid := [("math/bits.deBruijn64tab", laid_math_bits_deBruijn64tab)], narrowed := true }
def RxtextBackUptoSaid : Prop := rxtextBackUptoRow.holds Tryd.pinned (OpenSpec.upto rxtextBackSpec)

/-- 'facsimilelaw08.RxtextAgain', WHERE WHAT IT READS IS OF BULK AT MOST 1048576: true; the input reads as it did. -/
def rxtextAgainUptoRow : OpenClaim := { program := "ytfmdmeokbbpmlaadoor", sum := "5c4ee40fcddca98a6826896d7fd6e26fe2570fa3ee7f9c1051c502696f79a2f0", func := "facsimile/facsimilelaw08.RxtextAgain", spec := "rxtextAgain", inPlace := ["internal/bytealg.IndexByteString"], unfollowed := true, recurses := true, named := ["math/bits.deBruijn64tab"], apart := false, laid := [("math/bits.deBruijn64tab", laid_math_bits_deBruijn64tab)], narrowed := true }
def RxtextAgainUptoSaid : Prop := rxtextAgainUptoRow.holds Tryd.pinned (OpenSpec.upto rxtextAgainSpec)

/-- 'facsimilelaw19.GprintLines', WHERE WHAT IT READS IS OF BULK AT MOST 1048576: true; the input reads as it did. -/
def gprintLinesUptoRow : OpenClaim := { program := "ytfmdmeokbbpmlaadoor", sum := "5c4ee40fcddca98a6826896d7fd6e26fe2570fa3ee7f9c1051c502696f79a2f0", func := "facsimile/facsimilelaw19.GprintLines", spec := "gprintLines", inPlace := ["internal/abi.NoEscape", "internal/bytealg.MakeNoZero", "internal/bytealg.IndexByteString"], unfollowed := true, recurses := true, named := ["facsimile/gprint.gaps", "facsimile/gprint.classes", "math/bits.deBruijn64tab"], apart := false, laid := [("math/bits.deBruijn64tab", laid_math_bits_deBruijn64tab), ("facsimile/gprint.classes", laid_facsimile_gprint_classes), ("facsimile/gprint.gaps", laid_facsimile_gprint_gaps)], narrowed := true }
def GprintLinesUptoSaid : Prop := gprintLinesUptoRow.holds Tryd.pinned (OpenSpec.upto gprintLinesSpec)

/-- 'facsimilelaw19.GprintShows', WHERE WHAT IT READS IS OF BULK AT MOST 1048576: true; the input reads as it did. -/
def gprintShowsUptoRow : OpenClaim := { program := "ytfmdmeokbbpmlaadoor", sum := "5c4ee40fcddca98a6826896d7fd6e26fe2570fa3ee7f9c1051c502696f79a2f0", func := "facsimile/facsimilelaw19.GprintShows", spec := "gprintShows", inPlace := ["internal/abi.NoEscape", "internal/bytealg.MakeNoZero", "internal/bytealg.IndexByteString"], unfollowed := true, recurses := true, named := ["facsimile/gprint.gaps", "facsimile/gprint.classes", "math/bits.deBruijn64tab"], apart := false, laid := [("math/bits.deBruijn64tab", laid_math_bits_deBruijn64tab), ("facsimile/gprint.classes", laid_facsimile_gprint_classes), ("facsimile/gprint.gaps", laid_facsimile_gprint_gaps)], narrowed := true }
def GprintShowsUptoSaid : Prop := gprintShowsUptoRow.holds Tryd.pinned (OpenSpec.upto gprintShowsSpec)

/-- 'facsimilelaw19.GprintApart', WHERE WHAT IT READS IS OF BULK AT MOST 1048576: true; the input reads as it did. -/
def gprintApartUptoRow : OpenClaim := { program := "ytfmdmeokbbpmlaadoor", sum := "5c4ee40fcddca98a6826896d7fd6e26fe2570fa3ee7f9c1051c502696f79a2f0", func := "facsimile/facsimilelaw19.GprintApart", spec := "gprintApart", inPlace := ["internal/abi.NoEscape", "internal/bytealg.MakeNoZero", "internal/bytealg.IndexByteString"], unfollowed := true, recurses := true, named := ["facsimile/gprint.gaps", "facsimile/gprint.classes", "math/bits.deBruijn64tab"], apart := false, laid := [("math/bits.deBruijn64tab", laid_math_bits_deBruijn64tab), ("facsimile/gprint.classes", laid_facsimile_gprint_classes), ("facsimile/gprint.gaps", laid_facsimile_gprint_gaps)], narrowed := true }
def GprintApartUptoSaid : Prop := gprintApartUptoRow.holds Tryd.pinned (OpenSpec.upto gprintApartSpec)

end Rows
end Go.Proofs.YtfmdmeokbbpmlaaDoor
