/-
  No cell of these rows narrows 'for every input' (looked for: loops, veiled, ifaces, maps, wideKeys, modest, calm, conditions, laid).
  DERIVED. THE GIVEN ROWS OF THIS SEAT. 12 by the template 'for every input the law returns true; each argument reads behind the call as it read before'; 0 by the template 'total and deterministic' (their statements: YtaagkbgbghleiaaTotals.lean).
  GIVEN WITH THE SEED: the statements are not yours to turn. If you find one false, say at which input.
  Laid BY PROGRAM, IN A SANDBOX (cutbox-rows.mjs): the forced cells as the released guide's own fill.sh prints them over the translation 626bd9a2c2976ba9… (all of the seat's roots in one cut). By AI agents, Wed Nov 11 2026. No macro, syntax, notation, axiom, sorry.
-/
import Derived.Test.YtaagkbgbghleiaaChecked
import GoSem.Claim
import GoSem.ClaimJoined
import GoSem.ClaimMapViews
import Derived.JoinedTies
import Derived.KernelRfl
namespace Go.Proofs.Ytaagkbgbghleiaa
/- THE CELL 'sum', in the pinned program and in every row, IS THE sha256 OF THE DUMP (.gsa) THAT YtaagkbgbghleiaaProg.lean LOADS. Nothing in Lean hashes anything: it is a label: what it is worth is what the hold of that sum in a sandbox is worth. -/
noncomputable def Try.pinned : Pinned := { name := "ytaagkbgbghleiaa", sum := "626bd9a2c2976ba9628fb18702a07666dd45eef3cb90bd36b159005c3cf04ad0", checked := Try.checked }
namespace Rows
def none {H : Type} : Left H := { results := [], args := [] }

/-- 'facsimilelaw06.WordCuts': WHATEVER THE INPUT: true; the input reads as it did. -/
def wordCutsSpec : ChangeSpec := { name := "wordCuts", fn := fun _ => fun
  | [d] => { results := [.lit (.bool true)], args := [d] }
  | _ => none }
def wordCutsRow : OpenClaim := { program := "ytaagkbgbghleiaa", sum := "626bd9a2c2976ba9628fb18702a07666dd45eef3cb90bd36b159005c3cf04ad0", func := "facsimile/facsimilelaw06.WordCuts", spec := "wordCuts", inPlace := ["internal/bytealg.IndexByteString", "internal/bytealg.IndexString"], unfollowed := true, recurses := true, named := ["internal/bytealg.MaxLen"], apart := false }
def WordCutsSaid : Prop := wordCutsRow.holds Try.pinned (OpenSpec.ofChange wordCutsSpec)

/-- ITS FALSE NEIGHBOUR: 'it returns false'. Refute it at one input. -/
def wordCutsWrong : ChangeSpec := { name := "wordCuts", fn := fun _ => fun
  | [d] => { results := [.lit (.bool false)], args := [d] }
  | _ => none }
def WordCutsWrongFalsely : Prop := wordCutsRow.holds Try.pinned (OpenSpec.ofChange wordCutsWrong)

/-- 'facsimilelaw06.WordJoins': WHATEVER THE INPUT: true; the input reads as it did. -/
def wordJoinsSpec : ChangeSpec := { name := "wordJoins", fn := fun _ => fun
  | [d] => { results := [.lit (.bool true)], args := [d] }
  | _ => none }
def wordJoinsRow : OpenClaim := { program := "ytaagkbgbghleiaa", sum := "626bd9a2c2976ba9628fb18702a07666dd45eef3cb90bd36b159005c3cf04ad0", func := "facsimile/facsimilelaw06.WordJoins", spec := "wordJoins", inPlace := ["internal/bytealg.IndexByteString", "internal/bytealg.IndexString"], unfollowed := true, recurses := true, named := ["internal/bytealg.MaxLen"], apart := false }
def WordJoinsSaid : Prop := wordJoinsRow.holds Try.pinned (OpenSpec.ofChange wordJoinsSpec)

/-- ITS FALSE NEIGHBOUR: 'it returns false'. Refute it at one input. -/
def wordJoinsWrong : ChangeSpec := { name := "wordJoins", fn := fun _ => fun
  | [d] => { results := [.lit (.bool false)], args := [d] }
  | _ => none }
def WordJoinsWrongFalsely : Prop := wordJoinsRow.holds Try.pinned (OpenSpec.ofChange wordJoinsWrong)

/-- 'facsimilelaw06.WordNames': WHATEVER THE INPUT: true; the input reads as it did. -/
def wordNamesSpec : ChangeSpec := { name := "wordNames", fn := fun _ => fun
  | [d1, d2] => { results := [.lit (.bool true)], args := [d1, d2] }
  | _ => none }
def wordNamesRow : OpenClaim := { program := "ytaagkbgbghleiaa", sum := "626bd9a2c2976ba9628fb18702a07666dd45eef3cb90bd36b159005c3cf04ad0", func := "facsimile/facsimilelaw06.WordNames", spec := "wordNames", inPlace := ["internal/bytealg.IndexByteString", "internal/bytealg.IndexString"], unfollowed := true, recurses := true, named := ["internal/bytealg.MaxLen"], apart := false }
def WordNamesSaid : Prop := wordNamesRow.holds Try.pinned (OpenSpec.ofChange wordNamesSpec)

/-- ITS FALSE NEIGHBOUR: 'it returns false'. Refute it at one input. -/
def wordNamesWrong : ChangeSpec := { name := "wordNames", fn := fun _ => fun
  | [d1, d2] => { results := [.lit (.bool false)], args := [d1, d2] }
  | _ => none }
def WordNamesWrongFalsely : Prop := wordNamesRow.holds Try.pinned (OpenSpec.ofChange wordNamesWrong)

/-- 'facsimilelaw18.GramChecks': WHATEVER THE INPUT: true; the input reads as it did. -/
def gramChecksSpec : ChangeSpec := { name := "gramChecks", fn := fun _ => fun
  | [d] => { results := [.lit (.bool true)], args := [d] }
  | _ => none }
def gramChecksRow : OpenClaim := { program := "ytaagkbgbghleiaa", sum := "626bd9a2c2976ba9628fb18702a07666dd45eef3cb90bd36b159005c3cf04ad0", func := "facsimile/facsimilelaw18.GramChecks", spec := "gramChecks", unfollowed := true, recurses := true, apart := false }
def GramChecksSaid : Prop := gramChecksRow.holds Try.pinned (OpenSpec.ofChange gramChecksSpec)

/-- ITS FALSE NEIGHBOUR: 'it returns false'. Refute it at one input. -/
def gramChecksWrong : ChangeSpec := { name := "gramChecks", fn := fun _ => fun
  | [d] => { results := [.lit (.bool false)], args := [d] }
  | _ => none }
def GramChecksWrongFalsely : Prop := gramChecksRow.holds Try.pinned (OpenSpec.ofChange gramChecksWrong)

/-- 'facsimilelaw18.GramFinds': WHATEVER THE INPUT: true; the input reads as it did. -/
def gramFindsSpec : ChangeSpec := { name := "gramFinds", fn := fun _ => fun
  | [d] => { results := [.lit (.bool true)], args := [d] }
  | _ => none }
def gramFindsRow : OpenClaim := { program := "ytaagkbgbghleiaa", sum := "626bd9a2c2976ba9628fb18702a07666dd45eef3cb90bd36b159005c3cf04ad0", func := "facsimile/facsimilelaw18.GramFinds", spec := "gramFinds", unfollowed := true, recurses := true, apart := false }
def GramFindsSaid : Prop := gramFindsRow.holds Try.pinned (OpenSpec.ofChange gramFindsSpec)

/-- ITS FALSE NEIGHBOUR: 'it returns false'. Refute it at one input. -/
def gramFindsWrong : ChangeSpec := { name := "gramFinds", fn := fun _ => fun
  | [d] => { results := [.lit (.bool false)], args := [d] }
  | _ => none }
def GramFindsWrongFalsely : Prop := gramFindsRow.holds Try.pinned (OpenSpec.ofChange gramFindsWrong)

/-- 'facsimilelaw18.GramAsks': WHATEVER THE INPUT: true; the input reads as it did. -/
def gramAsksSpec : ChangeSpec := { name := "gramAsks", fn := fun _ => fun
  | [d1, d2, d3, d4] => { results := [.lit (.bool true)], args := [d1, d2, d3, d4] }
  | _ => none }
def gramAsksRow : OpenClaim := { program := "ytaagkbgbghleiaa", sum := "626bd9a2c2976ba9628fb18702a07666dd45eef3cb90bd36b159005c3cf04ad0", func := "facsimile/facsimilelaw18.GramAsks", spec := "gramAsks", unfollowed := true, recurses := true, apart := false }
def GramAsksSaid : Prop := gramAsksRow.holds Try.pinned (OpenSpec.ofChange gramAsksSpec)

/-- ITS FALSE NEIGHBOUR: 'it returns false'. Refute it at one input. -/
def gramAsksWrong : ChangeSpec := { name := "gramAsks", fn := fun _ => fun
  | [d1, d2, d3, d4] => { results := [.lit (.bool false)], args := [d1, d2, d3, d4] }
  | _ => none }
def GramAsksWrongFalsely : Prop := gramAsksRow.holds Try.pinned (OpenSpec.ofChange gramAsksWrong)

/-- 'facsimilelaw18.GramLess': WHATEVER THE INPUT: true; the input reads as it did. -/
def gramLessSpec : ChangeSpec := { name := "gramLess", fn := fun _ => fun
  | [d1, d2] => { results := [.lit (.bool true)], args := [d1, d2] }
  | _ => none }
def gramLessRow : OpenClaim := { program := "ytaagkbgbghleiaa", sum := "626bd9a2c2976ba9628fb18702a07666dd45eef3cb90bd36b159005c3cf04ad0", func := "facsimile/facsimilelaw18.GramLess", spec := "gramLess", unfollowed := true, recurses := true, apart := false }
def GramLessSaid : Prop := gramLessRow.holds Try.pinned (OpenSpec.ofChange gramLessSpec)

/-- ITS FALSE NEIGHBOUR: 'it returns false'. Refute it at one input. -/
def gramLessWrong : ChangeSpec := { name := "gramLess", fn := fun _ => fun
  | [d1, d2] => { results := [.lit (.bool false)], args := [d1, d2] }
  | _ => none }
def GramLessWrongFalsely : Prop := gramLessRow.holds Try.pinned (OpenSpec.ofChange gramLessWrong)

/-- 'facsimilelaw21.NullMore': WHATEVER THE INPUT: true; the input reads as it did. -/
def nullMoreSpec : ChangeSpec := { name := "nullMore", fn := fun _ => fun
  | [d1, d2] => { results := [.lit (.bool true)], args := [d1, d2] }
  | _ => none }
def nullMoreRow : OpenClaim := { program := "ytaagkbgbghleiaa", sum := "626bd9a2c2976ba9628fb18702a07666dd45eef3cb90bd36b159005c3cf04ad0", func := "facsimile/facsimilelaw21.NullMore", spec := "nullMore", unfollowed := true, recurses := true, apart := false }
def NullMoreSaid : Prop := nullMoreRow.holds Try.pinned (OpenSpec.ofChange nullMoreSpec)

/-- ITS FALSE NEIGHBOUR: 'it returns false'. Refute it at one input. -/
def nullMoreWrong : ChangeSpec := { name := "nullMore", fn := fun _ => fun
  | [d1, d2] => { results := [.lit (.bool false)], args := [d1, d2] }
  | _ => none }
def NullMoreWrongFalsely : Prop := nullMoreRow.holds Try.pinned (OpenSpec.ofChange nullMoreWrong)

/-- 'facsimilelaw21.NullTells': WHATEVER THE INPUT: true; the input reads as it did. -/
def nullTellsSpec : ChangeSpec := { name := "nullTells", fn := fun _ => fun
  | [d1, d2] => { results := [.lit (.bool true)], args := [d1, d2] }
  | _ => none }
def nullTellsRow : OpenClaim := { program := "ytaagkbgbghleiaa", sum := "626bd9a2c2976ba9628fb18702a07666dd45eef3cb90bd36b159005c3cf04ad0", func := "facsimile/facsimilelaw21.NullTells", spec := "nullTells", unfollowed := true, recurses := true, apart := false }
def NullTellsSaid : Prop := nullTellsRow.holds Try.pinned (OpenSpec.ofChange nullTellsSpec)

/-- ITS FALSE NEIGHBOUR: 'it returns false'. Refute it at one input. -/
def nullTellsWrong : ChangeSpec := { name := "nullTells", fn := fun _ => fun
  | [d1, d2] => { results := [.lit (.bool false)], args := [d1, d2] }
  | _ => none }
def NullTellsWrongFalsely : Prop := nullTellsRow.holds Try.pinned (OpenSpec.ofChange nullTellsWrong)

/-- 'facsimilelaw21.NullEach': WHATEVER THE INPUT: true; the input reads as it did. -/
def nullEachSpec : ChangeSpec := { name := "nullEach", fn := fun _ => fun
  | [d] => { results := [.lit (.bool true)], args := [d] }
  | _ => none }
def nullEachRow : OpenClaim := { program := "ytaagkbgbghleiaa", sum := "626bd9a2c2976ba9628fb18702a07666dd45eef3cb90bd36b159005c3cf04ad0", func := "facsimile/facsimilelaw21.NullEach", spec := "nullEach", unfollowed := true, recurses := true, apart := false }
def NullEachSaid : Prop := nullEachRow.holds Try.pinned (OpenSpec.ofChange nullEachSpec)

/-- ITS FALSE NEIGHBOUR: 'it returns false'. Refute it at one input. -/
def nullEachWrong : ChangeSpec := { name := "nullEach", fn := fun _ => fun
  | [d] => { results := [.lit (.bool false)], args := [d] }
  | _ => none }
def NullEachWrongFalsely : Prop := nullEachRow.holds Try.pinned (OpenSpec.ofChange nullEachWrong)

/-- 'facsimilelaw22.FirstTells': WHATEVER THE INPUT: true; the input reads as it did. -/
def firstTellsSpec : ChangeSpec := { name := "firstTells", fn := fun _ => fun
  | [d1, d2, d3, d4] => { results := [.lit (.bool true)], args := [d1, d2, d3, d4] }
  | _ => none }
def firstTellsRow : OpenClaim := { program := "ytaagkbgbghleiaa", sum := "626bd9a2c2976ba9628fb18702a07666dd45eef3cb90bd36b159005c3cf04ad0", func := "facsimile/facsimilelaw22.FirstTells", spec := "firstTells", unfollowed := true, recurses := true, apart := false }
def FirstTellsSaid : Prop := firstTellsRow.holds Try.pinned (OpenSpec.ofChange firstTellsSpec)

/-- ITS FALSE NEIGHBOUR: 'it returns false'. Refute it at one input. -/
def firstTellsWrong : ChangeSpec := { name := "firstTells", fn := fun _ => fun
  | [d1, d2, d3, d4] => { results := [.lit (.bool false)], args := [d1, d2, d3, d4] }
  | _ => none }
def FirstTellsWrongFalsely : Prop := firstTellsRow.holds Try.pinned (OpenSpec.ofChange firstTellsWrong)

/-- 'facsimilelaw22.FirstEach': WHATEVER THE INPUT: true; the input reads as it did. -/
def firstEachSpec : ChangeSpec := { name := "firstEach", fn := fun _ => fun
  | [d] => { results := [.lit (.bool true)], args := [d] }
  | _ => none }
def firstEachRow : OpenClaim := { program := "ytaagkbgbghleiaa", sum := "626bd9a2c2976ba9628fb18702a07666dd45eef3cb90bd36b159005c3cf04ad0", func := "facsimile/facsimilelaw22.FirstEach", spec := "firstEach", unfollowed := true, recurses := true, apart := false }
def FirstEachSaid : Prop := firstEachRow.holds Try.pinned (OpenSpec.ofChange firstEachSpec)

/-- ITS FALSE NEIGHBOUR: 'it returns false'. Refute it at one input. -/
def firstEachWrong : ChangeSpec := { name := "firstEach", fn := fun _ => fun
  | [d] => { results := [.lit (.bool false)], args := [d] }
  | _ => none }
def FirstEachWrongFalsely : Prop := firstEachRow.holds Try.pinned (OpenSpec.ofChange firstEachWrong)

/- THE SECOND FORM. 'bulk': how many values and letters a reading holds, each counted each time it is reached (what is shared counts as often as it is met; a slice's spare places count too). A statement '..UptoSaid' is the law's where the arguments, and the package variables that the reading takes, are together of bulk at most 1048576: NARROWER than '..Said'. Prove '..Said' where nothing that the law and all that it calls make is longer than what came in: it says more and counts as full. Else prove '..UptoSaid'. A law counts once. -/
mutual
def uptoBulk {H : Type} : DataW H → Nat
  | .lit (.string bytes) => bytes.length + 1
  | .lit _ => 1
  | .nil => 1
  | .ptr d => uptoBulk d + 1
  | .slice elems spare => uptoBulkAll elems + uptoBulkAll spare + 1
  | .agg parts => uptoBulkAll parts + 1
  | .iface _ d => uptoBulk d + 1
  | .map entries => uptoBulkEntries entries + 1
  | .held _ => 1
def uptoBulkAll {H : Type} : List (DataW H) → Nat
  | [] => 0
  | d :: r => uptoBulk d + uptoBulkAll r
def uptoBulkEntries {H : Type} : List (Lit × DataW H) → Nat
  | [] => 0
  | x :: r => uptoBulkEntry x + uptoBulkEntries r
def uptoBulkEntry {H : Type} : Lit × DataW H → Nat
  | (.string bytes, d) => bytes.length + uptoBulk d + 1
  | (_, d) => uptoBulk d + 1
 end
def uptoSmall : (H : Type) → List (DataW H) → Bool := fun _ ds => decide (uptoBulkAll ds ≤ 1048576)
def OpenSpec.upto (s : _root_.Go.ChangeSpec) : _root_.Go.OpenSpec := { _root_.Go.OpenSpec.ofChange s with cond := some uptoSmall }

/-- 'facsimilelaw06.WordCuts', WHERE WHAT IT READS IS OF BULK AT MOST 1048576: true; the input reads as it did. -/
def wordCutsUptoRow : OpenClaim := { program := "ytaagkbgbghleiaa", sum := "626bd9a2c2976ba9628fb18702a07666dd45eef3cb90bd36b159005c3cf04ad0", func := "facsimile/facsimilelaw06.WordCuts", spec := "wordCuts", inPlace := ["internal/bytealg.IndexByteString", "internal/bytealg.IndexString"], unfollowed := true, recurses := true, named := ["internal/bytealg.MaxLen"], apart := false, narrowed := true }
def WordCutsUptoSaid : Prop := wordCutsUptoRow.holds Try.pinned (OpenSpec.upto wordCutsSpec)

/-- 'facsimilelaw06.WordJoins', WHERE WHAT IT READS IS OF BULK AT MOST 1048576: true; the input reads as it did. -/
def wordJoinsUptoRow : OpenClaim := { program := "ytaagkbgbghleiaa", sum := "626bd9a2c2976ba9628fb18702a07666dd45eef3cb90bd36b159005c3cf04ad0", func := "facsimile/facsimilelaw06.WordJoins", spec := "wordJoins", inPlace := ["internal/bytealg.IndexByteString", "internal/bytealg.IndexString"], unfollowed := true, recurses := true, named := ["internal/bytealg.MaxLen"], apart := false, narrowed := true }
def WordJoinsUptoSaid : Prop := wordJoinsUptoRow.holds Try.pinned (OpenSpec.upto wordJoinsSpec)

/-- 'facsimilelaw06.WordNames', WHERE WHAT IT READS IS OF BULK AT MOST 1048576: true; the input reads as it did. -/
def wordNamesUptoRow : OpenClaim := { program := "ytaagkbgbghleiaa", sum := "626bd9a2c2976ba9628fb18702a07666dd45eef3cb90bd36b159005c3cf04ad0", func := "facsimile/facsimilelaw06.WordNames", spec := "wordNames", inPlace := ["internal/bytealg.IndexByteString", "internal/bytealg.IndexString"], unfollowed := true, recurses := true, named := ["internal/bytealg.MaxLen"], apart := false, narrowed := true }
def WordNamesUptoSaid : Prop := wordNamesUptoRow.holds Try.pinned (OpenSpec.upto wordNamesSpec)

/-- 'facsimilelaw18.GramChecks', WHERE WHAT IT READS IS OF BULK AT MOST 1048576: true; the input reads as it did. -/
def gramChecksUptoRow : OpenClaim := { program := "ytaagkbgbghleiaa", sum := "626bd9a2c2976ba9628fb18702a07666dd45eef3cb90bd36b159005c3cf04ad0", func := "facsimile/facsimilelaw18.GramChecks", spec := "gramChecks", unfollowed := true, recurses := true, apart := false, narrowed := true }
def GramChecksUptoSaid : Prop := gramChecksUptoRow.holds Try.pinned (OpenSpec.upto gramChecksSpec)

/-- 'facsimilelaw18.GramFinds', WHERE WHAT IT READS IS OF BULK AT MOST 1048576: true; the input reads as it did. -/
def gramFindsUptoRow : OpenClaim := { program := "ytaagkbgbghleiaa", sum := "626bd9a2c2976ba9628fb18702a07666dd45eef3cb90bd36b159005c3cf04ad0", func := "facsimile/facsimilelaw18.GramFinds", spec := "gramFinds", unfollowed := true, recurses := true, apart := false, narrowed := true }
def GramFindsUptoSaid : Prop := gramFindsUptoRow.holds Try.pinned (OpenSpec.upto gramFindsSpec)

/-- 'facsimilelaw18.GramAsks', WHERE WHAT IT READS IS OF BULK AT MOST 1048576: true; the input reads as it did. -/
def gramAsksUptoRow : OpenClaim := { program := "ytaagkbgbghleiaa", sum := "626bd9a2c2976ba9628fb18702a07666dd45eef3cb90bd36b159005c3cf04ad0", func := "facsimile/facsimilelaw18.GramAsks", spec := "gramAsks", unfollowed := true, recurses := true, apart := false, narrowed := true }
def GramAsksUptoSaid : Prop := gramAsksUptoRow.holds Try.pinned (OpenSpec.upto gramAsksSpec)

/-- 'facsimilelaw18.GramLess', WHERE WHAT IT READS IS OF BULK AT MOST 1048576: true; the input reads as it did. -/
def gramLessUptoRow : OpenClaim := { program := "ytaagkbgbghleiaa", sum := "626bd9a2c2976ba9628fb18702a07666dd45eef3cb90bd36b159005c3cf04ad0", func := "facsimile/facsimilelaw18.GramLess", spec := "gramLess", unfollowed := true, recurses := true, apart := false, narrowed := true }
def GramLessUptoSaid : Prop := gramLessUptoRow.holds Try.pinned (OpenSpec.upto gramLessSpec)

/-- 'facsimilelaw21.NullMore', WHERE WHAT IT READS IS OF BULK AT MOST 1048576: true; the input reads as it did. -/
def nullMoreUptoRow : OpenClaim := { program := "ytaagkbgbghleiaa", sum := "626bd9a2c2976ba9628fb18702a07666dd45eef3cb90bd36b159005c3cf04ad0", func := "facsimile/facsimilelaw21.NullMore", spec := "nullMore", unfollowed := true, recurses := true, apart := false, narrowed := true }
def NullMoreUptoSaid : Prop := nullMoreUptoRow.holds Try.pinned (OpenSpec.upto nullMoreSpec)

/-- 'facsimilelaw21.NullTells', WHERE WHAT IT READS IS OF BULK AT MOST 1048576: true; the input reads as it did. -/
def nullTellsUptoRow : OpenClaim := { program := "ytaagkbgbghleiaa", sum := "626bd9a2c2976ba9628fb18702a07666dd45eef3cb90bd36b159005c3cf04ad0", func := "facsimile/facsimilelaw21.NullTells", spec := "nullTells", unfollowed := true, recurses := true, apart := false, narrowed := true }
def NullTellsUptoSaid : Prop := nullTellsUptoRow.holds Try.pinned (OpenSpec.upto nullTellsSpec)

/-- 'facsimilelaw21.NullEach', WHERE WHAT IT READS IS OF BULK AT MOST 1048576: true; the input reads as it did. -/
def nullEachUptoRow : OpenClaim := { program := "ytaagkbgbghleiaa", sum := "626bd9a2c2976ba9628fb18702a07666dd45eef3cb90bd36b159005c3cf04ad0", func := "facsimile/facsimilelaw21.NullEach", spec := "nullEach", unfollowed := true, recurses := true, apart := false, narrowed := true }
def NullEachUptoSaid : Prop := nullEachUptoRow.holds Try.pinned (OpenSpec.upto nullEachSpec)

/-- 'facsimilelaw22.FirstTells', WHERE WHAT IT READS IS OF BULK AT MOST 1048576: true; the input reads as it did. -/
def firstTellsUptoRow : OpenClaim := { program := "ytaagkbgbghleiaa", sum := "626bd9a2c2976ba9628fb18702a07666dd45eef3cb90bd36b159005c3cf04ad0", func := "facsimile/facsimilelaw22.FirstTells", spec := "firstTells", unfollowed := true, recurses := true, apart := false, narrowed := true }
def FirstTellsUptoSaid : Prop := firstTellsUptoRow.holds Try.pinned (OpenSpec.upto firstTellsSpec)

/-- 'facsimilelaw22.FirstEach', WHERE WHAT IT READS IS OF BULK AT MOST 1048576: true; the input reads as it did. -/
def firstEachUptoRow : OpenClaim := { program := "ytaagkbgbghleiaa", sum := "626bd9a2c2976ba9628fb18702a07666dd45eef3cb90bd36b159005c3cf04ad0", func := "facsimile/facsimilelaw22.FirstEach", spec := "firstEach", unfollowed := true, recurses := true, apart := false, narrowed := true }
def FirstEachUptoSaid : Prop := firstEachUptoRow.holds Try.pinned (OpenSpec.upto firstEachSpec)

end Rows
end Go.Proofs.Ytaagkbgbghleiaa
