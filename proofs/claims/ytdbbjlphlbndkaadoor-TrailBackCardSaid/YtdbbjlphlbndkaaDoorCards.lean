/-
  DERIVED. GIVEN WITH THE SEED: THE CARDS: each row of YtdbbjlphlbndkaaDoorRows.lean that lists a variable, with what it lists TIED to the program's text (the seventh form; the later family's looks); each row that meets fmt, with fmt's text TOLD by the authors' own Lean function (tested against real Go, not proved from fmt's source: count such statements apart). THE CARD IS WHAT COUNTS. Prove the row's statement (the work); the ties are given (YtdbbjlphlbndkaaDoorTie.lean); close each card by the builder's one call (the guide's Derived/Test/ToyasCard.lean, 'card_holds'). Laid BY PROGRAM, IN A SANDBOX (cutbox-door.mjs). By AI agents, Wed Nov 11 2026. No macro, syntax, notation, axiom, sorry.
-/
import Derived.Test.YtdbbjlphlbndkaaDoorRows
import GoSem.ClaimSeven
namespace Go.Proofs.YtdbbjlphlbndkaaDoor
namespace Rows

/-- THE TIED CARD OF 'facsimilelaw32.TrailTexts'. -/
def trailTextsCard : Claim7 := { stood := { row := trailTextsRow, standIns := [], harness := (true, "1401c536a53b471f57f346678d86cbdd1f3ea6943b8853696148137b4c77343e"), looks := false }, kinds := [], alts := [], laidByText := true, laidKinds := [.data, .pinned], laidTests := true, laidLooks := .later }
def TrailTextsCardSaid : Prop := Claim7.holds Tryd.pinned (.plain (OpenSpec.ofChange trailTextsSpec)) trailTextsCard

/-- THE TIED CARD OF 'facsimilelaw32.TrailFinds'. -/
def trailFindsCard : Claim7 := { stood := { row := trailFindsRow, standIns := [], harness := (true, "1401c536a53b471f57f346678d86cbdd1f3ea6943b8853696148137b4c77343e"), looks := false }, kinds := [], alts := [], laidByText := true, laidKinds := [.data, .pinned], laidTests := true, laidLooks := .later }
def TrailFindsCardSaid : Prop := Claim7.holds Tryd.pinned (.plain (OpenSpec.ofChange trailFindsSpec)) trailFindsCard

/-- THE TIED CARD OF 'facsimilelaw32.TrailBack'. -/
def trailBackCard : Claim7 := { stood := { row := trailBackRow, standIns := [], harness := (true, "1401c536a53b471f57f346678d86cbdd1f3ea6943b8853696148137b4c77343e"), looks := false }, kinds := [], alts := [], laidByText := true, laidKinds := [.data, .pinned], laidTests := true, laidLooks := .later }
def TrailBackCardSaid : Prop := Claim7.holds Tryd.pinned (.plain (OpenSpec.ofChange trailBackSpec)) trailBackCard

/-- THE TIED CARD OF 'facsimilelaw32.TrailOrders'. -/
def trailOrdersCard : Claim7 := { stood := { row := trailOrdersRow, standIns := [], harness := (true, "1401c536a53b471f57f346678d86cbdd1f3ea6943b8853696148137b4c77343e"), looks := false }, kinds := [], alts := [], laidByText := true, laidKinds := [.data, .pinned], laidTests := true, laidLooks := .later }
def TrailOrdersCardSaid : Prop := Claim7.holds Tryd.pinned (.plain (OpenSpec.ofChange trailOrdersSpec)) trailOrdersCard

/-- THE SECOND FORM's CARD OF 'facsimilelaw32.TrailTexts'. -/
def trailTextsUptoCard : Claim7 := { stood := { row := trailTextsUptoRow, standIns := [], harness := (true, "1401c536a53b471f57f346678d86cbdd1f3ea6943b8853696148137b4c77343e"), looks := false }, kinds := [], alts := [], laidByText := true, laidKinds := [.data, .pinned], laidTests := true, laidLooks := .later }
def TrailTextsUptoCardSaid : Prop := Claim7.holds Tryd.pinned (.plain (OpenSpec.upto trailTextsSpec)) trailTextsUptoCard

/-- THE SECOND FORM's CARD OF 'facsimilelaw32.TrailFinds'. -/
def trailFindsUptoCard : Claim7 := { stood := { row := trailFindsUptoRow, standIns := [], harness := (true, "1401c536a53b471f57f346678d86cbdd1f3ea6943b8853696148137b4c77343e"), looks := false }, kinds := [], alts := [], laidByText := true, laidKinds := [.data, .pinned], laidTests := true, laidLooks := .later }
def TrailFindsUptoCardSaid : Prop := Claim7.holds Tryd.pinned (.plain (OpenSpec.upto trailFindsSpec)) trailFindsUptoCard

/-- THE SECOND FORM's CARD OF 'facsimilelaw32.TrailBack'. -/
def trailBackUptoCard : Claim7 := { stood := { row := trailBackUptoRow, standIns := [], harness := (true, "1401c536a53b471f57f346678d86cbdd1f3ea6943b8853696148137b4c77343e"), looks := false }, kinds := [], alts := [], laidByText := true, laidKinds := [.data, .pinned], laidTests := true, laidLooks := .later }
def TrailBackUptoCardSaid : Prop := Claim7.holds Tryd.pinned (.plain (OpenSpec.upto trailBackSpec)) trailBackUptoCard

/-- THE SECOND FORM's CARD OF 'facsimilelaw32.TrailOrders'. -/
def trailOrdersUptoCard : Claim7 := { stood := { row := trailOrdersUptoRow, standIns := [], harness := (true, "1401c536a53b471f57f346678d86cbdd1f3ea6943b8853696148137b4c77343e"), looks := false }, kinds := [], alts := [], laidByText := true, laidKinds := [.data, .pinned], laidTests := true, laidLooks := .later }
def TrailOrdersUptoCardSaid : Prop := Claim7.holds Tryd.pinned (.plain (OpenSpec.upto trailOrdersSpec)) trailOrdersUptoCard
end Rows
end Go.Proofs.YtdbbjlphlbndkaaDoor
