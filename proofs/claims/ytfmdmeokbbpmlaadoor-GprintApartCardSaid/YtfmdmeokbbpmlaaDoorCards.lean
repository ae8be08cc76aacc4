/-
  DERIVED. GIVEN WITH THE SEED: THE CARDS: each row of YtfmdmeokbbpmlaaDoorRows.lean that lists a variable, with what it lists TIED to the program's text (the seventh form; the later family's looks); each row that meets fmt, with fmt's text TOLD by the authors' own Lean function (tested against real Go, not proved from fmt's source: count such statements apart). THE CARD IS WHAT COUNTS. Prove the row's statement (the work); the ties are given (YtfmdmeokbbpmlaaDoorTie.lean); close each card by the builder's one call (the guide's Derived/Test/ToyasCard.lean, 'card_holds'). Laid BY PROGRAM, IN A SANDBOX (cutbox-door.mjs). By AI agents, Wed Nov 11 2026. No macro, syntax, notation, axiom, sorry.
-/
import Derived.Test.YtfmdmeokbbpmlaaDoorRows
import GoSem.ClaimSeven
namespace Go.Proofs.YtfmdmeokbbpmlaaDoor
namespace Rows

/-- THE TIED CARD OF 'facsimilelaw08.RxtextShows'. -/
def rxtextShowsCard : Claim7 := { stood := { row := rxtextShowsRow, standIns := [], harness := (true, "7664583bb713656757689a5bc97aae6eeb7aaf59a9091a0ebb2182dc4f2722b4"), looks := false }, kinds := [], alts := [], laidByText := true, laidKinds := [.data], laidTests := true, laidLooks := .later }
def RxtextShowsCardSaid : Prop := Claim7.holds Tryd.pinned (.plain (OpenSpec.ofChange rxtextShowsSpec)) rxtextShowsCard

/-- THE TIED CARD OF 'facsimilelaw08.RxtextBack'. -/
def rxtextBackCard : Claim7 := { stood := { row := rxtextBackRow, standIns := [], harness := (true, "7664583bb713656757689a5bc97aae6eeb7aaf59a9091a0ebb2182dc4f2722b4"), looks := false }, kinds := [], alts := [], laidByText := true, laidKinds := [.data], laidTests := true, laidLooks := .later }
def RxtextBackCardSaid : Prop := Claim7.holds Tryd.pinned (.plain (OpenSpec.ofChange rxtextBackSpec)) rxtextBackCard

/-- THE TIED CARD OF 'facsimilelaw08.RxtextAgain'. -/
def rxtextAgainCard : Claim7 := { stood := { row := rxtextAgainRow, standIns := [], harness := (true, "7664583bb713656757689a5bc97aae6eeb7aaf59a9091a0ebb2182dc4f2722b4"), looks := false }, kinds := [], alts := [], laidByText := true, laidKinds := [.data], laidTests := true, laidLooks := .later }
def RxtextAgainCardSaid : Prop := Claim7.holds Tryd.pinned (.plain (OpenSpec.ofChange rxtextAgainSpec)) rxtextAgainCard

/-- THE TIED CARD OF 'facsimilelaw19.GprintLines'. -/
def gprintLinesCard : Claim7 := { stood := { row := gprintLinesRow, standIns := [], harness := (true, "7664583bb713656757689a5bc97aae6eeb7aaf59a9091a0ebb2182dc4f2722b4"), looks := false }, kinds := [], alts := [], laidByText := true, laidKinds := [.data, .data, .data], laidTests := true, laidLooks := .later }
def GprintLinesCardSaid : Prop := Claim7.holds Tryd.pinned (.plain (OpenSpec.ofChange gprintLinesSpec)) gprintLinesCard

/-- THE TIED CARD OF 'facsimilelaw19.GprintShows'. -/
def gprintShowsCard : Claim7 := { stood := { row := gprintShowsRow, standIns := [], harness := (true, "7664583bb713656757689a5bc97aae6eeb7aaf59a9091a0ebb2182dc4f2722b4"), looks := false }, kinds := [], alts := [], laidByText := true, laidKinds := [.data, .data, .data], laidTests := true, laidLooks := .later }
def GprintShowsCardSaid : Prop := Claim7.holds Tryd.pinned (.plain (OpenSpec.ofChange gprintShowsSpec)) gprintShowsCard

/-- THE TIED CARD OF 'facsimilelaw19.GprintApart'. -/
def gprintApartCard : Claim7 := { stood := { row := gprintApartRow, standIns := [], harness := (true, "7664583bb713656757689a5bc97aae6eeb7aaf59a9091a0ebb2182dc4f2722b4"), looks := false }, kinds := [], alts := [], laidByText := true, laidKinds := [.data, .data, .data], laidTests := true, laidLooks := .later }
def GprintApartCardSaid : Prop := Claim7.holds Tryd.pinned (.plain (OpenSpec.ofChange gprintApartSpec)) gprintApartCard

/-- THE SECOND FORM's CARD OF 'facsimilelaw08.RxtextShows'. -/
def rxtextShowsUptoCard : Claim7 := { stood := { row := rxtextShowsUptoRow, standIns := [], harness := (true, "7664583bb713656757689a5bc97aae6eeb7aaf59a9091a0ebb2182dc4f2722b4"), looks := false }, kinds := [], alts := [], laidByText := true, laidKinds := [.data], laidTests := true, laidLooks := .later }
def RxtextShowsUptoCardSaid : Prop := Claim7.holds Tryd.pinned (.plain (OpenSpec.upto rxtextShowsSpec)) rxtextShowsUptoCard

/-- THE SECOND FORM's CARD OF 'facsimilelaw08.RxtextBack'. -/
def rxtextBackUptoCard : Claim7 := { stood := { row := rxtextBackUptoRow, standIns := [], harness := (true, "7664583bb713656757689a5bc97aae6eeb7aaf59a9091a0ebb2182dc4f2722b4"), looks := false }, kinds := [], alts := [], laidByText := true, laidKinds := [.data], laidTests := true, laidLooks := .later }
def RxtextBackUptoCardSaid : Prop := Claim7.holds Tryd.pinned (.plain (OpenSpec.upto rxtextBackSpec)) rxtextBackUptoCard

/-- THE SECOND FORM's CARD OF 'facsimilelaw08.RxtextAgain'. -/
def rxtextAgainUptoCard : Claim7 := { stood := { row := rxtextAgainUptoRow, standIns := [], harness := (true, "7664583bb713656757689a5bc97aae6eeb7aaf59a9091a0ebb2182dc4f2722b4"), looks := false }, kinds := [], alts := [], laidByText := true, laidKinds := [.data], laidTests := true, laidLooks := .later }
def RxtextAgainUptoCardSaid : Prop := Claim7.holds Tryd.pinned (.plain (OpenSpec.upto rxtextAgainSpec)) rxtextAgainUptoCard

/-- THE SECOND FORM's CARD OF 'facsimilelaw19.GprintLines'. -/
def gprintLinesUptoCard : Claim7 := { stood := { row := gprintLinesUptoRow, standIns := [], harness := (true, "7664583bb713656757689a5bc97aae6eeb7aaf59a9091a0ebb2182dc4f2722b4"), looks := false }, kinds := [], alts := [], laidByText := true, laidKinds := [.data, .data, .data], laidTests := true, laidLooks := .later }
def GprintLinesUptoCardSaid : Prop := Claim7.holds Tryd.pinned (.plain (OpenSpec.upto gprintLinesSpec)) gprintLinesUptoCard

/-- THE SECOND FORM's CARD OF 'facsimilelaw19.GprintShows'. -/
def gprintShowsUptoCard : Claim7 := { stood := { row := gprintShowsUptoRow, standIns := [], harness := (true, "7664583bb713656757689a5bc97aae6eeb7aaf59a9091a0ebb2182dc4f2722b4"), looks := false }, kinds := [], alts := [], laidByText := true, laidKinds := [.data, .data, .data], laidTests := true, laidLooks := .later }
def GprintShowsUptoCardSaid : Prop := Claim7.holds Tryd.pinned (.plain (OpenSpec.upto gprintShowsSpec)) gprintShowsUptoCard

/-- THE SECOND FORM's CARD OF 'facsimilelaw19.GprintApart'. -/
def gprintApartUptoCard : Claim7 := { stood := { row := gprintApartUptoRow, standIns := [], harness := (true, "7664583bb713656757689a5bc97aae6eeb7aaf59a9091a0ebb2182dc4f2722b4"), looks := false }, kinds := [], alts := [], laidByText := true, laidKinds := [.data, .data, .data], laidTests := true, laidLooks := .later }
def GprintApartUptoCardSaid : Prop := Claim7.holds Tryd.pinned (.plain (OpenSpec.upto gprintApartSpec)) gprintApartUptoCard
end Rows
end Go.Proofs.YtfmdmeokbbpmlaaDoor
