/-
  strings.Builder at this program: what is written, and read.
-/
import Derived.Test.YtfmdmeokbbpmlaaGreatB1
import Derived.Lib.FrozenHead2
import Derived.Shelf.Strings.BuilderK
namespace Go.Proofs.YtfmdmeokbbpmlaaGreat
open Go.RowKit Go.Shelf

theorem strCells_bytes (s : ByteArray) : Lib.strCells s = Lib.byteCells s.data.toList := rfl

end Go.Proofs.YtfmdmeokbbpmlaaGreat
