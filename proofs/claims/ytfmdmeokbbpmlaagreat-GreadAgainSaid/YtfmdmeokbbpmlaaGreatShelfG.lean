/-
  Contracts of the library of this kit, at this program (by shelfcut.py).
-/
import Derived.Shelf.Strings.Builder1
import Derived.Shelf.Strings.Builder2
import Derived.Shelf.Strings.OnBuilder
import Derived.Shelf.Small.Strs
import Derived.Shelf.Strings.BuilderF
import Derived.Shelf.Strings.BuilderK
import Derived.Shelf.Strings.Builder2Cap
import Derived.Shelf.Strings.Search1
import Derived.Shelf.Slices.Turned
import Derived.Test.YtfmdmeokbbpmlaaGreatRows
namespace Go.Proofs.YtfmdmeokbbpmlaaGreat.Lib0
open Go.Shelf
end Go.Proofs.YtfmdmeokbbpmlaaGreat.Lib0
