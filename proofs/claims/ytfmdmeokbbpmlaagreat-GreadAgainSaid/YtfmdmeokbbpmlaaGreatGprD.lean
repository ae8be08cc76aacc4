/-
  gprint: a production as a line.
-/
import Derived.Test.YtfmdmeokbbpmlaaGreatGprC
import Derived.Deep.LoopGhost
namespace Go.Proofs.YtfmdmeokbbpmlaaGreat
open Go.RowKit Go.Shelf

end Go.Proofs.YtfmdmeokbbpmlaaGreat
