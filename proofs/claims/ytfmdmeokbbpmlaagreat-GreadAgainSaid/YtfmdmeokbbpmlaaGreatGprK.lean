/-
  gprint.Show: the walk.
-/
import Derived.Test.YtfmdmeokbbpmlaaGreatGprJ
import Derived.Deep.LoopGhost
namespace Go.Proofs.YtfmdmeokbbpmlaaGreat
open Go.RowKit Go.Shelf

end Go.Proofs.YtfmdmeokbbpmlaaGreat
