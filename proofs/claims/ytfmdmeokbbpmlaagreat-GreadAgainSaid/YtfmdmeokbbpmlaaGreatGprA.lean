/-
  gprint: an item's name.
-/
import Derived.Test.YtfmdmeokbbpmlaaGreatGprP
namespace Go.Proofs.YtfmdmeokbbpmlaaGreat
open Go.RowKit Go.Shelf

def itV (x : Item) : Array Value := #[.bool x.rule, .int .i64 x.n, .int .i64 x.gap, .int .i64 x.in_]
end Go.Proofs.YtfmdmeokbbpmlaaGreat
