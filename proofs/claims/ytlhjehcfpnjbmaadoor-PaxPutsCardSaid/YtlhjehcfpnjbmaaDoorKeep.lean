/- A fact kept out of the walk's sight. -/
import Derived.Test.YtlhjehcfpnjbmaaDoorRows
namespace Go.Proofs.YtlhjehcfpnjbmaaDoor
structure Keep (p : Prop) : Prop where
  keep ::
  out : p
end Go.Proofs.YtlhjehcfpnjbmaaDoor
