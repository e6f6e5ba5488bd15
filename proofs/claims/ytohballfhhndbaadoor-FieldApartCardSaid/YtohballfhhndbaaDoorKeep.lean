/- A fact kept out of the walk's sight. -/
import Derived.Test.YtohballfhhndbaaDoorRows
namespace Go.Proofs.YtohballfhhndbaaDoor
structure Keep (p : Prop) : Prop where
  keep ::
  out : p
end Go.Proofs.YtohballfhhndbaaDoor
