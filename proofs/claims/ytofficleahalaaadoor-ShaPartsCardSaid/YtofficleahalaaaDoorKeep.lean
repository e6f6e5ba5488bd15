/- A fact kept out of the walk's sight. -/
import Derived.Test.YtofficleahalaaaDoorRows
namespace Go.Proofs.YtofficleahalaaaDoor
structure Keep (p : Prop) : Prop where
  keep ::
  out : p
end Go.Proofs.YtofficleahalaaaDoor
