/- A fact kept out of the walk's sight. -/
import Derived.Test.YtkijhaibcnhedaaDoorRows
namespace Go.Proofs.YtkijhaibcnhedaaDoor
structure Keep (p : Prop) : Prop where
  keep ::
  out : p
end Go.Proofs.YtkijhaibcnhedaaDoor
