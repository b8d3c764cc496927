/- The laws' own functions on bodies: toBodyS, eqBodyS, markBodyS, heldBodyS. -/
import Derived.Test.YtiopbdodegopdaaDoorBmm
import Derived.Deep.RegionWith
namespace Go.Proofs.YtiopbdodegopdaaDoor
open Go.RowKit

end Go.Proofs.YtiopbdodegopdaaDoor
