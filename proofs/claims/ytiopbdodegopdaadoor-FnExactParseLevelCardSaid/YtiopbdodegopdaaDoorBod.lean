/- A body as an argument: nine whole numbers; its copy, its comparison. -/
import Derived.Test.YtiopbdodegopdaaDoorNum
import Derived.Test.YtiopbdodegopdaaDoorFrame
import Derived.Handy
namespace Go.Proofs.YtiopbdodegopdaaDoor
open Go.RowKit

def bod (k0 k1 k2 k3 k4 k5 k6 k7 k8 : Int) : Value := .agg #[.int .i64 k0, .int .i64 k1, .int .i64 k2, .int .i64 k3, .int .i64 k4, .int .i64 k5, .int .i64 k6, .int .i64 k7, .int .i64 k8]
def Arg_body (_ : World) (v : Value) : Prop := ∃ k0 k1 k2 k3 k4 k5 k6 k7 k8 : Int, v = bod k0 k1 k2 k3 k4 k5 k6 k7 k8
theorem cell_int {P : Program} {w : World} {r : Reach} {base : Nat} {t : TypeId} {k : IntKind} {v : Value} (ht : P.underlying t = some (.int k)) (h : Cell.okWide P w r base t v) : ∃ n, v = .int k n := by
  simp only [ht, Cell.okWide] at h
  cases v <;> simp_all [Cell.ok]
end Go.Proofs.YtiopbdodegopdaaDoor
