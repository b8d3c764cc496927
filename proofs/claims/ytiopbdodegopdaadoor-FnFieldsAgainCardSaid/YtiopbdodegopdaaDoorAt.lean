/- 'at' and 'big' of the laws: a byte of the code. -/
import Derived.Test.YtiopbdodegopdaaDoorArg
import Derived.Test.YtiopbdodegopdaaDoorNum
import Derived.Outline
namespace Go.Proofs.YtiopbdodegopdaaDoor
open Go.RowKit

def atV (l : List Int) (i : Int) : Int := if l.length = 0 then 0 else l.getD ((i * 5 + 1) % (l.length : Int)).toNat 0
theorem At.cell {w : World} {v : Value} {k : IntKind} {l : List Int} (h : At w 1 v l.length (l.map (Value.int k))) : ∃ ao cap, v = .slice ao l.length cap ∧ (0 < l.length → ∃ g off, ao = some ⟨g, off, none⟩ ∧ g < w.heap.size ∧ ∀ j (hj : j < l.length), w.cell? ⟨g, off + j, none⟩ = some (.int k (l[j]'hj))) := by
  obtain ⟨_, ao, cap, rfl, hn, _, hc⟩ := h
  refine ⟨ao, cap, rfl, fun h0 => ?_⟩
  obtain ⟨g, off, rfl, hg, hc⟩ := hc (by omega)
  exact ⟨g, off, rfl, hg, fun j hj => by rw [hc j (by omega), List.getElem?_map, List.getElem?_eq_getElem hj]; rfl⟩
end Go.Proofs.YtiopbdodegopdaaDoor
