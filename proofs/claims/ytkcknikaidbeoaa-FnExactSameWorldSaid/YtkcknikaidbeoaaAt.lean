/- 'at' and 'big' of the laws: a byte of the code. -/
import Derived.Test.YtkcknikaidbeoaaArg
import Derived.Test.YtkcknikaidbeoaaNum
import Derived.Outline
namespace Go.Proofs.Ytkcknikaidbeoaa
open Go.RowKit

def atV (l : List Int) (i : Int) : Int := if l.length = 0 then 0 else l.getD ((i * 5 + 1) % (l.length : Int)).toNat 0
theorem At.cell {w : World} {v : Value} {k : IntKind} {l : List Int} (h : At w 1 v l.length (l.map (Value.int k))) : ∃ ao cap, v = .slice ao l.length cap ∧ (0 < l.length → ∃ g off, ao = some ⟨g, off, none⟩ ∧ g < w.heap.size ∧ ∀ j (hj : j < l.length), w.cell? ⟨g, off + j, none⟩ = some (.int k (l[j]'hj))) := by
  obtain ⟨_, ao, cap, rfl, hn, _, hc⟩ := h
  refine ⟨ao, cap, rfl, fun h0 => ?_⟩
  obtain ⟨g, off, rfl, hg, hc⟩ := hc (by omega)
  exact ⟨g, off, rfl, hg, fun j hj => by rw [hc j (by omega), List.getElem?_map, List.getElem?_eq_getElem hj]; rfl⟩
theorem at_ret (v : Value) (l : List Int) (i : Int) (w : World) (h : At w 1 v l.length (l.map (Value.int .u8))) (h1 : 0 ≤ i) (h2 : i ≤ 1000) (hm : l.length ≤ 1048576) (hw : ∀ n ∈ l, (Lit.int .u8 n).wf = true) :
    Calls Try.prog 63 #[v, .int .i64 i] w fun e w' => e = .returned (.int .i64 (atV l i)) ∧ w = w' := by
  obtain ⟨ao, cap, rfl, hc⟩ := h.cell
  by_cases h0 : l.length = 0
  · have HV := Lib.hid (show atV l i = 0 from if_pos h0)
    rw [h0]
    go_enter Try.func63, Try.ntmps63
    go_wp2_with fail
    go_ret
    exact ⟨ret_int (by rw [HV.out]), rfl⟩
  · obtain ⟨g, off, rfl, hg, hcell⟩ := hc (by omega)
    clear hc
    have hb : ((l.length : Int) == 0) = false := beq_eq_false_iff_ne.2 (by omega)
    have m1 : 0 ≤ (i * 5 + 1) % (l.length : Int) := Int.emod_nonneg _ (by omega)
    have m2 : (i * 5 + 1) % (l.length : Int) < (l.length : Int) := Int.emod_lt_of_pos _ (by omega)
    have mn : ((i * 5 + 1) % (l.length : Int)).toNat < l.length := by omega
    have HV := Lib.hid (show atV l i = l[((i * 5 + 1) % (l.length : Int)).toNat]'mn by unfold atV; rw [if_neg h0]; simp [List.getD, List.getElem?_eq_getElem mn])
    have hb8 := Go.bounds_u8 (hw _ (List.getElem_mem mn))
    go_enter Try.func63, Try.ntmps63
    go_wp2_with fail
    go_ret
    refine ⟨ret_int ?_, rfl⟩
    rw [HV.out]
end Go.Proofs.Ytkcknikaidbeoaa
