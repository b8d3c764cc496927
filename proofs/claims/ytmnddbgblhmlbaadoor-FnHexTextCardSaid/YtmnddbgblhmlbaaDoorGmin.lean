/- The few plain laws that the draws' texts need where the seat has no numbers' texts. -/
import Derived.Test.YtmnddbgblhmlbaaDoorAt
import Derived.Test.YtmnddbgblhmlbaaDoorLaws
import Derived.Deep.OwnRows
import Derived.Laws.OwnMore
namespace Go.Proofs.YtmnddbgblhmlbaaDoor
open Go.RowKit

section
variable {ops : Array Oper} {rest : List Oper} {o : Oper} {a : Act} {Q : Exit → Act → World → Prop}
/-- 'make([]byte, n)' -/
theorem make_u8 (w : World) (hgd : o.guard = none) (l c : Operand) (ho : o.op = Op.makeSlice 24 l c) (base n : Nat) (hl : a.eval l = .int .i64 (n : Int)) (hc : a.eval c = .int .i64 (n : Int)) (hn : n ≤ 1099511627776) (hbase : base ≤ w.heap.size)
    (hK : ∀ w', Own w' base 1 (.slice (some ⟨w.heap.size, 0, none⟩) n n) n (u8s (List.replicate n (0 : UInt8))) → w.grownBy w' none → wpList Tryd.prog ops Q rest (a.put o.dst (.slice (some ⟨w.heap.size, 0, none⟩) n n)) w') :
    wpList Tryd.prog ops Q (o :: rest) a w := by
  obtain ⟨i0, hi, hz0, hz1, hz2⟩ := info_parts info_u8
  exact wpList_make_row (P := Tryd.prog) w hgd l c 24 ho 5 i0 (.int .u8 0) Tryd.underlying24 hi hz0 hz1 rfl .i64 .i64 n hl hc (by rw [hz2]; omega) (by omega)
    (hK _ (Own.lit 5 ((toList_madeCells_one _ n).trans (by unfold u8s; rw [List.map_replicate]; rfl)) (by rw [u8s_len]; simp) hbase (by unfold maxLen; omega)) (World.grownBy_alloc w _ _))
end
theorem ints_at {l : List Int} {k : Nat} (h : k < l.length) : (l.map (Value.int .i64))[k]? = some (.int .i64 (l[k]'h)) := by rw [List.getElem?_map, List.getElem?_eq_getElem h]; rfl
theorem grownBy_self (w : World) (row : Option Nat) : w.grownBy w row := ⟨rfl, rfl, rfl, Nat.le_refl _, fun _ _ _ => rfl⟩
theorem At.below {w w' : World} {sz : Nat} {v : Value} {n : Nat} {cs : List Value} (h : At w sz v n cs) (hb : Below w.heap.size w w') : At w' sz v n cs := by
  obtain ⟨hl, ao, cap, rfl, hn, hm, hc⟩ := h
  refine ⟨hl, ao, cap, rfl, hn, hm, fun h0 => ?_⟩
  obtain ⟨g, off, rfl, hg, hc⟩ := hc h0
  exact ⟨g, off, rfl, Nat.lt_of_lt_of_le hg hb.size, fun j hj => (hb.cell hg).trans (hc j hj)⟩
theorem below_drewN {B : Nat} {a w : World} (h : Below B a w) (k : Nat) : Below B a (w.drewN k) := ⟨h.os, h.tape, h.output, h.size, h.block⟩
end Go.Proofs.YtmnddbgblhmlbaaDoor
