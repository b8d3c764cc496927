/- Slices of whole numbers: made, copied (toIntS), compared (eqIntS), marked (markIntS) and read again (heldIntS). -/
import Derived.Test.YtiopbdodegopdaaDoorAt
import Derived.Test.YtiopbdodegopdaaDoorLaws
import Derived.Test.YtiopbdodegopdaaDoorIntLaw
import Derived.Deep.OwnRows
import Derived.Laws.OwnMore
namespace Go.Proofs.YtiopbdodegopdaaDoor
open Go.RowKit

section
variable {ops : Array Oper} {rest : List Oper} {o : Oper} {a : Act} {Q : Exit → Act → World → Prop}
theorem info_int : (Tryd.prog.info? 3).map (fun i => (i.zero, i.size, i.bytes)) = some (some (.int .i64 0), 1, 8) := by kernel_rfl
/-- 'make([]int, n)' -/
theorem make_int (w : World) (hgd : o.guard = none) (l c : Operand) (ho : o.op = Op.makeSlice 37 l c) (base n : Nat) (hl : a.eval l = .int .i64 (n : Int)) (hc : a.eval c = .int .i64 (n : Int)) (hn : n ≤ 1099511627776) (hbase : base ≤ w.heap.size)
    (hK : ∀ w', Own w' base 1 (.slice (some ⟨w.heap.size, 0, none⟩) n n) n ((List.replicate n (0 : Int)).map (Value.int .i64)) → w.grownBy w' none → wpList Tryd.prog ops Q rest (a.put o.dst (.slice (some ⟨w.heap.size, 0, none⟩) n n)) w') :
    wpList Tryd.prog ops Q (o :: rest) a w := by
  obtain ⟨i0, hi, hz0, hz1, hz2⟩ := info_parts info_int
  exact wpList_make_row (P := Tryd.prog) w hgd l c 37 ho 3 i0 (.int .i64 0) Tryd.underlying37 hi hz0 hz1 rfl .i64 .i64 n hl hc (by rw [hz2]; omega) (by omega)
    (hK _ (Own.lit 3 ((toList_madeCells_one _ n).trans (by rw [List.map_replicate])) (by simp) hbase (by unfold maxLen; omega)) (World.grownBy_alloc w _ _))
/-- 'make([]byte, n)' -/
theorem make_u8 (w : World) (hgd : o.guard = none) (l c : Operand) (ho : o.op = Op.makeSlice 22 l c) (base n : Nat) (hl : a.eval l = .int .i64 (n : Int)) (hc : a.eval c = .int .i64 (n : Int)) (hn : n ≤ 1099511627776) (hbase : base ≤ w.heap.size)
    (hK : ∀ w', Own w' base 1 (.slice (some ⟨w.heap.size, 0, none⟩) n n) n (u8s (List.replicate n (0 : UInt8))) → w.grownBy w' none → wpList Tryd.prog ops Q rest (a.put o.dst (.slice (some ⟨w.heap.size, 0, none⟩) n n)) w') :
    wpList Tryd.prog ops Q (o :: rest) a w := by
  obtain ⟨i0, hi, hz0, hz1, hz2⟩ := info_parts info_u8
  exact wpList_make_row (P := Tryd.prog) w hgd l c 22 ho 5 i0 (.int .u8 0) Tryd.underlying22 hi hz0 hz1 rfl .i64 .i64 n hl hc (by rw [hz2]; omega) (by omega)
    (hK _ (Own.lit 5 ((toList_madeCells_one _ n).trans (by unfold u8s; rw [List.map_replicate]; rfl)) (by rw [u8s_len]; simp) hbase (by unfold maxLen; omega)) (World.grownBy_alloc w _ _))
end

theorem ints_at {l : List Int} {k : Nat} (h : k < l.length) : (l.map (Value.int .i64))[k]? = some (.int .i64 (l[k]'h)) := by rw [List.getElem?_map, List.getElem?_eq_getElem h]; rfl
/-- what has been copied after k steps -/
def setTo (l : List Int) (k : Nat) : List Int := l.take k ++ List.replicate (l.length - k) 0
theorem setTo_len {l : List Int} {k : Nat} (h : k ≤ l.length) : (setTo l k).length = l.length := by unfold setTo; rw [List.length_append, List.length_take, List.length_replicate]; omega
theorem setTo_0 (l : List Int) : setTo l 0 = List.replicate l.length 0 := by simp [setTo]
theorem setTo_end (l : List Int) : setTo l l.length = l := by simp [setTo]
theorem setTo_at {l : List Int} {k : Nat} (h : k < l.length) : (setTo l k)[k]? = some 0 := by
  unfold setTo
  rw [List.getElem?_append_right (by rw [List.length_take]; omega), List.getElem?_replicate, List.length_take, if_pos (by omega)]
theorem setTo_succ {l : List Int} {k : Nat} (h : k < l.length) : setTo l (k + 1) = (setTo l k).set k (l[k]'h) := by
  apply List.ext_getElem?
  intro j
  by_cases e : j = k
  · subst e
    rw [List.getElem?_set_self (by rw [setTo_len (by omega)]; exact h)]
    unfold setTo
    rw [List.getElem?_append_left (by rw [List.length_take]; omega), List.getElem?_take, if_pos (by omega), List.getElem?_eq_getElem h]
  · rw [List.getElem?_set_ne (Ne.symm e)]
    unfold setTo
    by_cases hj : j < k
    · rw [List.getElem?_append_left (by rw [List.length_take]; omega), List.getElem?_append_left (by rw [List.length_take]; omega), List.getElem?_take, List.getElem?_take, if_pos (by omega), if_pos (by omega)]
    · rw [List.getElem?_append_right (by rw [List.length_take]; omega), List.getElem?_append_right (by rw [List.length_take]; omega), List.getElem?_replicate, List.getElem?_replicate, List.length_take, List.length_take]
      by_cases h2 : j < l.length
      · rw [if_pos (by omega), if_pos (by omega)]
      · rw [if_neg (by omega), if_neg (by omega)]
theorem grownBy_self (w : World) (row : Option Nat) : w.grownBy w row := ⟨rfl, rfl, rfl, Nat.le_refl _, fun _ _ _ => rfl⟩
/-- the marks: k0, k0 + 1, .. -/
def marks (k0 : Int) (n : Nat) : List Int := (List.range n).map fun (j : Nat) => k0 + (j : Int)
theorem marks_len (k0 : Int) (n : Nat) : (marks k0 n).length = n := by simp [marks]
theorem marks_at (k0 : Int) {n j : Nat} (h : j < (marks k0 n).length) : (marks k0 n)[j]'h = k0 + j := by simp [marks]
def markTo (k0 : Int) (l : List Int) (k : Nat) : List Int := marks k0 k ++ l.drop k
theorem markTo_len {k0 : Int} {l : List Int} {k : Nat} (h : k ≤ l.length) : (markTo k0 l k).length = l.length := by unfold markTo; rw [List.length_append, List.length_drop, marks_len]; omega
theorem markTo_at {k0 : Int} {l : List Int} {k : Nat} (h : k < l.length) : (markTo k0 l k)[k]? = some (l[k]'h) := by
  unfold markTo
  rw [List.getElem?_append_right (by rw [marks_len]; omega), marks_len, List.getElem?_drop, show k + (k - k) = k by omega, List.getElem?_eq_getElem h]
theorem markTo_succ {k0 : Int} {l : List Int} {k : Nat} (h : k < l.length) : markTo k0 l (k + 1) = (markTo k0 l k).set k (k0 + k) := by
  unfold markTo
  rw [List.set_append_right _ _ (by rw [marks_len]; omega), marks_len, Nat.sub_self, List.drop_eq_getElem_cons h, List.set_cons_zero]
  simp [marks, List.range_succ]
theorem markTo_end (k0 : Int) (l : List Int) : markTo k0 l l.length = marks k0 l.length := by simp [markTo]
end Go.Proofs.YtiopbdodegopdaaDoor
