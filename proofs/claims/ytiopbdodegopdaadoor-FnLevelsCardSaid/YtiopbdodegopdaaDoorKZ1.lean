/- Texts Sli in one. -/
import Derived.Test.YtiopbdodegopdaaDoorKH
import Derived.Test.YtiopbdodegopdaaDoorKI
import Derived.Lib.Walk
/- Slices of a []int taken ('l[a:b]'), an empty '[]int{}', slices.Clone at []int. -/
namespace Go.Proofs.YtiopbdodegopdaaDoor
open Go.RowKit

theorem ints_drop_take (l : List Int) (a n : Nat) : ints ((l.drop a).take n) = ((ints l).drop a).take n := by unfold ints; rw [List.map_take, List.map_drop]
theorem addr_add1 (g off k : Nat) : (⟨g, off, none⟩ : Addr).add k = ⟨g, off + k, none⟩ := by unfold Addr.add; split <;> simp_all
/-- a slice of a slice -/
theorem At.sub {w : World} {ao : Option Addr} {n cap lo hi : Nat} {l : List Int} (h : At w 1 (.slice ao n cap) l.length (ints l)) (h1 : lo ≤ hi) (h2 : hi ≤ l.length) :
    At w 1 (sliced ao lo hi cap 1) ((l.drop lo).take (hi - lo)).length (ints ((l.drop lo).take (hi - lo))) := by
  obtain ⟨_, ao', cap', he, hn, hm, hc⟩ := h
  simp only [Value.slice.injEq] at he
  obtain ⟨rfl, rfl, rfl⟩ := he
  have hlen : ((l.drop lo).take (hi - lo)).length = hi - lo := by rw [List.length_take, List.length_drop]; omega
  refine ⟨by simp [ints], _, _, by rw [hlen]; rfl, by rw [hlen]; omega, by omega, fun h0 => ?_⟩
  obtain ⟨g, off, rfl, hg, hcell⟩ := hc (by omega)
  refine ⟨g, off + lo, by rw [if_neg (by omega)]; simp [addr_add1], hg, fun j hj => ?_⟩
  rw [hlen] at hj
  have := hcell (lo + j) (by omega)
  rw [Nat.add_assoc, this, ints_drop_take, List.getElem?_take, if_pos (by omega), List.getElem?_drop]
section
variable {ops : Array Oper} {rest : List Oper} {o : Oper} {a : Act} {w : World} {Q : Exit → Act → World → Prop}
theorem size_int1 : (Tryd.prog.info? 3).map (·.size) = some 1 := by kernel_rfl
theorem run_sizeInt (w : World) : (sizeOf 3).run Tryd.prog w = .ok 1 w := by
  obtain ⟨i, hi, hs⟩ := Option.map_eq_some_iff.1 size_int1
  simp [sizeOf, typeInfo, hi, hs]
theorem elem_ints : Tryd.prog.elem 37 = 3 := by kernel_rfl
theorem und_ints : Tryd.prog.underlying 37 = some (.slice (Tryd.prog.elem 37)) := by rw [elem_ints]; exact Tryd.underlying37
/-- 'x[lo:hi]' -/
theorem slice_lh (hgd : o.guard = none) (x y z : Operand) (ho : o.op = .slice 37 x (some y) (some z) none) {ao : Option Addr} {n cap lo hi : Nat} {p q : Int} {l : List Int} (hx : a.eval x = .slice ao n cap) (hy : a.eval y = .int .i64 p) (hz : a.eval z = .int .i64 q) (hp : p = (lo : Int)) (hq : q = (hi : Int))
    (hat : At w 1 (.slice ao n cap) l.length (ints l)) (h1 : lo ≤ hi) (h2 : hi ≤ l.length)
    (hK : ∀ v, (∀ wz, At wz 1 (.slice ao n cap) l.length (ints l) → At wz 1 v ((l.drop lo).take (hi - lo)).length (ints ((l.drop lo).take (hi - lo)))) → wpList Tryd.prog ops Q rest (a.put o.dst v) w) : wpList Tryd.prog ops Q (o :: rest) a w := by
  subst hp
  subst hq
  have hs := fun (wz : World) (hz : At wz 1 (.slice ao n cap) l.length (ints l)) => At.sub hz h1 h2
  have hcap : hi ≤ cap := by
    obtain ⟨_, ao', cap', he, hn, _⟩ := hat
    simp only [Value.slice.injEq] at he
    omega
  refine wpList_plain hgd fun K hK' => ?_
  unfold Oper.wp execOp
  simp only [ho, hx, hy, hz, Option.map_some, Option.map_none, run_sliceAt_slice w _ _ _ _ _ und_ints, run_slice_lh w 37 ao n cap und_ints .i64 .i64 (lo : Int) (hi : Int) (by omega) (by omega) (by omega), elem_ints, run_sizeInt, Result.andThen_ok, Int.toNat_natCast, Sem.run_bind, Sem.run_pure]
  exact hK' _ _ (hK _ hs)
/-- .. as one of the reads of a drawn region -/
theorem still_slice_lh (x y z : Operand) (ho : o.op = .slice 37 x (some y) (some z) none) {ao : Option Addr} {n cap lo hi : Nat} {p q : Int} (hx : a.eval x = .slice ao n cap) (hy : a.eval y = .int .i64 p) (hz : a.eval z = .int .i64 q) (hp : p = (lo : Int)) (hq : q = (hi : Int)) (h1 : lo ≤ hi) (h2 : hi ≤ cap) :
    (execOp a.eval o).run Tryd.prog w = .ok (.value (sliced ao lo hi cap 1)) w := by
  subst hp
  subst hq
  unfold execOp
  simp only [ho, hx, hy, hz, Option.map_some, Option.map_none, run_sliceAt_slice w _ _ _ _ _ und_ints, run_slice_lh w 37 ao n cap und_ints .i64 .i64 (lo : Int) (hi : Int) (by omega) (by omega) (by omega), elem_ints, run_sizeInt, Result.andThen_ok, Int.toNat_natCast, Sem.run_bind, Sem.run_pure]
/-- 'x[lo:]' -/
theorem slice_l (hgd : o.guard = none) (x y : Operand) (ho : o.op = .slice 37 x (some y) none none) {ao : Option Addr} {n cap lo : Nat} {p : Int} {l : List Int} (hx : a.eval x = .slice ao n cap) (hy : a.eval y = .int .i64 p) (hp : p = (lo : Int))
    (hat : At w 1 (.slice ao n cap) l.length (ints l)) (h1 : lo ≤ l.length)
    (hK : ∀ v, (∀ wz, At wz 1 (.slice ao n cap) l.length (ints l) → At wz 1 v (l.drop lo).length (ints (l.drop lo))) → wpList Tryd.prog ops Q rest (a.put o.dst v) w) : wpList Tryd.prog ops Q (o :: rest) a w := by
  subst hp
  have hs := fun (wz : World) (hz : At wz 1 (.slice ao n cap) l.length (ints l)) => At.sub hz h1 (Nat.le_refl _)
  rw [show (l.drop lo).take (l.length - lo) = l.drop lo from List.take_of_length_le (by rw [List.length_drop]; omega)] at hs
  have hn : n = l.length := by
    obtain ⟨_, ao', cap', he, hn, _⟩ := hat
    simp only [Value.slice.injEq] at he
    omega
  refine wpList_plain hgd fun K hK' => ?_
  unfold Oper.wp execOp
  simp only [ho, hx, hy, Option.map_some, Option.map_none, run_sliceAt_slice w _ _ _ _ _ und_ints, run_slice_l w 37 ao n cap und_ints .i64 (lo : Int) (by omega) (by omega), elem_ints, run_sizeInt, Result.andThen_ok, Int.toNat_natCast, Sem.run_bind, Sem.run_pure]
  subst hn
  exact hK' _ _ (hK _ hs)
end
theorem own_lit0 (w : World) : Own (w.alloc (.cells #[] 3)) w.heap.size 1 (.slice (some ⟨w.heap.size, 0, none⟩) 0 0) ([] : List Int).length (ints []) := Own.lit (n := 0) 3 rfl rfl (Nat.le_refl _) (by unfold maxLen; omega)
end Go.Proofs.YtiopbdodegopdaaDoor
