/- A region that draws its order: the laws of its steps: a call; for this program: an alloc, a slice literal of one body, an append. -/
import Derived.Test.YtiopbdodegopdaaDoorSch
import Derived.Test.YtiopbdodegopdaaDoorWls
import Derived.Great.BuildSlice
import Derived.Great.Walk
namespace Go.Proofs.YtiopbdodegopdaaDoor
open Go.RowKit
section
variable {P : Program} {ops : Array Oper} {rest : List Oper} {o : Oper} {a : Act} {w : World} {Q : Exit → Act → World → Prop}
theorem run_callFunc_go {f : FuncId} {fn : Func} (hf : P.funcs[f]? = some fn) (hn : (fn.name == "runtime.NumGoroutine") = false) (hb : fn.body.isNone = false) (args : Array Value) (w : World) : (callFunc f args).run P w = .ok (.enter f args) w := by
  have hn' : ¬ fn.name = "runtime.NumGoroutine" := by simpa using hn
  have hb' : ¬ fn.body = none := fun e => by rw [e] at hb; cases hb
  unfold callFunc
  simp [hf, hb', hn']
theorem wpList_callC {R : Ending → World → Prop} (hgd : o.guard = none) (f : FuncId) (xs : Array Operand) (ts : Array TypeId) (ho : o.op = .call { callee := .value (.func f), args := xs, argTypes := ts }) {fn : Func} (hf : P.funcs[f]? = some fn)
    (hn : (fn.name == "runtime.NumGoroutine") = false) (hb : fn.body.isNone = false) (args : Array Value) (hx : xs.map a.eval = args)
    (hc : Calls P f args w R) (h : ∀ e w', R e w' → ∃ v, e = .returned v ∧ wpList P ops Q rest (a.put o.dst v) w') : wpList P ops Q (o :: rest) a w := by
  refine wpList_plain hgd fun K hK => ?_
  unfold Oper.wp
  have e1 : execOp a.eval o = callFunc f args := by
    obtain ⟨d, op, ty, pos, after, g⟩ := o
    simp only at ho
    subst ho
    rw [execOp_call_go, hx]
    simp
  rw [e1, run_callFunc_go hf hn hb, Oper.upon_enter]
  refine hc.mono fun e w' he => ?_
  obtain ⟨v, rfl, hv⟩ := h e w' he
  exact hK _ _ hv
theorem run_store1 (P : Program) (w : World) (b o : Nat) (v u : Value) (h1 : v.oneCell' = true) (hc : w.cell? ⟨b, o, none⟩ = some u) (hf : w.frozen? ⟨b, o, none⟩ = false) : Sem.run P (storeCells ⟨b, o, none⟩ [v]) w = .ok () (w.setCell ⟨b, o, none⟩ v) := by
  have hst := run_store P w ⟨b, o, none⟩ v .plain h1
  rw [hc] at hst
  simp only [hf] at hst
  have e0 : (⟨b, o, none⟩ : Addr).add 0 = ⟨b, o, none⟩ := by simp [Addr.add]
  simp [storeCells, e0, hst]
/-- a value of one cell is stored -/
theorem store_cell (hgd : o.guard = none) (ty : TypeId) (x y : Operand) (ho : o.op = .store ty x y) (b f : Nat) (hx : a.eval x = .pointer (some ⟨b, f, none⟩)) (v : Value) (hy : a.eval y = v) (h1 : v.oneCell' = true)
    (hi : (P.info? ty).map (·.size) = some 1) {u : Value} (hc : w.cell? ⟨b, f, none⟩ = some u) (hf : w.frozen? ⟨b, f, none⟩ = false) (h : wpList P ops Q rest (a.put o.dst undef) (w.setCell ⟨b, f, none⟩ v)) : wpList P ops Q (o :: rest) a w := by
  have hrun : (storeVar ty ⟨b, f, none⟩ v).run P w = .ok () (w.setCell ⟨b, f, none⟩ v) := by
    have hs := run_store1 P w b f v u h1 hc hf
    have hv : v.cells = #[v] := by cases v <;> first | rfl | cases h1
    cases hq : P.info? ty with
    | none => simp [hq] at hi
    | some i =>
      have hsz : i.size = 1 := by simpa [hq] using hi
      simp [storeVar, sizeOf, typeInfo, hq, hv, hsz, hs]
  refine wpList_plain hgd fun K hK => ?_
  unfold Oper.wp execOp
  simp only [ho, hx, hy, Instr.storeAt, Instr.sureAddr, Sem.run_bind, Sem.run_pure, Result.andThen_ok, hrun]
  exact hK _ _ h
end
section
variable {ops : Array Oper} {rest : List Oper} {o : Oper} {a : Act} {w : World} {Q : Exit → Act → World → Prop}
theorem info_wld : (Tryd.prog.info? 40).map (fun i => i.zero) = some (some (.agg #[nilV, .int .i64 0, .int .i64 0, nilV, nilV])) := by kernel_rfl
theorem info_bodz : (Tryd.prog.info? 75).map (fun i => i.zero) = some (some zBV) := by kernel_rfl
theorem wpList_allocG {P : Program} (hgd : o.guard = none) (t : TypeId) (ho : o.op = .alloc t) (z : Value) (hi : (P.info? t).map (fun i => i.zero) = some (some z))
    (h : wpList P ops Q rest (a.put o.dst (.pointer (some ⟨w.heap.size, 0, none⟩))) (w.alloc (.cells z.cells t))) : wpList P ops Q (o :: rest) a w := by
  obtain ⟨i, hi, hz⟩ := Option.map_eq_some_iff.1 hi
  refine Great.wpList_runTo hgd _ rfl _ _ ?_ h
  simp [execOp, ho, Instr.alloc, zeroValue, typeInfo, hi, hz, newVar, newRow]
theorem alloc_wld (hgd : o.guard = none) (ho : o.op = .alloc 40)
    (h : wpList Tryd.prog ops Q rest (a.put o.dst (.pointer (some ⟨w.heap.size, 0, none⟩))) (w.alloc (.cells #[nilV, .int .i64 0, .int .i64 0, nilV, nilV] 40))) : wpList Tryd.prog ops Q (o :: rest) a w := wpList_allocG hgd _ ho _ info_wld h
theorem alloc_bod (hgd : o.guard = none) (ho : o.op = .alloc 75)
    (h : wpList Tryd.prog ops Q rest (a.put o.dst (.pointer (some ⟨w.heap.size, 0, none⟩))) (w.alloc (.cells zB.cells.toArray 75))) : wpList Tryd.prog ops Q (o :: rest) a w := wpList_allocG hgd _ ho _ info_bodz h
/-- '[]Body{b}' -/
theorem lit_bod (hgd : o.guard = none) (x : Operand) (ho : o.op = .buildSlice 38 1 #[(0, x)]) (b : Bd) (hx : a.eval x = b.val)
    (h : wpList Tryd.prog ops Q rest (a.put o.dst (.slice (some ⟨w.heap.size, 0, none⟩) 1 1)) (w.alloc (.cells b.cells.toArray 75))) : wpList Tryd.prog ops Q (o :: rest) a w := by
  refine Great.wpList_buildSliceTo hgd _ 75 1 _ ho w.heap.size rfl _ rfl Tryd.underlying38 b.cells.toArray ?_ h
  obtain ⟨i0, hi, hz0, hz1, hz2⟩ := bod_parts
  unfold Program.builtSlice
  simp only [hi, hz0, hz1]
  simp only [List.toList_toArray, List.map_cons, List.map_nil, List.map_toArray, hx]
  kernel_rfl
/-- a body's load, as one of the reads of a drawn region -/
theorem still_bodL (x : Operand) (ho : o.op = .load 75 x) (g f : Nat) (hx : a.eval x = .pointer (some ⟨g, f, none⟩)) (b : Bd) (hc : w.rangeAt g f b.cells) : (execOp a.eval o).run Tryd.prog w = .ok (.value b.val) w := by
  unfold execOp
  simp only [ho, hx, Instr.loadAt, Instr.sureAddr, Sem.run_bind, Sem.run_pure, Result.andThen_ok, run_loadVar_mid w g f _ b.cells _ hc Tryd.underlying75 rfl (by rw [size_bod]; rfl)]
  rfl
theorem size_bods : (Tryd.prog.info? 38).map (·.size) = some 1 := by kernel_rfl
theorem size_ints : (Tryd.prog.info? 37).map (·.size) = some 1 := by kernel_rfl
theorem size_int : (Tryd.prog.info? 3).map (·.size) = some 1 := by kernel_rfl
theorem own_lit (w : World) (b : Bd) : Own (w.alloc (.cells b.cells.toArray 75)) w.heap.size 9 (.slice (some ⟨w.heap.size, 0, none⟩) 1 1) 1 (cellsB [b]) := Own.lit (n := 1) 75 (by simp [cellsB]) (by rw [cellsB_len]; rfl) (Nat.le_refl _) (by unfold maxLen; omega)
/-- '[]int{z}' -/
theorem wpList_buildInt1 (hgd : o.guard = none) (x : Operand) (ho : o.op = .buildSlice 37 1 #[(0, x)]) (z : Int) (hx : a.eval x = .int .i64 z)
    (h : wpList Tryd.prog ops Q rest (a.put o.dst (.slice (some ⟨w.heap.size, 0, none⟩) 1 1)) (w.alloc (.cells #[.int .i64 z] 3))) : wpList Tryd.prog ops Q (o :: rest) a w := by
  refine Great.wpList_buildSliceTo hgd _ 3 1 _ ho w.heap.size rfl _ rfl Tryd.underlying37 #[.int .i64 z] ?_ h
  obtain ⟨i0, hi, hz0, hz1, hz2⟩ := info_parts info_int
  unfold Program.builtSlice
  simp only [hi, hz0, hz1]
  simp only [List.toList_toArray, List.map_cons, List.map_nil, List.map_toArray, hx]
  kernel_rfl
end
end Go.Proofs.YtiopbdodegopdaaDoor
