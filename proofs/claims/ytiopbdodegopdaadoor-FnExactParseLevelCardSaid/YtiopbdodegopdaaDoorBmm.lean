/- Bodies moved whole between slots and memory: the load and the store of nine cells, the value folded; a function's result that is a body and a bool. -/
import Derived.Test.YtiopbdodegopdaaDoorBds
import Derived.Test.YtiopbdodegopdaaDoorSti
import Derived.Deep.MidRow
import Derived.Deep.RegionHeld3
namespace Go.Proofs.YtiopbdodegopdaaDoor
open Go.RowKit

theorem cells_at (b : Bd) : ∀ (j : Nat) (v : Value), b.cells[j]? = some v → j < 9 := fun j v h => by have := (List.getElem?_eq_some_iff.1 h).1; rwa [Bd.cells_len] at this
theorem Blk.range {w : World} {g : Nat} {b : Bd} (h : Blk w g b) : w.rangeAt g 0 b.cells := fun j v hv => by
  have hj := cells_at b j v hv
  rw [Nat.zero_add]
  obtain ⟨_, c0, c1, c2, c3, c4, c5, c6, c7, c8, _⟩ := h
  match j, hj with
  | 0, _ => exact c0.trans hv
  | 1, _ => exact c1.trans hv
  | 2, _ => exact c2.trans hv
  | 3, _ => exact c3.trans hv
  | 4, _ => exact c4.trans hv
  | 5, _ => exact c5.trans hv
  | 6, _ => exact c6.trans hv
  | 7, _ => exact c7.trans hv
  | 8, _ => exact c8.trans hv
theorem some_isSome {α : Type} {x : Option α} {v : α} (h : x = some v) : x.isSome = true := by rw [h]; rfl
theorem Blk.there {w : World} {g : Nat} {b : Bd} (h : Blk w g b) : w.there g 0 9 := fun j hj => by
  rw [Nat.zero_add]
  obtain ⟨_, c0, c1, c2, c3, c4, c5, c6, c7, c8, f0, f1, f2, f3, f4, f5, f6, f7, f8⟩ := h
  match j, hj with
  | 0, _ => exact ⟨some_isSome c0, f0⟩
  | 1, _ => exact ⟨some_isSome c1, f1⟩
  | 2, _ => exact ⟨some_isSome c2, f2⟩
  | 3, _ => exact ⟨some_isSome c3, f3⟩
  | 4, _ => exact ⟨some_isSome c4, f4⟩
  | 5, _ => exact ⟨some_isSome c5, f5⟩
  | 6, _ => exact ⟨some_isSome c6, f6⟩
  | 7, _ => exact ⟨some_isSome c7, f7⟩
  | 8, _ => exact ⟨some_isSome c8, f8⟩
theorem Blk.setAll {w : World} {g : Nat} {z : Bd} (h : Blk w g z) (b : Bd) : Blk (w.setCells g 0 b.cells) g b := by rw [← put9_eq]; exact h.put9 b
theorem Blk.apart {w : World} {g g2 o : Nat} {b : Bd} (h : Blk w g b) (hne : g ≠ g2) (vs : List Value) : Blk (w.setCells g2 o vs) g b :=
  h.carry (by rw [size_setCells_]; exact Nat.le_refl _) ((setCells_grown w g2 o vs).block g h.lt (fun e => hne (by simpa using e)))
theorem Elem.range {w : World} {g o : Nat} {b : Bd} (h : Elem w g o b) : w.rangeAt g o b.cells := fun j v hv => by
  have hj := cells_at b j v hv
  obtain ⟨c0, c1, c2, c3, c4, c5, c6, c7, c8⟩ := h
  match j, hj with
  | 0, _ => exact c0.trans hv
  | 1, _ => exact c1.trans hv
  | 2, _ => exact c2.trans hv
  | 3, _ => exact c3.trans hv
  | 4, _ => exact c4.trans hv
  | 5, _ => exact c5.trans hv
  | 6, _ => exact c6.trans hv
  | 7, _ => exact c7.trans hv
  | 8, _ => exact c8.trans hv
theorem Own.there9 {w : World} {base n cap g : Nat} {cs : List Value} (h : Own w base 9 (.slice (some ⟨g, 0, none⟩) n cap) n cs) {k : Nat} (hk : k < n) : w.there g (k * 9) 9 := by
  rcases h.val with ⟨h', _⟩ | ⟨g', cap', h', _, _, hn, _, _, hs⟩
  · simp at h'
  · simp only [Value.slice.injEq, Option.some.injEq, Addr.mk.injEq, and_true, true_and] at h'
    obtain ⟨rfl, rfl⟩ := h'
    exact fun j hj => hs _ (by omega)
theorem Own.other {w : World} {base sz n : Nat} {v : Value} {cs : List Value} (h : Own w base sz v n cs) {p : Addr} (hp : ∀ g, v.ownBlock = some g → g ≠ p.block) (x : Value) : Own (w.setCell p x) base sz v n cs :=
  h.carry (by simp) (fun g hv _ => Below.heap_setCell _ _ _ _ (hp g hv))
theorem Own.apart {w : World} {base sz n : Nat} {v : Value} {cs : List Value} (h : Own w base sz v n cs) {g2 : Nat} (hp : ∀ g, v.ownBlock = some g → g ≠ g2) (o : Nat) (vs : List Value) : Own (w.setCells g2 o vs) base sz v n cs :=
  h.carry (by rw [size_setCells_]; exact Nat.le_refl _) (fun g hv hl => (setCells_grown w g2 o vs).block g hl (fun e => hp g hv (by simpa using e)))
theorem bval_eq (b : Bd) : b.val = .agg b.cells.toArray := rfl
theorem bval_cells (b : Bd) : b.val.cells = b.cells.toArray := rfl
theorem bod_all (b : Bd) : b.cells.toArray.all (·.oneCell') = true := by
  refine Array.all_eq_true_iff_forall_mem.2 fun v hv => ?_
  exact cellsB_one [b] v (by simpa [cellsB] using hv)
theorem size_bod : (Tryd.prog.info? 75).map (·.size) = some 9 := by kernel_rfl
section
variable {ops : Array Oper} {rest : List Oper} {op : Oper} {a : Act} {w : World} {Q : Exit → Act → World → Prop}
/-- a body is loaded -/
theorem load_bod (hgd : op.guard = none) (x : Operand) (ho : op.op = .load 75 x) (g o : Nat) (hx : a.eval x = .pointer (some ⟨g, o, none⟩)) (b : Bd) (hc : w.rangeAt g o b.cells)
    (h : wpList Tryd.prog ops Q rest (a.put op.dst b.val) w) : wpList Tryd.prog ops Q (op :: rest) a w :=
  wpList_load_mid hgd _ x ho g o hx b.cells _ hc Tryd.underlying75 rfl (by rw [size_bod]; rfl) h
/-- a body is stored -/
theorem store_bod (hgd : op.guard = none) (x y : Operand) (ho : op.op = .store 75 x y) (g o : Nat) (hx : a.eval x = .pointer (some ⟨g, o, none⟩)) (b : Bd) (hy : a.eval y = b.val) (ht : w.there g o 9)
    (h : wpList Tryd.prog ops Q rest (a.put op.dst undef) (w.setCells g o b.cells)) : wpList Tryd.prog ops Q (op :: rest) a w :=
  wpList_store_mid hgd _ x y ho g o b.cells.toArray hx hy (by exact ht) (by rw [size_bod]; rfl) (bod_all b) (by rw [List.toList_toArray]; exact h)
/-- a body is boxed (a parameter, a variable) -/
theorem box_bod (hgd : op.guard = none) (t : TypeId) (x : Operand) (ho : op.op = .box t x) (b : Bd) (hx : a.eval x = b.val)
    (h : wpList Tryd.prog ops Q rest (a.put op.dst (.pointer (some ⟨w.heap.size, 0, none⟩))) (w.alloc (.cells b.cells.toArray t))) : wpList Tryd.prog ops Q (op :: rest) a w := by
  refine wpList_plain hgd fun K hK => ?_
  unfold Oper.wp execOp
  simp only [ho, Sem.run_bind, Instr.box, newVar, newRow, run_newObj_alloc, Sem.run_pure, Result.andThen_ok, hx, bval_cells]
  exact hK _ _ h
theorem Blk.newB (w : World) (t : TypeId) (b : Bd) : Blk (w.alloc (.cells b.cells.toArray t)) w.heap.size b := Blk.new w t b
/-- .. in a region that draws its order: taken as one of the reads -/
theorem still_bod {K : Act → Prop} (x : Operand) (ho : op.op = .load 75 x) (g o : Nat) (hx : a.eval x = .pointer (some ⟨g, o, none⟩)) (b : Bd) (hc : w.rangeAt g o b.cells)
    (h : K (a.put op.dst b.val)) : op.still Tryd.prog a w K := by
  unfold Oper.still execOp
  simp only [ho, hx, Instr.loadAt, Instr.sureAddr, Sem.run_bind, Sem.run_pure, Result.andThen_ok, run_loadVar_mid w g o _ b.cells _ hc Tryd.underlying75 rfl (by rw [size_bod]; rfl)]
  exact ⟨rfl, h⟩
theorem still_bodS {Q' : Act → Prop} (hgd : op.guard = none) (x : Operand) (ho : op.op = .load 75 x) (g o : Nat) (hx : a.eval x = .pointer (some ⟨g, o, none⟩)) (b : Bd) (hc : w.rangeAt g o b.cells)
    (h : wpStill Tryd.prog ops w Q' rest (a.put op.dst b.val)) : wpStill Tryd.prog ops w Q' (op :: rest) a := by
  unfold wpStill
  rw [if_pos (by simp [Region.wanted, hgd])]
  exact still_bod x ho g o hx b hc h
theorem yields_bod {S : World → Prop} (hw : Region.wanted op (yielded ops a.tmps) = true) (x : Operand) (ho : op.op = .load 75 x) (g o : Nat) (hx : a.eval x = .pointer (some ⟨g, o, none⟩)) (b : Bd) (hS : ∀ w, S w → w.rangeAt g o b.cells) :
    YieldsIf Tryd.prog ops S op b.val a :=
  yieldsIf_load_mid hw _ x ho g o hx b.cells _ hS Tryd.underlying75 rfl (by rw [size_bod]; rfl)
end
def zcells : Array Value := #[.int .i64 0, .int .i64 0, .int .i64 0, .int .i64 0, .int .i64 0, .int .i64 0, .int .i64 0, .int .i64 0, .int .i64 0]
theorem zthere (w : World) (t : TypeId) : (w.alloc (.cells #[.int .i64 0, .int .i64 0, .int .i64 0, .int .i64 0, .int .i64 0, .int .i64 0, .int .i64 0, .int .i64 0, .int .i64 0] t)).there w.heap.size 0 9 := (Blk.new w t zB).there
/-- a new variable that holds a body -/
theorem newB {B : Nat} {a wr : World} (h : Below B a wr) (hs : B ≤ wr.heap.size) (t : TypeId) (b : Bd) :
    Blk ((wr.alloc (.cells #[.int .i64 0, .int .i64 0, .int .i64 0, .int .i64 0, .int .i64 0, .int .i64 0, .int .i64 0, .int .i64 0, .int .i64 0] t)).setCells wr.heap.size 0 b.cells) wr.heap.size b ∧
    Below B a ((wr.alloc (.cells #[.int .i64 0, .int .i64 0, .int .i64 0, .int .i64 0, .int .i64 0, .int .i64 0, .int .i64 0, .int .i64 0, .int .i64 0] t)).setCells wr.heap.size 0 b.cells) ∧
    Below wr.heap.size wr ((wr.alloc (.cells #[.int .i64 0, .int .i64 0, .int .i64 0, .int .i64 0, .int .i64 0, .int .i64 0, .int .i64 0, .int .i64 0, .int .i64 0] t)).setCells wr.heap.size 0 b.cells) :=
  ⟨(Blk.new wr t zB).setAll b, setCells_below (h.alloc hs _) hs, setCells_below ((Below.refl _ _).alloc (Nat.le_refl _) _) (Nat.le_refl _)⟩
/-- the results of a function: a body out of its variable, and a bool -/
theorem res_bod2 {fn : Func} {t1 t2 : Tmp} {tmps : Array Value} {w : World} {g : Nat} {b : Bd} {st : Bool} (hr : fn.results = #[.cell t1 75, .tmp t2]) (h1 : tmps.getD t1 undef = .pointer (some ⟨g, 0, none⟩)) (h2 : tmps.getD t2 undef = .bool st)
    (hc : w.rangeAt g 0 b.cells) : (results fn tmps).run Tryd.prog w = .ok (.tuple #[b.val, .bool st]) w := by
  have hl := run_loadVar_mid w g 0 75 b.cells _ hc Tryd.underlying75 rfl (by rw [size_bod]; rfl)
  have h1' : tmps[t1]?.getD undef = .pointer (some ⟨g, 0, none⟩) := by simpa using h1
  have h2' : tmps[t2]?.getD undef = .bool st := by simpa using h2
  simp [results, hr, h1', h2', hl, asAddr, bval_eq]
theorem res_bod1 {fn : Func} {t1 : Tmp} {tmps : Array Value} {w : World} {g : Nat} {b : Bd} (hr : fn.results = #[.cell t1 75]) (h1 : tmps.getD t1 undef = .pointer (some ⟨g, 0, none⟩))
    (hc : w.rangeAt g 0 b.cells) : (results fn tmps).run Tryd.prog w = .ok b.val w := by
  have hl := run_loadVar_mid w g 0 75 b.cells _ hc Tryd.underlying75 rfl (by rw [size_bod]; rfl)
  have h1' : tmps[t1]?.getD undef = .pointer (some ⟨g, 0, none⟩) := by simpa using h1
  simp [results, hr, h1', hl, asAddr, bval_eq]
end Go.Proofs.YtiopbdodegopdaaDoor
