/- The laws' own functions on worlds: szIntS, szBodyS, szWorld, toWorld, eqBodyS, eqWorld. -/
import Derived.Test.YtiopbdodegopdaaDoorWlw
import Derived.Test.YtiopbdodegopdaaDoorLss
import Derived.Deep.RegionWith
import Derived.Deep.DeepCutAuto
import Derived.Deep.CutRange
namespace Go.Proofs.YtiopbdodegopdaaDoor
open Go.RowKit

/-- what a world may measure -/
structure WSmall (X : Wd) : Prop where
  r : X.rows.length ≤ 1048576
  rs : ∀ s ∈ X.rows, s.size ≤ 1048576
  s : X.scores.length ≤ 1048576
  b : X.bodies.length ≤ 1048576
theorem At.len63 {w : World} {sz : Nat} {v : Value} {n : Nat} {cs : List Value} (h : At w sz v n cs) : n ≤ 9223372036854775807 := by
  obtain ⟨_, ao, cap, _, hn, hm, _⟩ := h
  unfold maxLen at hm
  omega
def wcells (u : Value) (tk sd : Int) (us ub : Value) : List Value := [u, .int .i64 tk, .int .i64 sd, us, ub]
theorem WBlk.range {w : World} {g : Nat} {u us ub : Value} {tk sd : Int} (h : WBlk w g u tk sd us ub) : w.rangeAt g 0 (wcells u tk sd us ub) := fun j v hv => by
  have hj : j < 5 := (List.getElem?_eq_some_iff.1 hv).1
  rw [Nat.zero_add]
  obtain ⟨_, c0, c1, c2, c3, c4, _⟩ := h
  match j, hj with
  | 0, _ => exact c0.trans hv
  | 1, _ => exact c1.trans hv
  | 2, _ => exact c2.trans hv
  | 3, _ => exact c3.trans hv
  | 4, _ => exact c4.trans hv
theorem WBlk.there {w : World} {g : Nat} {u us ub : Value} {tk sd : Int} (h : WBlk w g u tk sd us ub) : w.there g 0 5 := fun j hj => by
  rw [Nat.zero_add]
  obtain ⟨_, c0, c1, c2, c3, c4, f0, f1, f2, f3, f4⟩ := h
  match j, hj with
  | 0, _ => exact ⟨some_isSome c0, f0⟩
  | 1, _ => exact ⟨some_isSome c1, f1⟩
  | 2, _ => exact ⟨some_isSome c2, f2⟩
  | 3, _ => exact ⟨some_isSome c3, f3⟩
  | 4, _ => exact ⟨some_isSome c4, f4⟩
theorem WBlk.setAll {w : World} {g : Nat} {u us ub u' us' ub' : Value} {tk sd tk' sd' : Int} (h : WBlk w g u tk sd us ub) : WBlk (w.setCells g 0 (wcells u' tk' sd' us' ub')) g u' tk' sd' us' ub' := ((((h.set0 u').set1 tk').set2 sd').set3 us').set4 ub'
theorem slice_one {w : World} {sz : Nat} {v : Value} {n : Nat} {cs : List Value} (h : At w sz v n cs) : v.oneCell' = true := by
  obtain ⟨_, ao, cap, rfl, _⟩ := h
  rfl
theorem size_wld : (Tryd.prog.info? 40).map (·.size) = some 5 := by kernel_rfl
section
variable {ops : Array Oper} {rest : List Oper} {op : Oper} {a : Act} {w : World} {Q : Exit → Act → World → Prop}
theorem load_wld (hgd : op.guard = none) (x : Operand) (ho : op.op = .load 40 x) (g : Nat) (hx : a.eval x = .pointer (some ⟨g, 0, none⟩)) (u : Value) (tk sd : Int) (us ub : Value) (hc : w.rangeAt g 0 (wcells u tk sd us ub))
    (h : wpList Tryd.prog ops Q rest (a.put op.dst (.agg #[u, .int .i64 tk, .int .i64 sd, us, ub])) w) : wpList Tryd.prog ops Q (op :: rest) a w :=
  wpList_load_mid hgd _ x ho g 0 hx (wcells u tk sd us ub) _ hc Tryd.underlying40 rfl (by rw [size_wld]; rfl) h
theorem store_wld (hgd : op.guard = none) (x y : Operand) (ho : op.op = .store 40 x y) (g : Nat) (hx : a.eval x = .pointer (some ⟨g, 0, none⟩)) (u : Value) (tk sd : Int) (us ub : Value) (hy : a.eval y = .agg #[u, .int .i64 tk, .int .i64 sd, us, ub]) (ht : w.there g 0 5)
    (h0 : u.oneCell' = true) (h3 : us.oneCell' = true) (h4 : ub.oneCell' = true)
    (h : wpList Tryd.prog ops Q rest (a.put op.dst undef) (w.setCells g 0 (wcells u tk sd us ub))) : wpList Tryd.prog ops Q (op :: rest) a w :=
  wpList_store_mid hgd _ x y ho g 0 #[u, .int .i64 tk, .int .i64 sd, us, ub] hx hy (by exact ht) (by rw [size_wld]; rfl) (Array.all_eq_true_iff_forall_mem.2 fun v hv => by simp at hv; rcases hv with rfl | rfl | rfl | rfl | rfl <;> first | assumption | rfl) h
end
theorem zwthere (w : World) (t : TypeId) : (w.alloc (.cells #[.slice none 0 0, .int .i64 0, .int .i64 0, .slice none 0 0, .slice none 0 0] t)).there w.heap.size 0 5 := (WBlk.new w t nilV 0 0 nilV nilV).there
/-- a new variable that holds a world -/
theorem newW5 {B : Nat} {a wr : World} (h : Below B a wr) (hs : B ≤ wr.heap.size) (t : TypeId) (u : Value) (tk sd : Int) (us ub : Value) :
    WBlk ((wr.alloc (.cells #[.slice none 0 0, .int .i64 0, .int .i64 0, .slice none 0 0, .slice none 0 0] t)).setCells wr.heap.size 0 (wcells u tk sd us ub)) wr.heap.size u tk sd us ub ∧
    Below B a ((wr.alloc (.cells #[.slice none 0 0, .int .i64 0, .int .i64 0, .slice none 0 0, .slice none 0 0] t)).setCells wr.heap.size 0 (wcells u tk sd us ub)) ∧
    Below wr.heap.size wr ((wr.alloc (.cells #[.slice none 0 0, .int .i64 0, .int .i64 0, .slice none 0 0, .slice none 0 0] t)).setCells wr.heap.size 0 (wcells u tk sd us ub)) :=
  ⟨(WBlk.new wr t nilV 0 0 nilV nilV).setAll, setCells_below (h.alloc hs _) hs, setCells_below ((Below.refl _ _).alloc (Nat.le_refl _) _) (Nat.le_refl _)⟩
/-- the result of a function: a world out of its variable -/
theorem res_wld1 {fn : Func} {t1 : Tmp} {tmps : Array Value} {w : World} {g : Nat} {u us ub : Value} {tk sd : Int} (hr : fn.results = #[.cell t1 40]) (h1 : tmps.getD t1 undef = .pointer (some ⟨g, 0, none⟩))
    (hc : w.rangeAt g 0 (wcells u tk sd us ub)) : (results fn tmps).run Tryd.prog w = .ok (.agg #[u, .int .i64 tk, .int .i64 sd, us, ub]) w := by
  have hl := run_loadVar_mid w g 0 40 (wcells u tk sd us ub) _ hc Tryd.underlying40 rfl (by rw [size_wld]; rfl)
  have h1' : tmps[t1]?.getD undef = .pointer (some ⟨g, 0, none⟩) := by simpa using h1
  simp [results, hr, h1', hl, asAddr, wcells]
theorem res_wld2 {fn : Func} {t1 t2 : Tmp} {tmps : Array Value} {w : World} {g : Nat} {u us ub : Value} {tk sd : Int} {st : Bool} (hr : fn.results = #[.cell t1 40, .tmp t2]) (h1 : tmps.getD t1 undef = .pointer (some ⟨g, 0, none⟩)) (h2 : tmps.getD t2 undef = .bool st)
    (hc : w.rangeAt g 0 (wcells u tk sd us ub)) : (results fn tmps).run Tryd.prog w = .ok (.tuple #[.agg #[u, .int .i64 tk, .int .i64 sd, us, ub], .bool st]) w := by
  have hl := run_loadVar_mid w g 0 40 (wcells u tk sd us ub) _ hc Tryd.underlying40 rfl (by rw [size_wld]; rfl)
  have h1' : tmps[t1]?.getD undef = .pointer (some ⟨g, 0, none⟩) := by simpa using h1
  have h2' : tmps[t2]?.getD undef = .bool st := by simpa using h2
  simp [results, hr, h1', h2', hl, asAddr, wcells]
end Go.Proofs.YtiopbdodegopdaaDoor
