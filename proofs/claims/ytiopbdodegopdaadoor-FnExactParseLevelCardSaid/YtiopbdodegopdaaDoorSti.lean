/- Steps through a region that draws its order and is guarded: the guard's answer by the kernel. -/
import Derived.WalkKit
import Derived.StillTailTactics
import Derived.KernelRfl
import Derived.Lib.Hide

namespace Go.Proofs.YtiopbdodegopdaaDoor
open Go.RowKit
section
variable {P : Program} {ops : Array Oper} {w : World}
theorem wpStill_skip {Q : Act → Prop} {a : Act} {o : Oper} {rest : List Oper} (hw : Region.wanted o (yielded ops a.tmps) = false) (h : wpStill P ops w Q rest (a.put o.dst undef)) : wpStill P ops w Q (o :: rest) a := by
  unfold wpStill; rw [hw]; exact h
theorem wpStill_want {Q : Act → Prop} {a : Act} {o : Oper} {rest : List Oper} (hw : Region.wanted o (yielded ops a.tmps) = true)
    (h : ∀ K : Act → Prop, (∀ a, wpStill P ops w Q rest a → K a) → o.still P a w K) : wpStill P ops w Q (o :: rest) a := by
  unfold wpStill; rw [hw]; exact h _ (fun _ h => h)
theorem wp_region_tailV {id : Nat} {Q : Exit → Act → World → Prop} {a : Act} {l : List Oper} (n : Nat) (hm : P.follows .mixedOrders = true) (hB : Region.lexTailB .any l.toArray n = true)
    (h : ∀ OPS : Array Oper, Hid (OPS = l.toArray) → wpStill P OPS { w with drawn := w.drawn + 1 } (fun a' => wpList P l.toArray Q (l.drop n) a' { w with drawn := w.drawn + 1 }) (l.take n) a) : (Code.region id l.toArray true).wp P Q a w :=
  wp_region_still_tail n hm hB (h _ (Lib.hid rfl))
theorem wanted_of {ops : Array Oper} {tmps : Array Value} {o : Oper} {j d : Nat} {b v : Bool} (hg : o.guard = some (j, b)) (hd : (ops[j]?).bind (·.dst) = some d) (ht : tmps[d]? = some (.bool v)) : Region.wanted o (yielded ops tmps) = (v == b) := by
  unfold Region.wanted yielded
  rw [hg]
  simp only [hd, ht, Option.bind_some]
  cases v <;> cases b <;> rfl
theorem wpStill_skipG {Q : Act → Prop} {a : Act} {o : Oper} {rest : List Oper} (j d : Nat) (b v : Bool) (hg : o.guard = some (j, b)) (hd : (ops[j]?).bind (·.dst) = some d) (ht : a.tmps[d]? = some (.bool v)) (hv : (v == b) = false) (hu : a.put o.dst undef = a)
    (h : wpStill P ops w Q rest a) : wpStill P ops w Q (o :: rest) a :=
  wpStill_skip ((wanted_of hg hd ht).trans hv) (by rw [hu]; exact h)
theorem wpStill_wantG {Q : Act → Prop} {a : Act} {o : Oper} {rest : List Oper} (j d : Nat) (b v : Bool) (hg : o.guard = some (j, b)) (hd : (ops[j]?).bind (·.dst) = some d) (ht : a.tmps[d]? = some (.bool v)) (hv : (v == b) = true)
    (h : ∀ K : Act → Prop, (∀ a, wpStill P ops w Q rest a → K a) → o.still P a w K) : wpStill P ops w Q (o :: rest) a :=
  wpStill_want ((wanted_of hg hd ht).trans hv) h
end
end Go.Proofs.YtiopbdodegopdaaDoor
