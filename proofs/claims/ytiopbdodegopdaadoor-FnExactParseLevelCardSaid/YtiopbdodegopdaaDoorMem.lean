/- A body (nine cells) and a world (five cells) in a block of its own: what is kept, what a store does. -/
import Derived.Test.YtiopbdodegopdaaDoorWdLaw
import Derived.Test.YtiopbdodegopdaaDoorScr
namespace Go.Proofs.YtiopbdodegopdaaDoor
open Go.RowKit

/-- old cells and old marks read as before -/
theorem bcell {W w1 : World} (hb : Below W.heap.size W w1) : (∀ b o, b < W.heap.size → w1.cell? ⟨b, o, none⟩ = W.cell? ⟨b, o, none⟩) ∧ (∀ b o, b < W.heap.size → w1.frozen? ⟨b, o, none⟩ = W.frozen? ⟨b, o, none⟩) :=
  ⟨fun b o h => hb.cell (p := ⟨b, o, none⟩) h, fun b o h => hb.frozen (p := ⟨b, o, none⟩) h⟩
theorem grown_below {w w' : World} {row : Option Nat} {B : Nat} (h : w.grownBy w' row) (hB : B ≤ w.heap.size) (hr : ∀ k, row = some k → B ≤ k) : Below B w w' := (Below.refl B w).grown h hB hr
theorem cell_alloc_lt {w : World} {p : Addr} {x : Value} (h : w.cell? p = some x) (o : Obj) (hlt : p.block < w.heap.size) : (w.alloc o).cell? p = some x := (World.cell?_alloc_lt w o p hlt).trans h
theorem below_grown {w w' : World} (row : Option Nat) (h : Below w.heap.size w w') : w.grownBy w' row := ⟨h.os, h.tape, h.output, h.size, fun i hi _ => h.block i hi⟩

/-- block g holds the body b -/
structure Blk (w : World) (g : Nat) (b : Bd) : Prop where
  lt : g < w.heap.size
  c0 : w.cell? ⟨g, 0, none⟩ = some (.int .i64 b.kind)
  c1 : w.cell? ⟨g, 1, none⟩ = some (.int .i64 b.owner)
  c2 : w.cell? ⟨g, 2, none⟩ = some (.int .i64 b.x)
  c3 : w.cell? ⟨g, 3, none⟩ = some (.int .i64 b.y)
  c4 : w.cell? ⟨g, 4, none⟩ = some (.int .i64 b.vx)
  c5 : w.cell? ⟨g, 5, none⟩ = some (.int .i64 b.vy)
  c6 : w.cell? ⟨g, 6, none⟩ = some (.int .i64 b.aim)
  c7 : w.cell? ⟨g, 7, none⟩ = some (.int .i64 b.life)
  c8 : w.cell? ⟨g, 8, none⟩ = some (.int .i64 b.timer)
  f0 : w.frozen? ⟨g, 0, none⟩ = false
  f1 : w.frozen? ⟨g, 1, none⟩ = false
  f2 : w.frozen? ⟨g, 2, none⟩ = false
  f3 : w.frozen? ⟨g, 3, none⟩ = false
  f4 : w.frozen? ⟨g, 4, none⟩ = false
  f5 : w.frozen? ⟨g, 5, none⟩ = false
  f6 : w.frozen? ⟨g, 6, none⟩ = false
  f7 : w.frozen? ⟨g, 7, none⟩ = false
  f8 : w.frozen? ⟨g, 8, none⟩ = false
section
variable {w w' : World} {g : Nat} {b : Bd}
theorem Blk.carry (h : Blk w g b) (hs : w.heap.size ≤ w'.heap.size) (hb : w'.heap[g]? = w.heap[g]?) : Blk w' g b := by
  have hc : ∀ j, w'.cell? ⟨g, j, none⟩ = w.cell? ⟨g, j, none⟩ := fun j => World.cell?_of_block hb
  have hf : ∀ j, w'.frozen? ⟨g, j, none⟩ = w.frozen? ⟨g, j, none⟩ := fun j => World.frozen?_of_block hb
  exact ⟨Nat.lt_of_lt_of_le h.lt hs, (hc 0).trans h.c0, (hc 1).trans h.c1, (hc 2).trans h.c2, (hc 3).trans h.c3, (hc 4).trans h.c4, (hc 5).trans h.c5, (hc 6).trans h.c6, (hc 7).trans h.c7, (hc 8).trans h.c8, (hf 0).trans h.f0, (hf 1).trans h.f1, (hf 2).trans h.f2, (hf 3).trans h.f3, (hf 4).trans h.f4, (hf 5).trans h.f5, (hf 6).trans h.f6, (hf 7).trans h.f7, (hf 8).trans h.f8⟩
theorem Blk.below {B : Nat} (h : Blk w g b) (hb : Below B w w') (hB : g < B) : Blk w' g b := h.carry hb.size (hb.block g hB)
theorem Blk.alloc (h : Blk w g b) (o : Obj) : Blk (w.alloc o) g b := h.carry (by simp) (Below.heap_alloc w o g h.lt)
theorem Blk.drew (h : Blk w g b) : Blk w.drew g b := h.carry (Nat.le_refl _) rfl
theorem Blk.drewN (h : Blk w g b) (k : Nat) : Blk (w.drewN k) g b := h.carry (Nat.le_refl _) rfl
theorem Blk.grown {row : Option Nat} (h : Blk w g b) (hg : w.grownBy w' row) (hne : row ≠ some g) : Blk w' g b := h.carry hg.size (hg.block g h.lt (fun e => hne e.symm))
theorem Blk.other (h : Blk w g b) {p : Addr} (hp : p.block ≠ g) (v : Value) : Blk (w.setCell p v) g b := h.carry (by simp) (Below.heap_setCell w p v g (fun e => hp e.symm))
theorem Blk.new (w : World) (t : TypeId) (b : Bd) : Blk (w.alloc (.cells #[.int .i64 b.kind, .int .i64 b.owner, .int .i64 b.x, .int .i64 b.y, .int .i64 b.vx, .int .i64 b.vy, .int .i64 b.aim, .int .i64 b.life, .int .i64 b.timer] t)) w.heap.size b := by
  have hc : ∀ j, (w.alloc (.cells #[.int .i64 b.kind, .int .i64 b.owner, .int .i64 b.x, .int .i64 b.y, .int .i64 b.vx, .int .i64 b.vy, .int .i64 b.aim, .int .i64 b.life, .int .i64 b.timer] t)).cell? ⟨w.heap.size, j, none⟩ = #[(.int .i64 b.kind : Value), .int .i64 b.owner, .int .i64 b.x, .int .i64 b.y, .int .i64 b.vx, .int .i64 b.vy, .int .i64 b.aim, .int .i64 b.life, .int .i64 b.timer][j]? := fun j => World.cell?_alloc_new w _ _ j
  have hf : ∀ j, (w.alloc (.cells #[.int .i64 b.kind, .int .i64 b.owner, .int .i64 b.x, .int .i64 b.y, .int .i64 b.vx, .int .i64 b.vy, .int .i64 b.aim, .int .i64 b.life, .int .i64 b.timer] t)).frozen? ⟨w.heap.size, j, none⟩ = false := fun j => World.frozen?_alloc_new w _ _ j
  exact ⟨by simp, hc 0, hc 1, hc 2, hc 3, hc 4, hc 5, hc 6, hc 7, hc 8, hf 0, hf 1, hf 2, hf 3, hf 4, hf 5, hf 6, hf 7, hf 8⟩
theorem Blk.set0 (h : Blk w g b) (z : Int) : Blk (w.setCell ⟨g, 0, none⟩ (.int .i64 z)) g ({ b with kind := z }) := by
  have ho : ∀ i, i ≠ 0 → (w.setCell ⟨g, 0, none⟩ (.int .i64 z)).cell? ⟨g, i, none⟩ = w.cell? ⟨g, i, none⟩ := fun i hi => World.cell?_setCell_other _ _ _ _ (by intro e; simp only [Addr.mk.injEq, true_and, and_true] at e; exact hi e.symm)
  have hf : ∀ i, (w.setCell ⟨g, 0, none⟩ (.int .i64 z)).frozen? ⟨g, i, none⟩ = w.frozen? ⟨g, i, none⟩ := fun i => by rw [World.frozen?_setCell]
  exact ⟨by simpa using h.lt, (World.cell?_setCell_same' _ _ _ (by rw [h.c0]; rfl)), (ho 1 (by decide)).trans h.c1, (ho 2 (by decide)).trans h.c2, (ho 3 (by decide)).trans h.c3, (ho 4 (by decide)).trans h.c4, (ho 5 (by decide)).trans h.c5, (ho 6 (by decide)).trans h.c6, (ho 7 (by decide)).trans h.c7, (ho 8 (by decide)).trans h.c8, (hf 0).trans h.f0, (hf 1).trans h.f1, (hf 2).trans h.f2, (hf 3).trans h.f3, (hf 4).trans h.f4, (hf 5).trans h.f5, (hf 6).trans h.f6, (hf 7).trans h.f7, (hf 8).trans h.f8⟩
theorem Blk.set1 (h : Blk w g b) (z : Int) : Blk (w.setCell ⟨g, 1, none⟩ (.int .i64 z)) g ({ b with owner := z }) := by
  have ho : ∀ i, i ≠ 1 → (w.setCell ⟨g, 1, none⟩ (.int .i64 z)).cell? ⟨g, i, none⟩ = w.cell? ⟨g, i, none⟩ := fun i hi => World.cell?_setCell_other _ _ _ _ (by intro e; simp only [Addr.mk.injEq, true_and, and_true] at e; exact hi e.symm)
  have hf : ∀ i, (w.setCell ⟨g, 1, none⟩ (.int .i64 z)).frozen? ⟨g, i, none⟩ = w.frozen? ⟨g, i, none⟩ := fun i => by rw [World.frozen?_setCell]
  exact ⟨by simpa using h.lt, (ho 0 (by decide)).trans h.c0, (World.cell?_setCell_same' _ _ _ (by rw [h.c1]; rfl)), (ho 2 (by decide)).trans h.c2, (ho 3 (by decide)).trans h.c3, (ho 4 (by decide)).trans h.c4, (ho 5 (by decide)).trans h.c5, (ho 6 (by decide)).trans h.c6, (ho 7 (by decide)).trans h.c7, (ho 8 (by decide)).trans h.c8, (hf 0).trans h.f0, (hf 1).trans h.f1, (hf 2).trans h.f2, (hf 3).trans h.f3, (hf 4).trans h.f4, (hf 5).trans h.f5, (hf 6).trans h.f6, (hf 7).trans h.f7, (hf 8).trans h.f8⟩
theorem Blk.set2 (h : Blk w g b) (z : Int) : Blk (w.setCell ⟨g, 2, none⟩ (.int .i64 z)) g ({ b with x := z }) := by
  have ho : ∀ i, i ≠ 2 → (w.setCell ⟨g, 2, none⟩ (.int .i64 z)).cell? ⟨g, i, none⟩ = w.cell? ⟨g, i, none⟩ := fun i hi => World.cell?_setCell_other _ _ _ _ (by intro e; simp only [Addr.mk.injEq, true_and, and_true] at e; exact hi e.symm)
  have hf : ∀ i, (w.setCell ⟨g, 2, none⟩ (.int .i64 z)).frozen? ⟨g, i, none⟩ = w.frozen? ⟨g, i, none⟩ := fun i => by rw [World.frozen?_setCell]
  exact ⟨by simpa using h.lt, (ho 0 (by decide)).trans h.c0, (ho 1 (by decide)).trans h.c1, (World.cell?_setCell_same' _ _ _ (by rw [h.c2]; rfl)), (ho 3 (by decide)).trans h.c3, (ho 4 (by decide)).trans h.c4, (ho 5 (by decide)).trans h.c5, (ho 6 (by decide)).trans h.c6, (ho 7 (by decide)).trans h.c7, (ho 8 (by decide)).trans h.c8, (hf 0).trans h.f0, (hf 1).trans h.f1, (hf 2).trans h.f2, (hf 3).trans h.f3, (hf 4).trans h.f4, (hf 5).trans h.f5, (hf 6).trans h.f6, (hf 7).trans h.f7, (hf 8).trans h.f8⟩
theorem Blk.set3 (h : Blk w g b) (z : Int) : Blk (w.setCell ⟨g, 3, none⟩ (.int .i64 z)) g ({ b with y := z }) := by
  have ho : ∀ i, i ≠ 3 → (w.setCell ⟨g, 3, none⟩ (.int .i64 z)).cell? ⟨g, i, none⟩ = w.cell? ⟨g, i, none⟩ := fun i hi => World.cell?_setCell_other _ _ _ _ (by intro e; simp only [Addr.mk.injEq, true_and, and_true] at e; exact hi e.symm)
  have hf : ∀ i, (w.setCell ⟨g, 3, none⟩ (.int .i64 z)).frozen? ⟨g, i, none⟩ = w.frozen? ⟨g, i, none⟩ := fun i => by rw [World.frozen?_setCell]
  exact ⟨by simpa using h.lt, (ho 0 (by decide)).trans h.c0, (ho 1 (by decide)).trans h.c1, (ho 2 (by decide)).trans h.c2, (World.cell?_setCell_same' _ _ _ (by rw [h.c3]; rfl)), (ho 4 (by decide)).trans h.c4, (ho 5 (by decide)).trans h.c5, (ho 6 (by decide)).trans h.c6, (ho 7 (by decide)).trans h.c7, (ho 8 (by decide)).trans h.c8, (hf 0).trans h.f0, (hf 1).trans h.f1, (hf 2).trans h.f2, (hf 3).trans h.f3, (hf 4).trans h.f4, (hf 5).trans h.f5, (hf 6).trans h.f6, (hf 7).trans h.f7, (hf 8).trans h.f8⟩
theorem Blk.set4 (h : Blk w g b) (z : Int) : Blk (w.setCell ⟨g, 4, none⟩ (.int .i64 z)) g ({ b with vx := z }) := by
  have ho : ∀ i, i ≠ 4 → (w.setCell ⟨g, 4, none⟩ (.int .i64 z)).cell? ⟨g, i, none⟩ = w.cell? ⟨g, i, none⟩ := fun i hi => World.cell?_setCell_other _ _ _ _ (by intro e; simp only [Addr.mk.injEq, true_and, and_true] at e; exact hi e.symm)
  have hf : ∀ i, (w.setCell ⟨g, 4, none⟩ (.int .i64 z)).frozen? ⟨g, i, none⟩ = w.frozen? ⟨g, i, none⟩ := fun i => by rw [World.frozen?_setCell]
  exact ⟨by simpa using h.lt, (ho 0 (by decide)).trans h.c0, (ho 1 (by decide)).trans h.c1, (ho 2 (by decide)).trans h.c2, (ho 3 (by decide)).trans h.c3, (World.cell?_setCell_same' _ _ _ (by rw [h.c4]; rfl)), (ho 5 (by decide)).trans h.c5, (ho 6 (by decide)).trans h.c6, (ho 7 (by decide)).trans h.c7, (ho 8 (by decide)).trans h.c8, (hf 0).trans h.f0, (hf 1).trans h.f1, (hf 2).trans h.f2, (hf 3).trans h.f3, (hf 4).trans h.f4, (hf 5).trans h.f5, (hf 6).trans h.f6, (hf 7).trans h.f7, (hf 8).trans h.f8⟩
theorem Blk.set5 (h : Blk w g b) (z : Int) : Blk (w.setCell ⟨g, 5, none⟩ (.int .i64 z)) g ({ b with vy := z }) := by
  have ho : ∀ i, i ≠ 5 → (w.setCell ⟨g, 5, none⟩ (.int .i64 z)).cell? ⟨g, i, none⟩ = w.cell? ⟨g, i, none⟩ := fun i hi => World.cell?_setCell_other _ _ _ _ (by intro e; simp only [Addr.mk.injEq, true_and, and_true] at e; exact hi e.symm)
  have hf : ∀ i, (w.setCell ⟨g, 5, none⟩ (.int .i64 z)).frozen? ⟨g, i, none⟩ = w.frozen? ⟨g, i, none⟩ := fun i => by rw [World.frozen?_setCell]
  exact ⟨by simpa using h.lt, (ho 0 (by decide)).trans h.c0, (ho 1 (by decide)).trans h.c1, (ho 2 (by decide)).trans h.c2, (ho 3 (by decide)).trans h.c3, (ho 4 (by decide)).trans h.c4, (World.cell?_setCell_same' _ _ _ (by rw [h.c5]; rfl)), (ho 6 (by decide)).trans h.c6, (ho 7 (by decide)).trans h.c7, (ho 8 (by decide)).trans h.c8, (hf 0).trans h.f0, (hf 1).trans h.f1, (hf 2).trans h.f2, (hf 3).trans h.f3, (hf 4).trans h.f4, (hf 5).trans h.f5, (hf 6).trans h.f6, (hf 7).trans h.f7, (hf 8).trans h.f8⟩
theorem Blk.set6 (h : Blk w g b) (z : Int) : Blk (w.setCell ⟨g, 6, none⟩ (.int .i64 z)) g ({ b with aim := z }) := by
  have ho : ∀ i, i ≠ 6 → (w.setCell ⟨g, 6, none⟩ (.int .i64 z)).cell? ⟨g, i, none⟩ = w.cell? ⟨g, i, none⟩ := fun i hi => World.cell?_setCell_other _ _ _ _ (by intro e; simp only [Addr.mk.injEq, true_and, and_true] at e; exact hi e.symm)
  have hf : ∀ i, (w.setCell ⟨g, 6, none⟩ (.int .i64 z)).frozen? ⟨g, i, none⟩ = w.frozen? ⟨g, i, none⟩ := fun i => by rw [World.frozen?_setCell]
  exact ⟨by simpa using h.lt, (ho 0 (by decide)).trans h.c0, (ho 1 (by decide)).trans h.c1, (ho 2 (by decide)).trans h.c2, (ho 3 (by decide)).trans h.c3, (ho 4 (by decide)).trans h.c4, (ho 5 (by decide)).trans h.c5, (World.cell?_setCell_same' _ _ _ (by rw [h.c6]; rfl)), (ho 7 (by decide)).trans h.c7, (ho 8 (by decide)).trans h.c8, (hf 0).trans h.f0, (hf 1).trans h.f1, (hf 2).trans h.f2, (hf 3).trans h.f3, (hf 4).trans h.f4, (hf 5).trans h.f5, (hf 6).trans h.f6, (hf 7).trans h.f7, (hf 8).trans h.f8⟩
theorem Blk.set7 (h : Blk w g b) (z : Int) : Blk (w.setCell ⟨g, 7, none⟩ (.int .i64 z)) g ({ b with life := z }) := by
  have ho : ∀ i, i ≠ 7 → (w.setCell ⟨g, 7, none⟩ (.int .i64 z)).cell? ⟨g, i, none⟩ = w.cell? ⟨g, i, none⟩ := fun i hi => World.cell?_setCell_other _ _ _ _ (by intro e; simp only [Addr.mk.injEq, true_and, and_true] at e; exact hi e.symm)
  have hf : ∀ i, (w.setCell ⟨g, 7, none⟩ (.int .i64 z)).frozen? ⟨g, i, none⟩ = w.frozen? ⟨g, i, none⟩ := fun i => by rw [World.frozen?_setCell]
  exact ⟨by simpa using h.lt, (ho 0 (by decide)).trans h.c0, (ho 1 (by decide)).trans h.c1, (ho 2 (by decide)).trans h.c2, (ho 3 (by decide)).trans h.c3, (ho 4 (by decide)).trans h.c4, (ho 5 (by decide)).trans h.c5, (ho 6 (by decide)).trans h.c6, (World.cell?_setCell_same' _ _ _ (by rw [h.c7]; rfl)), (ho 8 (by decide)).trans h.c8, (hf 0).trans h.f0, (hf 1).trans h.f1, (hf 2).trans h.f2, (hf 3).trans h.f3, (hf 4).trans h.f4, (hf 5).trans h.f5, (hf 6).trans h.f6, (hf 7).trans h.f7, (hf 8).trans h.f8⟩
theorem Blk.set8 (h : Blk w g b) (z : Int) : Blk (w.setCell ⟨g, 8, none⟩ (.int .i64 z)) g ({ b with timer := z }) := by
  have ho : ∀ i, i ≠ 8 → (w.setCell ⟨g, 8, none⟩ (.int .i64 z)).cell? ⟨g, i, none⟩ = w.cell? ⟨g, i, none⟩ := fun i hi => World.cell?_setCell_other _ _ _ _ (by intro e; simp only [Addr.mk.injEq, true_and, and_true] at e; exact hi e.symm)
  have hf : ∀ i, (w.setCell ⟨g, 8, none⟩ (.int .i64 z)).frozen? ⟨g, i, none⟩ = w.frozen? ⟨g, i, none⟩ := fun i => by rw [World.frozen?_setCell]
  exact ⟨by simpa using h.lt, (ho 0 (by decide)).trans h.c0, (ho 1 (by decide)).trans h.c1, (ho 2 (by decide)).trans h.c2, (ho 3 (by decide)).trans h.c3, (ho 4 (by decide)).trans h.c4, (ho 5 (by decide)).trans h.c5, (ho 6 (by decide)).trans h.c6, (ho 7 (by decide)).trans h.c7, (World.cell?_setCell_same' _ _ _ (by rw [h.c8]; rfl)), (hf 0).trans h.f0, (hf 1).trans h.f1, (hf 2).trans h.f2, (hf 3).trans h.f3, (hf 4).trans h.f4, (hf 5).trans h.f5, (hf 6).trans h.f6, (hf 7).trans h.f7, (hf 8).trans h.f8⟩
end
/-- block g holds a world: its rows, tick, seed, scores, bodies -/
structure WBlk (w : World) (g : Nat) (u : Value) (tk sd : Int) (us ub : Value) : Prop where
  lt : g < w.heap.size
  c0 : w.cell? ⟨g, 0, none⟩ = some (u)
  c1 : w.cell? ⟨g, 1, none⟩ = some (.int .i64 tk)
  c2 : w.cell? ⟨g, 2, none⟩ = some (.int .i64 sd)
  c3 : w.cell? ⟨g, 3, none⟩ = some (us)
  c4 : w.cell? ⟨g, 4, none⟩ = some (ub)
  f0 : w.frozen? ⟨g, 0, none⟩ = false
  f1 : w.frozen? ⟨g, 1, none⟩ = false
  f2 : w.frozen? ⟨g, 2, none⟩ = false
  f3 : w.frozen? ⟨g, 3, none⟩ = false
  f4 : w.frozen? ⟨g, 4, none⟩ = false
section
variable {w w' : World} {g : Nat} {u : Value} {tk sd : Int} {us ub : Value}
theorem WBlk.carry (h : WBlk w g u tk sd us ub) (hs : w.heap.size ≤ w'.heap.size) (hb : w'.heap[g]? = w.heap[g]?) : WBlk w' g u tk sd us ub := by
  have hc : ∀ j, w'.cell? ⟨g, j, none⟩ = w.cell? ⟨g, j, none⟩ := fun j => World.cell?_of_block hb
  have hf : ∀ j, w'.frozen? ⟨g, j, none⟩ = w.frozen? ⟨g, j, none⟩ := fun j => World.frozen?_of_block hb
  exact ⟨Nat.lt_of_lt_of_le h.lt hs, (hc 0).trans h.c0, (hc 1).trans h.c1, (hc 2).trans h.c2, (hc 3).trans h.c3, (hc 4).trans h.c4, (hf 0).trans h.f0, (hf 1).trans h.f1, (hf 2).trans h.f2, (hf 3).trans h.f3, (hf 4).trans h.f4⟩
theorem WBlk.below {B : Nat} (h : WBlk w g u tk sd us ub) (hb : Below B w w') (hB : g < B) : WBlk w' g u tk sd us ub := h.carry hb.size (hb.block g hB)
theorem WBlk.alloc (h : WBlk w g u tk sd us ub) (o : Obj) : WBlk (w.alloc o) g u tk sd us ub := h.carry (by simp) (Below.heap_alloc w o g h.lt)
theorem WBlk.drew (h : WBlk w g u tk sd us ub) : WBlk w.drew g u tk sd us ub := h.carry (Nat.le_refl _) rfl
theorem WBlk.drewN (h : WBlk w g u tk sd us ub) (k : Nat) : WBlk (w.drewN k) g u tk sd us ub := h.carry (Nat.le_refl _) rfl
theorem WBlk.grown {row : Option Nat} (h : WBlk w g u tk sd us ub) (hg : w.grownBy w' row) (hne : row ≠ some g) : WBlk w' g u tk sd us ub := h.carry hg.size (hg.block g h.lt (fun e => hne e.symm))
theorem WBlk.other (h : WBlk w g u tk sd us ub) {p : Addr} (hp : p.block ≠ g) (v : Value) : WBlk (w.setCell p v) g u tk sd us ub := h.carry (by simp) (Below.heap_setCell w p v g (fun e => hp e.symm))
theorem WBlk.new (w : World) (t : TypeId) (u : Value) (tk sd : Int) (us ub : Value) : WBlk (w.alloc (.cells #[u, .int .i64 tk, .int .i64 sd, us, ub] t)) w.heap.size u tk sd us ub := by
  have hc : ∀ j, (w.alloc (.cells #[u, .int .i64 tk, .int .i64 sd, us, ub] t)).cell? ⟨w.heap.size, j, none⟩ = #[(u : Value), .int .i64 tk, .int .i64 sd, us, ub][j]? := fun j => World.cell?_alloc_new w _ _ j
  have hf : ∀ j, (w.alloc (.cells #[u, .int .i64 tk, .int .i64 sd, us, ub] t)).frozen? ⟨w.heap.size, j, none⟩ = false := fun j => World.frozen?_alloc_new w _ _ j
  exact ⟨by simp, hc 0, hc 1, hc 2, hc 3, hc 4, hf 0, hf 1, hf 2, hf 3, hf 4⟩
theorem WBlk.set0 (h : WBlk w g u tk sd us ub) (z : Value) : WBlk (w.setCell ⟨g, 0, none⟩ (z)) g z tk sd us ub := by
  have ho : ∀ i, i ≠ 0 → (w.setCell ⟨g, 0, none⟩ (z)).cell? ⟨g, i, none⟩ = w.cell? ⟨g, i, none⟩ := fun i hi => World.cell?_setCell_other _ _ _ _ (by intro e; simp only [Addr.mk.injEq, true_and, and_true] at e; exact hi e.symm)
  have hf : ∀ i, (w.setCell ⟨g, 0, none⟩ (z)).frozen? ⟨g, i, none⟩ = w.frozen? ⟨g, i, none⟩ := fun i => by rw [World.frozen?_setCell]
  exact ⟨by simpa using h.lt, (World.cell?_setCell_same' _ _ _ (by rw [h.c0]; rfl)), (ho 1 (by decide)).trans h.c1, (ho 2 (by decide)).trans h.c2, (ho 3 (by decide)).trans h.c3, (ho 4 (by decide)).trans h.c4, (hf 0).trans h.f0, (hf 1).trans h.f1, (hf 2).trans h.f2, (hf 3).trans h.f3, (hf 4).trans h.f4⟩
theorem WBlk.set1 (h : WBlk w g u tk sd us ub) (z : Int) : WBlk (w.setCell ⟨g, 1, none⟩ (.int .i64 z)) g u z sd us ub := by
  have ho : ∀ i, i ≠ 1 → (w.setCell ⟨g, 1, none⟩ (.int .i64 z)).cell? ⟨g, i, none⟩ = w.cell? ⟨g, i, none⟩ := fun i hi => World.cell?_setCell_other _ _ _ _ (by intro e; simp only [Addr.mk.injEq, true_and, and_true] at e; exact hi e.symm)
  have hf : ∀ i, (w.setCell ⟨g, 1, none⟩ (.int .i64 z)).frozen? ⟨g, i, none⟩ = w.frozen? ⟨g, i, none⟩ := fun i => by rw [World.frozen?_setCell]
  exact ⟨by simpa using h.lt, (ho 0 (by decide)).trans h.c0, (World.cell?_setCell_same' _ _ _ (by rw [h.c1]; rfl)), (ho 2 (by decide)).trans h.c2, (ho 3 (by decide)).trans h.c3, (ho 4 (by decide)).trans h.c4, (hf 0).trans h.f0, (hf 1).trans h.f1, (hf 2).trans h.f2, (hf 3).trans h.f3, (hf 4).trans h.f4⟩
theorem WBlk.set2 (h : WBlk w g u tk sd us ub) (z : Int) : WBlk (w.setCell ⟨g, 2, none⟩ (.int .i64 z)) g u tk z us ub := by
  have ho : ∀ i, i ≠ 2 → (w.setCell ⟨g, 2, none⟩ (.int .i64 z)).cell? ⟨g, i, none⟩ = w.cell? ⟨g, i, none⟩ := fun i hi => World.cell?_setCell_other _ _ _ _ (by intro e; simp only [Addr.mk.injEq, true_and, and_true] at e; exact hi e.symm)
  have hf : ∀ i, (w.setCell ⟨g, 2, none⟩ (.int .i64 z)).frozen? ⟨g, i, none⟩ = w.frozen? ⟨g, i, none⟩ := fun i => by rw [World.frozen?_setCell]
  exact ⟨by simpa using h.lt, (ho 0 (by decide)).trans h.c0, (ho 1 (by decide)).trans h.c1, (World.cell?_setCell_same' _ _ _ (by rw [h.c2]; rfl)), (ho 3 (by decide)).trans h.c3, (ho 4 (by decide)).trans h.c4, (hf 0).trans h.f0, (hf 1).trans h.f1, (hf 2).trans h.f2, (hf 3).trans h.f3, (hf 4).trans h.f4⟩
theorem WBlk.set3 (h : WBlk w g u tk sd us ub) (z : Value) : WBlk (w.setCell ⟨g, 3, none⟩ (z)) g u tk sd z ub := by
  have ho : ∀ i, i ≠ 3 → (w.setCell ⟨g, 3, none⟩ (z)).cell? ⟨g, i, none⟩ = w.cell? ⟨g, i, none⟩ := fun i hi => World.cell?_setCell_other _ _ _ _ (by intro e; simp only [Addr.mk.injEq, true_and, and_true] at e; exact hi e.symm)
  have hf : ∀ i, (w.setCell ⟨g, 3, none⟩ (z)).frozen? ⟨g, i, none⟩ = w.frozen? ⟨g, i, none⟩ := fun i => by rw [World.frozen?_setCell]
  exact ⟨by simpa using h.lt, (ho 0 (by decide)).trans h.c0, (ho 1 (by decide)).trans h.c1, (ho 2 (by decide)).trans h.c2, (World.cell?_setCell_same' _ _ _ (by rw [h.c3]; rfl)), (ho 4 (by decide)).trans h.c4, (hf 0).trans h.f0, (hf 1).trans h.f1, (hf 2).trans h.f2, (hf 3).trans h.f3, (hf 4).trans h.f4⟩
theorem WBlk.set4 (h : WBlk w g u tk sd us ub) (z : Value) : WBlk (w.setCell ⟨g, 4, none⟩ (z)) g u tk sd us z := by
  have ho : ∀ i, i ≠ 4 → (w.setCell ⟨g, 4, none⟩ (z)).cell? ⟨g, i, none⟩ = w.cell? ⟨g, i, none⟩ := fun i hi => World.cell?_setCell_other _ _ _ _ (by intro e; simp only [Addr.mk.injEq, true_and, and_true] at e; exact hi e.symm)
  have hf : ∀ i, (w.setCell ⟨g, 4, none⟩ (z)).frozen? ⟨g, i, none⟩ = w.frozen? ⟨g, i, none⟩ := fun i => by rw [World.frozen?_setCell]
  exact ⟨by simpa using h.lt, (ho 0 (by decide)).trans h.c0, (ho 1 (by decide)).trans h.c1, (ho 2 (by decide)).trans h.c2, (ho 3 (by decide)).trans h.c3, (World.cell?_setCell_same' _ _ _ (by rw [h.c4]; rfl)), (hf 0).trans h.f0, (hf 1).trans h.f1, (hf 2).trans h.f2, (hf 3).trans h.f3, (hf 4).trans h.f4⟩
end
/-- nine stores: a body into a block -/
def put9 (w : World) (g : Nat) (b : Bd) : World := ((((((((w.setCell ⟨g, 0, none⟩ (.int .i64 b.kind)).setCell ⟨g, 1, none⟩ (.int .i64 b.owner)).setCell ⟨g, 2, none⟩ (.int .i64 b.x)).setCell ⟨g, 3, none⟩ (.int .i64 b.y)).setCell ⟨g, 4, none⟩ (.int .i64 b.vx)).setCell ⟨g, 5, none⟩ (.int .i64 b.vy)).setCell ⟨g, 6, none⟩ (.int .i64 b.aim)).setCell ⟨g, 7, none⟩ (.int .i64 b.life)).setCell ⟨g, 8, none⟩ (.int .i64 b.timer)
theorem Blk.put9 {w : World} {g : Nat} {z : Bd} (h : Blk w g z) (b : Bd) : Blk (put9 w g b) g b := ((((((((h.set0 b.kind).set1 b.owner).set2 b.x).set3 b.y).set4 b.vx).set5 b.vy).set6 b.aim).set7 b.life).set8 b.timer
theorem below_put9 {B : Nat} {a w : World} {g : Nat} (h : Below B a w) (hg : B ≤ g) (b : Bd) : Below B a (put9 w g b) := by
  unfold Go.Proofs.YtiopbdodegopdaaDoor.put9
  exact ((((((((h.setCell (p := ⟨g, 0, none⟩) hg _).setCell (p := ⟨g, 1, none⟩) hg _).setCell (p := ⟨g, 2, none⟩) hg _).setCell (p := ⟨g, 3, none⟩) hg _).setCell (p := ⟨g, 4, none⟩) hg _).setCell (p := ⟨g, 5, none⟩) hg _).setCell (p := ⟨g, 6, none⟩) hg _).setCell (p := ⟨g, 7, none⟩) hg _).setCell (p := ⟨g, 8, none⟩) hg _
theorem size_put9 (w : World) (g : Nat) (b : Bd) : (put9 w g b).heap.size = w.heap.size := by unfold Go.Proofs.YtiopbdodegopdaaDoor.put9; simp
theorem put9_eq (w : World) (g : Nat) (b : Bd) : put9 w g b = w.setCells g 0 b.cells := rfl
end Go.Proofs.YtiopbdodegopdaaDoor
