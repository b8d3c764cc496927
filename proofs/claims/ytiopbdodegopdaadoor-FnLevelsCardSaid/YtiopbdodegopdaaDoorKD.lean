/- Texts Mem, Wor, Str, Lev, Sti, Sol in one. -/
import Derived.Test.YtiopbdodegopdaaDoorKB
import Derived.Test.YtiopbdodegopdaaDoorKC
import Derived.Deep.RegionWith
import Derived.Handy
import Derived.ChangeSame
import Derived.SliceStrings
import Derived.WalkKit
import Derived.StillTailTactics
import Derived.KernelRfl
import Derived.Lib.Hide
/- A body (nine cells) and a world (five cells) in a block of its own: what is kept, what a store does. -/
namespace Go.Proofs.YtiopbdodegopdaaDoor
open Go.RowKit

/-- old cells and old marks read as before -/
theorem bcell {W w1 : World} (hb : Below W.heap.size W w1) : (∀ b o, b < W.heap.size → w1.cell? ⟨b, o, none⟩ = W.cell? ⟨b, o, none⟩) ∧ (∀ b o, b < W.heap.size → w1.frozen? ⟨b, o, none⟩ = W.frozen? ⟨b, o, none⟩) :=
  ⟨fun b o h => hb.cell (p := ⟨b, o, none⟩) h, fun b o h => hb.frozen (p := ⟨b, o, none⟩) h⟩
theorem grown_below {w w' : World} {row : Option Nat} {B : Nat} (h : w.grownBy w' row) (hB : B ≤ w.heap.size) (hr : ∀ k, row = some k → B ≤ k) : Below B w w' := (Below.refl B w).grown h hB hr
theorem cell_alloc_lt {w : World} {p : Addr} {x : Value} (h : w.cell? p = some x) (o : Obj) (hlt : p.block < w.heap.size) : (w.alloc o).cell? p = some x := (World.cell?_alloc_lt w o p hlt).trans h
theorem below_grown {w w' : World} (row : Option Nat) (h : Below w.heap.size w w') : w.grownBy w' row := ⟨h.os, h.tape, h.output, h.size, fun i hi _ => h.block i hi⟩

/-- block g holds the body b -/
structure Blk (w : World) (g : Nat) (b : Bd) : Prop where
  lt : g < w.heap.size
  c0 : w.cell? ⟨g, 0, none⟩ = some (.int .i64 b.kind)
  c1 : w.cell? ⟨g, 1, none⟩ = some (.int .i64 b.owner)
  c2 : w.cell? ⟨g, 2, none⟩ = some (.int .i64 b.x)
  c3 : w.cell? ⟨g, 3, none⟩ = some (.int .i64 b.y)
  c4 : w.cell? ⟨g, 4, none⟩ = some (.int .i64 b.vx)
  c5 : w.cell? ⟨g, 5, none⟩ = some (.int .i64 b.vy)
  c6 : w.cell? ⟨g, 6, none⟩ = some (.int .i64 b.aim)
  c7 : w.cell? ⟨g, 7, none⟩ = some (.int .i64 b.life)
  c8 : w.cell? ⟨g, 8, none⟩ = some (.int .i64 b.timer)
  f0 : w.frozen? ⟨g, 0, none⟩ = false
  f1 : w.frozen? ⟨g, 1, none⟩ = false
  f2 : w.frozen? ⟨g, 2, none⟩ = false
  f3 : w.frozen? ⟨g, 3, none⟩ = false
  f4 : w.frozen? ⟨g, 4, none⟩ = false
  f5 : w.frozen? ⟨g, 5, none⟩ = false
  f6 : w.frozen? ⟨g, 6, none⟩ = false
  f7 : w.frozen? ⟨g, 7, none⟩ = false
  f8 : w.frozen? ⟨g, 8, none⟩ = false
section
variable {w w' : World} {g : Nat} {b : Bd}
theorem Blk.carry (h : Blk w g b) (hs : w.heap.size ≤ w'.heap.size) (hb : w'.heap[g]? = w.heap[g]?) : Blk w' g b := by
  have hc : ∀ j, w'.cell? ⟨g, j, none⟩ = w.cell? ⟨g, j, none⟩ := fun j => World.cell?_of_block hb
  have hf : ∀ j, w'.frozen? ⟨g, j, none⟩ = w.frozen? ⟨g, j, none⟩ := fun j => World.frozen?_of_block hb
  exact ⟨Nat.lt_of_lt_of_le h.lt hs, (hc 0).trans h.c0, (hc 1).trans h.c1, (hc 2).trans h.c2, (hc 3).trans h.c3, (hc 4).trans h.c4, (hc 5).trans h.c5, (hc 6).trans h.c6, (hc 7).trans h.c7, (hc 8).trans h.c8, (hf 0).trans h.f0, (hf 1).trans h.f1, (hf 2).trans h.f2, (hf 3).trans h.f3, (hf 4).trans h.f4, (hf 5).trans h.f5, (hf 6).trans h.f6, (hf 7).trans h.f7, (hf 8).trans h.f8⟩
theorem Blk.below {B : Nat} (h : Blk w g b) (hb : Below B w w') (hB : g < B) : Blk w' g b := h.carry hb.size (hb.block g hB)
theorem Blk.alloc (h : Blk w g b) (o : Obj) : Blk (w.alloc o) g b := h.carry (by simp) (Below.heap_alloc w o g h.lt)
theorem Blk.drew (h : Blk w g b) : Blk w.drew g b := h.carry (Nat.le_refl _) rfl
theorem Blk.drewN (h : Blk w g b) (k : Nat) : Blk (w.drewN k) g b := h.carry (Nat.le_refl _) rfl
theorem Blk.grown {row : Option Nat} (h : Blk w g b) (hg : w.grownBy w' row) (hne : row ≠ some g) : Blk w' g b := h.carry hg.size (hg.block g h.lt (fun e => hne e.symm))
theorem Blk.other (h : Blk w g b) {p : Addr} (hp : p.block ≠ g) (v : Value) : Blk (w.setCell p v) g b := h.carry (by simp) (Below.heap_setCell w p v g (fun e => hp e.symm))
theorem Blk.new (w : World) (t : TypeId) (b : Bd) : Blk (w.alloc (.cells #[.int .i64 b.kind, .int .i64 b.owner, .int .i64 b.x, .int .i64 b.y, .int .i64 b.vx, .int .i64 b.vy, .int .i64 b.aim, .int .i64 b.life, .int .i64 b.timer] t)) w.heap.size b := by
  have hc : ∀ j, (w.alloc (.cells #[.int .i64 b.kind, .int .i64 b.owner, .int .i64 b.x, .int .i64 b.y, .int .i64 b.vx, .int .i64 b.vy, .int .i64 b.aim, .int .i64 b.life, .int .i64 b.timer] t)).cell? ⟨w.heap.size, j, none⟩ = #[(.int .i64 b.kind : Value), .int .i64 b.owner, .int .i64 b.x, .int .i64 b.y, .int .i64 b.vx, .int .i64 b.vy, .int .i64 b.aim, .int .i64 b.life, .int .i64 b.timer][j]? := fun j => World.cell?_alloc_new w _ _ j
  have hf : ∀ j, (w.alloc (.cells #[.int .i64 b.kind, .int .i64 b.owner, .int .i64 b.x, .int .i64 b.y, .int .i64 b.vx, .int .i64 b.vy, .int .i64 b.aim, .int .i64 b.life, .int .i64 b.timer] t)).frozen? ⟨w.heap.size, j, none⟩ = false := fun j => World.frozen?_alloc_new w _ _ j
  exact ⟨by simp, hc 0, hc 1, hc 2, hc 3, hc 4, hc 5, hc 6, hc 7, hc 8, hf 0, hf 1, hf 2, hf 3, hf 4, hf 5, hf 6, hf 7, hf 8⟩
theorem Blk.set0 (h : Blk w g b) (z : Int) : Blk (w.setCell ⟨g, 0, none⟩ (.int .i64 z)) g ({ b with kind := z }) := by
  have ho : ∀ i, i ≠ 0 → (w.setCell ⟨g, 0, none⟩ (.int .i64 z)).cell? ⟨g, i, none⟩ = w.cell? ⟨g, i, none⟩ := fun i hi => World.cell?_setCell_other _ _ _ _ (by intro e; simp only [Addr.mk.injEq, true_and, and_true] at e; exact hi e.symm)
  have hf : ∀ i, (w.setCell ⟨g, 0, none⟩ (.int .i64 z)).frozen? ⟨g, i, none⟩ = w.frozen? ⟨g, i, none⟩ := fun i => by rw [World.frozen?_setCell]
  exact ⟨by simpa using h.lt, (World.cell?_setCell_same' _ _ _ (by rw [h.c0]; rfl)), (ho 1 (by decide)).trans h.c1, (ho 2 (by decide)).trans h.c2, (ho 3 (by decide)).trans h.c3, (ho 4 (by decide)).trans h.c4, (ho 5 (by decide)).trans h.c5, (ho 6 (by decide)).trans h.c6, (ho 7 (by decide)).trans h.c7, (ho 8 (by decide)).trans h.c8, (hf 0).trans h.f0, (hf 1).trans h.f1, (hf 2).trans h.f2, (hf 3).trans h.f3, (hf 4).trans h.f4, (hf 5).trans h.f5, (hf 6).trans h.f6, (hf 7).trans h.f7, (hf 8).trans h.f8⟩
theorem Blk.set1 (h : Blk w g b) (z : Int) : Blk (w.setCell ⟨g, 1, none⟩ (.int .i64 z)) g ({ b with owner := z }) := by
  have ho : ∀ i, i ≠ 1 → (w.setCell ⟨g, 1, none⟩ (.int .i64 z)).cell? ⟨g, i, none⟩ = w.cell? ⟨g, i, none⟩ := fun i hi => World.cell?_setCell_other _ _ _ _ (by intro e; simp only [Addr.mk.injEq, true_and, and_true] at e; exact hi e.symm)
  have hf : ∀ i, (w.setCell ⟨g, 1, none⟩ (.int .i64 z)).frozen? ⟨g, i, none⟩ = w.frozen? ⟨g, i, none⟩ := fun i => by rw [World.frozen?_setCell]
  exact ⟨by simpa using h.lt, (ho 0 (by decide)).trans h.c0, (World.cell?_setCell_same' _ _ _ (by rw [h.c1]; rfl)), (ho 2 (by decide)).trans h.c2, (ho 3 (by decide)).trans h.c3, (ho 4 (by decide)).trans h.c4, (ho 5 (by decide)).trans h.c5, (ho 6 (by decide)).trans h.c6, (ho 7 (by decide)).trans h.c7, (ho 8 (by decide)).trans h.c8, (hf 0).trans h.f0, (hf 1).trans h.f1, (hf 2).trans h.f2, (hf 3).trans h.f3, (hf 4).trans h.f4, (hf 5).trans h.f5, (hf 6).trans h.f6, (hf 7).trans h.f7, (hf 8).trans h.f8⟩
theorem Blk.set2 (h : Blk w g b) (z : Int) : Blk (w.setCell ⟨g, 2, none⟩ (.int .i64 z)) g ({ b with x := z }) := by
  have ho : ∀ i, i ≠ 2 → (w.setCell ⟨g, 2, none⟩ (.int .i64 z)).cell? ⟨g, i, none⟩ = w.cell? ⟨g, i, none⟩ := fun i hi => World.cell?_setCell_other _ _ _ _ (by intro e; simp only [Addr.mk.injEq, true_and, and_true] at e; exact hi e.symm)
  have hf : ∀ i, (w.setCell ⟨g, 2, none⟩ (.int .i64 z)).frozen? ⟨g, i, none⟩ = w.frozen? ⟨g, i, none⟩ := fun i => by rw [World.frozen?_setCell]
  exact ⟨by simpa using h.lt, (ho 0 (by decide)).trans h.c0, (ho 1 (by decide)).trans h.c1, (World.cell?_setCell_same' _ _ _ (by rw [h.c2]; rfl)), (ho 3 (by decide)).trans h.c3, (ho 4 (by decide)).trans h.c4, (ho 5 (by decide)).trans h.c5, (ho 6 (by decide)).trans h.c6, (ho 7 (by decide)).trans h.c7, (ho 8 (by decide)).trans h.c8, (hf 0).trans h.f0, (hf 1).trans h.f1, (hf 2).trans h.f2, (hf 3).trans h.f3, (hf 4).trans h.f4, (hf 5).trans h.f5, (hf 6).trans h.f6, (hf 7).trans h.f7, (hf 8).trans h.f8⟩
theorem Blk.set3 (h : Blk w g b) (z : Int) : Blk (w.setCell ⟨g, 3, none⟩ (.int .i64 z)) g ({ b with y := z }) := by
  have ho : ∀ i, i ≠ 3 → (w.setCell ⟨g, 3, none⟩ (.int .i64 z)).cell? ⟨g, i, none⟩ = w.cell? ⟨g, i, none⟩ := fun i hi => World.cell?_setCell_other _ _ _ _ (by intro e; simp only [Addr.mk.injEq, true_and, and_true] at e; exact hi e.symm)
  have hf : ∀ i, (w.setCell ⟨g, 3, none⟩ (.int .i64 z)).frozen? ⟨g, i, none⟩ = w.frozen? ⟨g, i, none⟩ := fun i => by rw [World.frozen?_setCell]
  exact ⟨by simpa using h.lt, (ho 0 (by decide)).trans h.c0, (ho 1 (by decide)).trans h.c1, (ho 2 (by decide)).trans h.c2, (World.cell?_setCell_same' _ _ _ (by rw [h.c3]; rfl)), (ho 4 (by decide)).trans h.c4, (ho 5 (by decide)).trans h.c5, (ho 6 (by decide)).trans h.c6, (ho 7 (by decide)).trans h.c7, (ho 8 (by decide)).trans h.c8, (hf 0).trans h.f0, (hf 1).trans h.f1, (hf 2).trans h.f2, (hf 3).trans h.f3, (hf 4).trans h.f4, (hf 5).trans h.f5, (hf 6).trans h.f6, (hf 7).trans h.f7, (hf 8).trans h.f8⟩
theorem Blk.set4 (h : Blk w g b) (z : Int) : Blk (w.setCell ⟨g, 4, none⟩ (.int .i64 z)) g ({ b with vx := z }) := by
  have ho : ∀ i, i ≠ 4 → (w.setCell ⟨g, 4, none⟩ (.int .i64 z)).cell? ⟨g, i, none⟩ = w.cell? ⟨g, i, none⟩ := fun i hi => World.cell?_setCell_other _ _ _ _ (by intro e; simp only [Addr.mk.injEq, true_and, and_true] at e; exact hi e.symm)
  have hf : ∀ i, (w.setCell ⟨g, 4, none⟩ (.int .i64 z)).frozen? ⟨g, i, none⟩ = w.frozen? ⟨g, i, none⟩ := fun i => by rw [World.frozen?_setCell]
  exact ⟨by simpa using h.lt, (ho 0 (by decide)).trans h.c0, (ho 1 (by decide)).trans h.c1, (ho 2 (by decide)).trans h.c2, (ho 3 (by decide)).trans h.c3, (World.cell?_setCell_same' _ _ _ (by rw [h.c4]; rfl)), (ho 5 (by decide)).trans h.c5, (ho 6 (by decide)).trans h.c6, (ho 7 (by decide)).trans h.c7, (ho 8 (by decide)).trans h.c8, (hf 0).trans h.f0, (hf 1).trans h.f1, (hf 2).trans h.f2, (hf 3).trans h.f3, (hf 4).trans h.f4, (hf 5).trans h.f5, (hf 6).trans h.f6, (hf 7).trans h.f7, (hf 8).trans h.f8⟩
theorem Blk.set5 (h : Blk w g b) (z : Int) : Blk (w.setCell ⟨g, 5, none⟩ (.int .i64 z)) g ({ b with vy := z }) := by
  have ho : ∀ i, i ≠ 5 → (w.setCell ⟨g, 5, none⟩ (.int .i64 z)).cell? ⟨g, i, none⟩ = w.cell? ⟨g, i, none⟩ := fun i hi => World.cell?_setCell_other _ _ _ _ (by intro e; simp only [Addr.mk.injEq, true_and, and_true] at e; exact hi e.symm)
  have hf : ∀ i, (w.setCell ⟨g, 5, none⟩ (.int .i64 z)).frozen? ⟨g, i, none⟩ = w.frozen? ⟨g, i, none⟩ := fun i => by rw [World.frozen?_setCell]
  exact ⟨by simpa using h.lt, (ho 0 (by decide)).trans h.c0, (ho 1 (by decide)).trans h.c1, (ho 2 (by decide)).trans h.c2, (ho 3 (by decide)).trans h.c3, (ho 4 (by decide)).trans h.c4, (World.cell?_setCell_same' _ _ _ (by rw [h.c5]; rfl)), (ho 6 (by decide)).trans h.c6, (ho 7 (by decide)).trans h.c7, (ho 8 (by decide)).trans h.c8, (hf 0).trans h.f0, (hf 1).trans h.f1, (hf 2).trans h.f2, (hf 3).trans h.f3, (hf 4).trans h.f4, (hf 5).trans h.f5, (hf 6).trans h.f6, (hf 7).trans h.f7, (hf 8).trans h.f8⟩
theorem Blk.set6 (h : Blk w g b) (z : Int) : Blk (w.setCell ⟨g, 6, none⟩ (.int .i64 z)) g ({ b with aim := z }) := by
  have ho : ∀ i, i ≠ 6 → (w.setCell ⟨g, 6, none⟩ (.int .i64 z)).cell? ⟨g, i, none⟩ = w.cell? ⟨g, i, none⟩ := fun i hi => World.cell?_setCell_other _ _ _ _ (by intro e; simp only [Addr.mk.injEq, true_and, and_true] at e; exact hi e.symm)
  have hf : ∀ i, (w.setCell ⟨g, 6, none⟩ (.int .i64 z)).frozen? ⟨g, i, none⟩ = w.frozen? ⟨g, i, none⟩ := fun i => by rw [World.frozen?_setCell]
  exact ⟨by simpa using h.lt, (ho 0 (by decide)).trans h.c0, (ho 1 (by decide)).trans h.c1, (ho 2 (by decide)).trans h.c2, (ho 3 (by decide)).trans h.c3, (ho 4 (by decide)).trans h.c4, (ho 5 (by decide)).trans h.c5, (World.cell?_setCell_same' _ _ _ (by rw [h.c6]; rfl)), (ho 7 (by decide)).trans h.c7, (ho 8 (by decide)).trans h.c8, (hf 0).trans h.f0, (hf 1).trans h.f1, (hf 2).trans h.f2, (hf 3).trans h.f3, (hf 4).trans h.f4, (hf 5).trans h.f5, (hf 6).trans h.f6, (hf 7).trans h.f7, (hf 8).trans h.f8⟩
theorem Blk.set7 (h : Blk w g b) (z : Int) : Blk (w.setCell ⟨g, 7, none⟩ (.int .i64 z)) g ({ b with life := z }) := by
  have ho : ∀ i, i ≠ 7 → (w.setCell ⟨g, 7, none⟩ (.int .i64 z)).cell? ⟨g, i, none⟩ = w.cell? ⟨g, i, none⟩ := fun i hi => World.cell?_setCell_other _ _ _ _ (by intro e; simp only [Addr.mk.injEq, true_and, and_true] at e; exact hi e.symm)
  have hf : ∀ i, (w.setCell ⟨g, 7, none⟩ (.int .i64 z)).frozen? ⟨g, i, none⟩ = w.frozen? ⟨g, i, none⟩ := fun i => by rw [World.frozen?_setCell]
  exact ⟨by simpa using h.lt, (ho 0 (by decide)).trans h.c0, (ho 1 (by decide)).trans h.c1, (ho 2 (by decide)).trans h.c2, (ho 3 (by decide)).trans h.c3, (ho 4 (by decide)).trans h.c4, (ho 5 (by decide)).trans h.c5, (ho 6 (by decide)).trans h.c6, (World.cell?_setCell_same' _ _ _ (by rw [h.c7]; rfl)), (ho 8 (by decide)).trans h.c8, (hf 0).trans h.f0, (hf 1).trans h.f1, (hf 2).trans h.f2, (hf 3).trans h.f3, (hf 4).trans h.f4, (hf 5).trans h.f5, (hf 6).trans h.f6, (hf 7).trans h.f7, (hf 8).trans h.f8⟩
theorem Blk.set8 (h : Blk w g b) (z : Int) : Blk (w.setCell ⟨g, 8, none⟩ (.int .i64 z)) g ({ b with timer := z }) := by
  have ho : ∀ i, i ≠ 8 → (w.setCell ⟨g, 8, none⟩ (.int .i64 z)).cell? ⟨g, i, none⟩ = w.cell? ⟨g, i, none⟩ := fun i hi => World.cell?_setCell_other _ _ _ _ (by intro e; simp only [Addr.mk.injEq, true_and, and_true] at e; exact hi e.symm)
  have hf : ∀ i, (w.setCell ⟨g, 8, none⟩ (.int .i64 z)).frozen? ⟨g, i, none⟩ = w.frozen? ⟨g, i, none⟩ := fun i => by rw [World.frozen?_setCell]
  exact ⟨by simpa using h.lt, (ho 0 (by decide)).trans h.c0, (ho 1 (by decide)).trans h.c1, (ho 2 (by decide)).trans h.c2, (ho 3 (by decide)).trans h.c3, (ho 4 (by decide)).trans h.c4, (ho 5 (by decide)).trans h.c5, (ho 6 (by decide)).trans h.c6, (ho 7 (by decide)).trans h.c7, (World.cell?_setCell_same' _ _ _ (by rw [h.c8]; rfl)), (hf 0).trans h.f0, (hf 1).trans h.f1, (hf 2).trans h.f2, (hf 3).trans h.f3, (hf 4).trans h.f4, (hf 5).trans h.f5, (hf 6).trans h.f6, (hf 7).trans h.f7, (hf 8).trans h.f8⟩
end
/-- block g holds a world: its rows, tick, seed, scores, bodies -/
structure WBlk (w : World) (g : Nat) (u : Value) (tk sd : Int) (us ub : Value) : Prop where
  lt : g < w.heap.size
  c0 : w.cell? ⟨g, 0, none⟩ = some (u)
  c1 : w.cell? ⟨g, 1, none⟩ = some (.int .i64 tk)
  c2 : w.cell? ⟨g, 2, none⟩ = some (.int .i64 sd)
  c3 : w.cell? ⟨g, 3, none⟩ = some (us)
  c4 : w.cell? ⟨g, 4, none⟩ = some (ub)
  f0 : w.frozen? ⟨g, 0, none⟩ = false
  f1 : w.frozen? ⟨g, 1, none⟩ = false
  f2 : w.frozen? ⟨g, 2, none⟩ = false
  f3 : w.frozen? ⟨g, 3, none⟩ = false
  f4 : w.frozen? ⟨g, 4, none⟩ = false
section
variable {w w' : World} {g : Nat} {u : Value} {tk sd : Int} {us ub : Value}
theorem WBlk.carry (h : WBlk w g u tk sd us ub) (hs : w.heap.size ≤ w'.heap.size) (hb : w'.heap[g]? = w.heap[g]?) : WBlk w' g u tk sd us ub := by
  have hc : ∀ j, w'.cell? ⟨g, j, none⟩ = w.cell? ⟨g, j, none⟩ := fun j => World.cell?_of_block hb
  have hf : ∀ j, w'.frozen? ⟨g, j, none⟩ = w.frozen? ⟨g, j, none⟩ := fun j => World.frozen?_of_block hb
  exact ⟨Nat.lt_of_lt_of_le h.lt hs, (hc 0).trans h.c0, (hc 1).trans h.c1, (hc 2).trans h.c2, (hc 3).trans h.c3, (hc 4).trans h.c4, (hf 0).trans h.f0, (hf 1).trans h.f1, (hf 2).trans h.f2, (hf 3).trans h.f3, (hf 4).trans h.f4⟩
theorem WBlk.below {B : Nat} (h : WBlk w g u tk sd us ub) (hb : Below B w w') (hB : g < B) : WBlk w' g u tk sd us ub := h.carry hb.size (hb.block g hB)
theorem WBlk.alloc (h : WBlk w g u tk sd us ub) (o : Obj) : WBlk (w.alloc o) g u tk sd us ub := h.carry (by simp) (Below.heap_alloc w o g h.lt)
theorem WBlk.drew (h : WBlk w g u tk sd us ub) : WBlk w.drew g u tk sd us ub := h.carry (Nat.le_refl _) rfl
theorem WBlk.drewN (h : WBlk w g u tk sd us ub) (k : Nat) : WBlk (w.drewN k) g u tk sd us ub := h.carry (Nat.le_refl _) rfl
theorem WBlk.grown {row : Option Nat} (h : WBlk w g u tk sd us ub) (hg : w.grownBy w' row) (hne : row ≠ some g) : WBlk w' g u tk sd us ub := h.carry hg.size (hg.block g h.lt (fun e => hne e.symm))
theorem WBlk.other (h : WBlk w g u tk sd us ub) {p : Addr} (hp : p.block ≠ g) (v : Value) : WBlk (w.setCell p v) g u tk sd us ub := h.carry (by simp) (Below.heap_setCell w p v g (fun e => hp e.symm))
theorem WBlk.new (w : World) (t : TypeId) (u : Value) (tk sd : Int) (us ub : Value) : WBlk (w.alloc (.cells #[u, .int .i64 tk, .int .i64 sd, us, ub] t)) w.heap.size u tk sd us ub := by
  have hc : ∀ j, (w.alloc (.cells #[u, .int .i64 tk, .int .i64 sd, us, ub] t)).cell? ⟨w.heap.size, j, none⟩ = #[(u : Value), .int .i64 tk, .int .i64 sd, us, ub][j]? := fun j => World.cell?_alloc_new w _ _ j
  have hf : ∀ j, (w.alloc (.cells #[u, .int .i64 tk, .int .i64 sd, us, ub] t)).frozen? ⟨w.heap.size, j, none⟩ = false := fun j => World.frozen?_alloc_new w _ _ j
  exact ⟨by simp, hc 0, hc 1, hc 2, hc 3, hc 4, hf 0, hf 1, hf 2, hf 3, hf 4⟩
theorem WBlk.set0 (h : WBlk w g u tk sd us ub) (z : Value) : WBlk (w.setCell ⟨g, 0, none⟩ (z)) g z tk sd us ub := by
  have ho : ∀ i, i ≠ 0 → (w.setCell ⟨g, 0, none⟩ (z)).cell? ⟨g, i, none⟩ = w.cell? ⟨g, i, none⟩ := fun i hi => World.cell?_setCell_other _ _ _ _ (by intro e; simp only [Addr.mk.injEq, true_and, and_true] at e; exact hi e.symm)
  have hf : ∀ i, (w.setCell ⟨g, 0, none⟩ (z)).frozen? ⟨g, i, none⟩ = w.frozen? ⟨g, i, none⟩ := fun i => by rw [World.frozen?_setCell]
  exact ⟨by simpa using h.lt, (World.cell?_setCell_same' _ _ _ (by rw [h.c0]; rfl)), (ho 1 (by decide)).trans h.c1, (ho 2 (by decide)).trans h.c2, (ho 3 (by decide)).trans h.c3, (ho 4 (by decide)).trans h.c4, (hf 0).trans h.f0, (hf 1).trans h.f1, (hf 2).trans h.f2, (hf 3).trans h.f3, (hf 4).trans h.f4⟩
theorem WBlk.set1 (h : WBlk w g u tk sd us ub) (z : Int) : WBlk (w.setCell ⟨g, 1, none⟩ (.int .i64 z)) g u z sd us ub := by
  have ho : ∀ i, i ≠ 1 → (w.setCell ⟨g, 1, none⟩ (.int .i64 z)).cell? ⟨g, i, none⟩ = w.cell? ⟨g, i, none⟩ := fun i hi => World.cell?_setCell_other _ _ _ _ (by intro e; simp only [Addr.mk.injEq, true_and, and_true] at e; exact hi e.symm)
  have hf : ∀ i, (w.setCell ⟨g, 1, none⟩ (.int .i64 z)).frozen? ⟨g, i, none⟩ = w.frozen? ⟨g, i, none⟩ := fun i => by rw [World.frozen?_setCell]
  exact ⟨by simpa using h.lt, (ho 0 (by decide)).trans h.c0, (World.cell?_setCell_same' _ _ _ (by rw [h.c1]; rfl)), (ho 2 (by decide)).trans h.c2, (ho 3 (by decide)).trans h.c3, (ho 4 (by decide)).trans h.c4, (hf 0).trans h.f0, (hf 1).trans h.f1, (hf 2).trans h.f2, (hf 3).trans h.f3, (hf 4).trans h.f4⟩
theorem WBlk.set2 (h : WBlk w g u tk sd us ub) (z : Int) : WBlk (w.setCell ⟨g, 2, none⟩ (.int .i64 z)) g u tk z us ub := by
  have ho : ∀ i, i ≠ 2 → (w.setCell ⟨g, 2, none⟩ (.int .i64 z)).cell? ⟨g, i, none⟩ = w.cell? ⟨g, i, none⟩ := fun i hi => World.cell?_setCell_other _ _ _ _ (by intro e; simp only [Addr.mk.injEq, true_and, and_true] at e; exact hi e.symm)
  have hf : ∀ i, (w.setCell ⟨g, 2, none⟩ (.int .i64 z)).frozen? ⟨g, i, none⟩ = w.frozen? ⟨g, i, none⟩ := fun i => by rw [World.frozen?_setCell]
  exact ⟨by simpa using h.lt, (ho 0 (by decide)).trans h.c0, (ho 1 (by decide)).trans h.c1, (World.cell?_setCell_same' _ _ _ (by rw [h.c2]; rfl)), (ho 3 (by decide)).trans h.c3, (ho 4 (by decide)).trans h.c4, (hf 0).trans h.f0, (hf 1).trans h.f1, (hf 2).trans h.f2, (hf 3).trans h.f3, (hf 4).trans h.f4⟩
theorem WBlk.set3 (h : WBlk w g u tk sd us ub) (z : Value) : WBlk (w.setCell ⟨g, 3, none⟩ (z)) g u tk sd z ub := by
  have ho : ∀ i, i ≠ 3 → (w.setCell ⟨g, 3, none⟩ (z)).cell? ⟨g, i, none⟩ = w.cell? ⟨g, i, none⟩ := fun i hi => World.cell?_setCell_other _ _ _ _ (by intro e; simp only [Addr.mk.injEq, true_and, and_true] at e; exact hi e.symm)
  have hf : ∀ i, (w.setCell ⟨g, 3, none⟩ (z)).frozen? ⟨g, i, none⟩ = w.frozen? ⟨g, i, none⟩ := fun i => by rw [World.frozen?_setCell]
  exact ⟨by simpa using h.lt, (ho 0 (by decide)).trans h.c0, (ho 1 (by decide)).trans h.c1, (ho 2 (by decide)).trans h.c2, (World.cell?_setCell_same' _ _ _ (by rw [h.c3]; rfl)), (ho 4 (by decide)).trans h.c4, (hf 0).trans h.f0, (hf 1).trans h.f1, (hf 2).trans h.f2, (hf 3).trans h.f3, (hf 4).trans h.f4⟩
theorem WBlk.set4 (h : WBlk w g u tk sd us ub) (z : Value) : WBlk (w.setCell ⟨g, 4, none⟩ (z)) g u tk sd us z := by
  have ho : ∀ i, i ≠ 4 → (w.setCell ⟨g, 4, none⟩ (z)).cell? ⟨g, i, none⟩ = w.cell? ⟨g, i, none⟩ := fun i hi => World.cell?_setCell_other _ _ _ _ (by intro e; simp only [Addr.mk.injEq, true_and, and_true] at e; exact hi e.symm)
  have hf : ∀ i, (w.setCell ⟨g, 4, none⟩ (z)).frozen? ⟨g, i, none⟩ = w.frozen? ⟨g, i, none⟩ := fun i => by rw [World.frozen?_setCell]
  exact ⟨by simpa using h.lt, (ho 0 (by decide)).trans h.c0, (ho 1 (by decide)).trans h.c1, (ho 2 (by decide)).trans h.c2, (ho 3 (by decide)).trans h.c3, (World.cell?_setCell_same' _ _ _ (by rw [h.c4]; rfl)), (hf 0).trans h.f0, (hf 1).trans h.f1, (hf 2).trans h.f2, (hf 3).trans h.f3, (hf 4).trans h.f4⟩
end
/-- nine stores: a body into a block -/
def put9 (w : World) (g : Nat) (b : Bd) : World := ((((((((w.setCell ⟨g, 0, none⟩ (.int .i64 b.kind)).setCell ⟨g, 1, none⟩ (.int .i64 b.owner)).setCell ⟨g, 2, none⟩ (.int .i64 b.x)).setCell ⟨g, 3, none⟩ (.int .i64 b.y)).setCell ⟨g, 4, none⟩ (.int .i64 b.vx)).setCell ⟨g, 5, none⟩ (.int .i64 b.vy)).setCell ⟨g, 6, none⟩ (.int .i64 b.aim)).setCell ⟨g, 7, none⟩ (.int .i64 b.life)).setCell ⟨g, 8, none⟩ (.int .i64 b.timer)
theorem Blk.put9 {w : World} {g : Nat} {z : Bd} (h : Blk w g z) (b : Bd) : Blk (put9 w g b) g b := ((((((((h.set0 b.kind).set1 b.owner).set2 b.x).set3 b.y).set4 b.vx).set5 b.vy).set6 b.aim).set7 b.life).set8 b.timer
theorem below_put9 {B : Nat} {a w : World} {g : Nat} (h : Below B a w) (hg : B ≤ g) (b : Bd) : Below B a (put9 w g b) := by
  unfold Go.Proofs.YtiopbdodegopdaaDoor.put9
  exact ((((((((h.setCell (p := ⟨g, 0, none⟩) hg _).setCell (p := ⟨g, 1, none⟩) hg _).setCell (p := ⟨g, 2, none⟩) hg _).setCell (p := ⟨g, 3, none⟩) hg _).setCell (p := ⟨g, 4, none⟩) hg _).setCell (p := ⟨g, 5, none⟩) hg _).setCell (p := ⟨g, 6, none⟩) hg _).setCell (p := ⟨g, 7, none⟩) hg _).setCell (p := ⟨g, 8, none⟩) hg _
theorem size_put9 (w : World) (g : Nat) (b : Bd) : (put9 w g b).heap.size = w.heap.size := by unfold Go.Proofs.YtiopbdodegopdaaDoor.put9; simp
theorem put9_eq (w : World) (g : Nat) (b : Bd) : put9 w g b = w.setCells g 0 b.cells := rfl
end Go.Proofs.YtiopbdodegopdaaDoor
/- A world in memory: by value (what is read, what is owned) and behind a pointer. -/
namespace Go.Proofs.YtiopbdodegopdaaDoor
open Go.RowKit

def wV (u : Value) (tk sd : Int) (us ub : Value) : Value := .agg #[u, .int .i64 tk, .int .i64 sd, us, ub]
/-- the world's slices are read -/
structure WAt (w : World) (u us ub : Value) (X : Wd) : Prop where
  r : At w 1 u X.rows.length (X.rows.map Value.string)
  s : At w 1 us X.scores.length (X.scores.map (Value.int .i64))
  b : At w 9 ub X.bodies.length (cellsB X.bodies)
def Dj (a b : Value) : Prop := a.ownBlock = none ∨ a.ownBlock ≠ b.ownBlock
theorem Dj.symm {a b : Value} (h : Dj a b) : Dj b a := by
  unfold Dj at *
  cases hb : b.ownBlock with
  | none => exact .inl rfl
  | some k =>
    rcases h with h | h
    · right; rw [h]; simp
    · right; rw [hb] at h; exact fun e => h e.symm
/-- the world's slices are owned, each by itself -/
structure WOwn (w : World) (B : Nat) (u us ub : Value) (X : Wd) : Prop where
  r : Own w B 1 u X.rows.length (X.rows.map Value.string)
  s : Own w B 1 us X.scores.length (X.scores.map (Value.int .i64))
  b : Own w B 9 ub X.bodies.length (cellsB X.bodies)
  rs : Dj u us
  rb : Dj u ub
  sb : Dj us ub
theorem WAt.below {w w' : World} {u us ub : Value} {X : Wd} (h : WAt w u us ub X) (hb : Below w.heap.size w w') : WAt w' u us ub X := ⟨h.r.below hb, h.s.below hb, h.b.below hb⟩
theorem WOwn.at_ {w : World} {B : Nat} {u us ub : Value} {X : Wd} (h : WOwn w B u us ub X) : WAt w u us ub X := ⟨h.r.at_, h.s.at_, h.b.at_⟩
theorem Own.belowS {w w' : World} {base sz : Nat} {v : Value} {n : Nat} {cs : List Value} (h : Own w base sz v n cs) (hb : Below w.heap.size w w') : Own w' base sz v n cs := h.below hb fun g hg => (h.ge g hg).2
theorem WOwn.below {w w' : World} {B : Nat} {u us ub : Value} {X : Wd} (h : WOwn w B u us ub X) (hb : Below w.heap.size w w') : WOwn w' B u us ub X := ⟨h.r.belowS hb, h.s.belowS hb, h.b.belowS hb, h.rs, h.rb, h.sb⟩
theorem WOwn.mono {w : World} {B B' : Nat} {u us ub : Value} {X : Wd} (h : WOwn w B u us ub X) (hB : B' ≤ B) : WOwn w B' u us ub X := ⟨h.r.mono hB, h.s.mono hB, h.b.mono hB, h.rs, h.rb, h.sb⟩
theorem WOwn.drew {w : World} {B : Nat} {u us ub : Value} {X : Wd} (h : WOwn w B u us ub X) : WOwn w.drew B u us ub X := ⟨h.r.drew, h.s.drew, h.b.drew, h.rs, h.rb, h.sb⟩
theorem At.cellB {w : World} {v : Value} {l : List Bd} (h : At w 9 v l.length (cellsB l)) : ∃ ao cap, v = .slice ao l.length cap ∧ (0 < l.length → ∃ g off, ao = some ⟨g, off, none⟩ ∧ g < w.heap.size ∧ ∀ k j, k < l.length → j < 9 → w.cell? ⟨g, off + (k * 9 + j), none⟩ = (bAt l k).cells[j]?) := by
  obtain ⟨_, ao, cap, rfl, hn, _, hc⟩ := h
  refine ⟨ao, cap, rfl, fun h0 => ?_⟩
  obtain ⟨g, off, rfl, hg, hc⟩ := hc (by omega)
  exact ⟨g, off, rfl, hg, fun k j hk hj => by rw [hc _ (by omega), cellsB_at hk hj, bAt_eq hk]⟩
/-- a body that is an element of a slice: its nine cells -/
structure Elem (w : World) (g o : Nat) (b : Bd) : Prop where
  c0 : w.cell? ⟨g, o, none⟩ = some (.int .i64 b.kind)
  c1 : w.cell? ⟨g, o + 1, none⟩ = some (.int .i64 b.owner)
  c2 : w.cell? ⟨g, o + 2, none⟩ = some (.int .i64 b.x)
  c3 : w.cell? ⟨g, o + 3, none⟩ = some (.int .i64 b.y)
  c4 : w.cell? ⟨g, o + 4, none⟩ = some (.int .i64 b.vx)
  c5 : w.cell? ⟨g, o + 5, none⟩ = some (.int .i64 b.vy)
  c6 : w.cell? ⟨g, o + 6, none⟩ = some (.int .i64 b.aim)
  c7 : w.cell? ⟨g, o + 7, none⟩ = some (.int .i64 b.life)
  c8 : w.cell? ⟨g, o + 8, none⟩ = some (.int .i64 b.timer)
theorem elem_mk {w : World} {g off k : Nat} {b : Bd} (h : ∀ j, j < 9 → w.cell? ⟨g, off + (k * 9 + j), none⟩ = b.cells[j]?) : Elem w g (off + k * 9) b :=
  ⟨h 0 (by omega), by rw [Nat.add_assoc]; exact h 1 (by omega), by rw [Nat.add_assoc]; exact h 2 (by omega), by rw [Nat.add_assoc]; exact h 3 (by omega), by rw [Nat.add_assoc]; exact h 4 (by omega), by rw [Nat.add_assoc]; exact h 5 (by omega), by rw [Nat.add_assoc]; exact h 6 (by omega), by rw [Nat.add_assoc]; exact h 7 (by omega), by rw [Nat.add_assoc]; exact h 8 (by omega)⟩
theorem Elem.below {w w' : World} {g o B : Nat} {b : Bd} (h : Elem w g o b) (hb : Below B w w') (hB : g < B) : Elem w' g o b :=
  ⟨(hb.cell hB).trans h.c0, (hb.cell hB).trans h.c1, (hb.cell hB).trans h.c2, (hb.cell hB).trans h.c3, (hb.cell hB).trans h.c4, (hb.cell hB).trans h.c5, (hb.cell hB).trans h.c6, (hb.cell hB).trans h.c7, (hb.cell hB).trans h.c8⟩
theorem Own.elem {w : World} {base n cap g : Nat} {l : List Bd} (h : Own w base 9 (.slice (some ⟨g, 0, none⟩) n cap) n (cellsB l)) {k : Nat} (hk : k < l.length) : Elem w g (k * 9) (bAt l k) := by
  have hl := h.len
  rw [cellsB_len] at hl
  have := elem_mk (w := w) (g := g) (off := 0) (k := k) (b := bAt l k) (fun j hj => by rw [Nat.zero_add, h.cell (by omega), cellsB_at hk hj, bAt_eq hk])
  rwa [Nat.zero_add] at this
/-- a whole element stored -/
theorem setCells_below {B g o : Nat} {vs : List Value} {a w : World} (h : Below B a w) (hg : B ≤ g) : Below B a (w.setCells g o vs) := by
  induction vs generalizing o w with
  | nil => exact h
  | cons v vs ih => exact ih (h.setCell (p := ⟨g, o, none⟩) hg v)
theorem setCells_grown (w : World) (g o : Nat) (vs : List Value) : w.grownBy (w.setCells g o vs) (some g) := by
  have hkb := World.keptBut_setCells g (may := fun p => p.block = g) vs o w (fun _ _ => rfl)
  exact ⟨hkb.1, tape_setCells_ g _ _ w, hkb.2.1, by rw [size_setCells_ g vs o w]; exact Nat.le_refl _, fun i hi hne => hkb.block hi (fun p hp e => hne (by rw [← e, hp]))⟩
theorem Own.storedB {w : World} {base n cap g : Nat} {l : List Bd} (h : Own w base 9 (.slice (some ⟨g, 0, none⟩) n cap) n (cellsB l)) {k : Nat} (hk : k < l.length) (b : Bd) :
    Own (w.setCells g (k * 9) b.cells) base 9 (.slice (some ⟨g, 0, none⟩) n cap) n (cellsB (l.set k b)) ∧ w.grownBy (w.setCells g (k * 9) b.cells) (some g) := by
  refine ⟨?_, setCells_grown w g _ _⟩
  have hl := h.len
  rw [cellsB_len] at hl
  rcases h.val with ⟨h', _⟩ | ⟨g', cap', h', hbg, hg, hn, hm, hc, ht⟩
  · simp at h'
  · simp only [Value.slice.injEq, Option.some.injEq, Addr.mk.injEq, and_true, true_and] at h'
    obtain ⟨rfl, rfl⟩ := h'
    have hb9 := Bd.cells_len b
    have hsome : ∀ j, j < b.cells.length → (w.cell? ⟨g, k * 9 + j, none⟩).isSome = true := fun j hj => (ht _ (by omega)).1
    have hsz : (w.setCells g (k * 9) b.cells).heap.size = w.heap.size := size_setCells_ g _ _ w
    have hout : ∀ j, (j < k * 9 ∨ k * 9 + 9 ≤ j) → (w.setCells g (k * 9) b.cells).cell? ⟨g, j, none⟩ = w.cell? ⟨g, j, none⟩ := fun j hj =>
      World.cell?_setCells_out g _ _ _ _ (fun _ _ => by show j < k * 9 ∨ k * 9 + b.cells.length ≤ j; omega)
    have hin : ∀ j, j < 9 → (w.setCells g (k * 9) b.cells).cell? ⟨g, k * 9 + j, none⟩ = b.cells[j]? := fun j hj => by
      rw [World.cell?_setCells_in g b.cells (k * 9) w hsome j (by omega), List.getElem?_eq_getElem (by omega)]
    refine ⟨by rw [cellsB_len, List.length_set]; exact hl, .inr ⟨g, cap, rfl, hbg, by rw [hsz]; exact hg, hn, hm, fun j hj => ?_, fun j hj => ⟨?_, (World.frozen?_setCells g _ _ _ _).trans (ht j hj).2⟩⟩⟩
    · by_cases hi : k * 9 ≤ j ∧ j < k * 9 + 9
      · obtain ⟨i, rfl⟩ : ∃ i, j = k * 9 + i := ⟨j - k * 9, by omega⟩
        rw [hin i (by omega), cellsB_set_in hk b (by omega)]
      · rw [hout j (by omega), cellsB_set_out b (by omega)]
        exact hc j hj
    · by_cases hi : k * 9 ≤ j ∧ j < k * 9 + 9
      · obtain ⟨i, rfl⟩ : ∃ i, j = k * 9 + i := ⟨j - k * 9, by omega⟩
        rw [hin i (by omega), List.getElem?_eq_getElem (by omega)]; rfl
      · rw [hout j (by omega)]
        exact (ht j hj).1
/-- one field of an element stored -/
theorem Own.storedF {w : World} {base n cap g : Nat} {l : List Bd} (h : Own w base 9 (.slice (some ⟨g, 0, none⟩) n cap) n (cellsB l)) {k j : Nat} (hk : k < l.length) (hj : j < 9) (b : Bd) (u : Value) (hb : b.cells = (bAt l k).cells.set j u) :
    Own (w.setCell ⟨g, k * 9 + j, none⟩ u) base 9 (.slice (some ⟨g, 0, none⟩) n cap) n (cellsB (l.set k b)) ∧ w.grownBy (w.setCell ⟨g, k * 9 + j, none⟩ u) (some g) := by
  have hl := h.len
  rw [cellsB_len] at hl
  have hs := h.stored (k * 9 + j) u (by omega)
  refine ⟨?_, hs.2⟩
  have e : (cellsB l).set (k * 9 + j) u = cellsB (l.set k b) := by
    apply List.ext_getElem?
    intro i
    by_cases hi : k * 9 ≤ i ∧ i < k * 9 + 9
    · obtain ⟨q, rfl⟩ : ∃ q, i = k * 9 + q := ⟨i - k * 9, by omega⟩
      rw [cellsB_set_in hk b (by omega), hb]
      by_cases e : q = j
      · subst e
        rw [List.getElem?_set_self (by rw [cellsB_len]; omega), List.getElem?_set_self (by rw [Bd.cells_len]; exact hj)]
      · rw [List.getElem?_set_ne (by omega), List.getElem?_set_ne (by omega), cellsB_at hk (by omega), bAt_eq hk]
    · rw [cellsB_set_out b (by omega), List.getElem?_set_ne (by omega)]
  rw [← e]
  exact hs.1
/-- behind a pointer -/
structure WHeld (B : Nat) (w : World) (g : Nat) (X : Wd) : Prop where
  ex : ∃ u us ub, WBlk w g u X.tick X.seed us ub ∧ WOwn w B u us ub X ∧ u.ownBlock ≠ some g ∧ us.ownBlock ≠ some g ∧ ub.ownBlock ≠ some g
  ge : B ≤ g
end Go.Proofs.YtiopbdodegopdaaDoor
/- Slices of strings: appended to, compared (eqStringS), marked (markStringS) and read again (heldStringS). -/
namespace Go.Proofs.YtiopbdodegopdaaDoor
open Go.RowKit

section
variable {ops : Array Oper} {rest : List Oper} {o : Oper} {a : Act} {Q : Exit → Act → World → Prop}
theorem info_str : (Tryd.prog.info? 9).map (fun i => (i.zero, i.size, i.bytes)) = some (some (.string ⟨#[]⟩), 1, 16) := by kernel_rfl
theorem strs_one (l : List ByteArray) : ∀ u ∈ l.map Value.string, u.oneCell' = true := by
  intro u hu
  obtain ⟨_, _, rfl⟩ := List.mem_map.1 hu
  rfl
/-- 'append(out, x)' on a []string: the new element lies in a block that was just laid. -/
theorem app_strs (w : World) (C : Array Value) (hgd : o.guard = none) (s x : Operand) (ho : o.op = .call { callee := .builtin .append, args := #[s, x], argTypes := #[25, 25] }) (base : Nat)
    {v : Value} {n : Nat} {l : List ByteArray} (hown : Own w base 1 v n (l.map Value.string)) (hv : a.eval s = v) (m c : Nat) (news : List ByteArray) (hx : a.eval x = .slice (some ⟨w.heap.size, 0, none⟩) m c) (hC : Hid (C.toList = news.map Value.string)) (hm : m = news.length)
    (hbytes : (n + m) * 16 ≤ 140737488355328) (hbase : base ≤ w.heap.size)
    (hK : ∀ v' w', Own w' base 1 v' (n + m) ((l ++ news).map Value.string) → w.grownBy w' v.ownBlock → wpList Tryd.prog ops Q rest (a.put o.dst v') w') :
    wpList Tryd.prog ops Q (o :: rest) a (w.alloc (.cells C 9 (0, 0))) := by
  obtain ⟨i0, hi, hz0, hz1, hz2⟩ := info_parts info_str
  refine wpList_append_o (P := Tryd.prog) (w.alloc (.cells C 9 (0, 0))) hgd s x 25 25 ho base 9 i0 (.string ⟨#[]⟩) 1 16 Tryd.underlying25 hi hz0 hz1 hz2 rfl hv (hown.alloc _) _ m (news.map Value.string) hx
    (Src.ofSlice (P := Tryd.prog) _ (size := 1) Tryd.underlying25 ⟨w.heap.size, 0, none⟩ m c (news.map Value.string) (by rw [List.length_map, hm, Nat.mul_one]) (fun j u hu => ?_) (strs_one news))
    (by unfold maxLen; omega) (by omega) (by simp; omega) (fun v' w' h1 h2 _ => ?_)
  · rw [Addr.add_lit, Nat.zero_add, World.cell?_alloc_new, ← hu, ← hC.out, Array.getElem?_toList]
  · rw [← List.map_append] at h1
    exact hK v' w' h1 (grownBy_trans (World.grownBy_alloc w _ _) h2)
end
theorem Own.fitS {w : World} {base n : Nat} {v : Value} {l : List ByteArray} (h : Own w base 1 v n (l.map Value.string)) : Own w base 1 v l.length (l.map Value.string) := by
  have e := h.len
  rw [List.length_map, Nat.mul_one] at e
  rw [e]; exact h
theorem Own.fitS2 {w : World} {base n : Nat} {v : Value} {l : List ByteArray} {x : ByteArray} (h : Own w base 1 v n (l.map Value.string ++ [Value.string x])) : Own w base 1 v (l ++ [x]).length ((l ++ [x]).map Value.string) := by
  have h' : Own w base 1 v n ((l ++ [x]).map Value.string) := by simpa using h
  exact h'.fitS
theorem At.cellS {w : World} {v : Value} {l : List ByteArray} (h : At w 1 v l.length (l.map Value.string)) : ∃ ao cap, v = .slice ao l.length cap ∧ (0 < l.length → ∃ g off, ao = some ⟨g, off, none⟩ ∧ g < w.heap.size ∧ ∀ j (hj : j < l.length), w.cell? ⟨g, off + j, none⟩ = some (.string (l[j]'hj))) := by
  obtain ⟨_, ao, cap, rfl, hn, _, hc⟩ := h
  refine ⟨ao, cap, rfl, fun h0 => ?_⟩
  obtain ⟨g, off, rfl, hg, hc⟩ := hc (by omega)
  exact ⟨g, off, rfl, hg, fun j hj => by rw [hc j (by omega), List.getElem?_map, List.getElem?_eq_getElem hj]; rfl⟩
set_option maxHeartbeats 400000 in
theorem eqstrs_ret {va vb : Value} {l : List ByteArray} (w : World) (ha : At w 1 va l.length (l.map Value.string)) (hb : At w 1 vb l.length (l.map Value.string)) (hm : l.length ≤ 1099511627776) :
    Calls Tryd.prog 33 #[va, vb] w fun e w' => e = .returned (.bool true) ∧ ∃ k, w' = w.drewN k := by
  obtain ⟨ao, cap, rfl, hca⟩ := ha.cellS
  obtain ⟨bo, cap2, rfl, hcb⟩ := hb.cellS
  go_enter Tryd.func33, Tryd.ntmps33
  go_wp2
  go_loopw [5] (fun i wr => ∃ k : Nat, k ≤ l.length ∧ i = .int .i64 k ∧ ∃ d, wr = w.drewN d) (fun i _ => l.length - (intOf i).toNat)
  case atStart => exact ⟨0, Nat.zero_le _, rfl, 0, rfl⟩
  case round =>
    obtain ⟨k, hk, rfl, d, rfl⟩ := hrel
    by_cases hlt : k < l.length
    · obtain ⟨g, off, rfl, hg, hcell⟩ := hca (by omega)
      obtain ⟨g2, off2, rfl, hg2, hcell2⟩ := hcb (by omega)
      clear hca hcb
      have c1 := hcell k hlt
      have c2 := hcell2 k hlt
      clear hcell hcell2
      go_wp2
      go_region
      go_wp2
      go_roundw
      case rel => exact ⟨k + 1, by omega, by go_num, d + 1, rfl⟩
      case measure => simp [intOf]; omega
    · go_wp2
      go_ret
      exact ⟨rfl, d, rfl⟩
/-- the marks of strings: markText -/
def mk10 : Nat → Int → ByteArray → ByteArray
  | 0, _, t => t
  | f + 1, m, t => if m ≤ 0 then t else mk10 f (m / 10) (⟨[b8 (48 + m % 10)].toArray⟩ ++ t)
def markV (k : Int) : ByteArray := ⟨#[109]⟩ ++ mk10 8 k ⟨#[]⟩
theorem mk10_0 (f : Nat) (t : ByteArray) : mk10 f 0 t = t := by cases f <;> simp [mk10]
theorem mk10_step {f : Nat} {m : Int} {t : ByteArray} (h : 0 < m) : mk10 (f + 1) m t = mk10 f (m / 10) (⟨[b8 (48 + m % 10)].toArray⟩ ++ t) := by
  simp only [mk10]
  rw [if_neg (by omega)]
theorem lit1' (w : World) (x : Int) (hx : 0 ≤ x ∧ x < 256) :
    At (w.alloc (.cells #[.int .u8 x] 5)) 1 (.slice (some ⟨w.heap.size, 0, none⟩) 1 1) 1 (u8s [b8 x]) := by
  refine (Own.lit (w := w) (C := #[.int .u8 x]) (base := 0) (sz := 1) (n := 1) 5 ?_ rfl (Nat.zero_le _) (by unfold maxLen; omega)).at_
  simp only [u8s, List.map_cons, List.map_nil]
  rw [b8_nat hx.1 hx.2]
set_option maxHeartbeats 1000000 in
theorem marktext_ret (k : Int) (w : World) (h0 : 1 ≤ k) (h1 : k ≤ 9999999) :
    Calls Tryd.prog 45 #[.int .i64 k] w fun e w' => e = .returned (.string (markV k)) ∧ Below w.heap.size w w' := by
  go_enter Tryd.func45, Tryd.ntmps45
  go_wp2_with fail
  go_loopw [0, 3] (fun x v wr => ∃ (f : Nat) (m : Int) (t : ByteArray), x = .int .i64 m ∧ v = .string t ∧ 0 ≤ m ∧ m ≤ 9999999 ∧ Hid (m < 10 ^ f) ∧ Hid (mk10 8 k ⟨#[]⟩ = mk10 f m t) ∧ t.size + f = 8 ∧ Below w.heap.size w wr) (fun x _ _ => (intOf x).toNat)
  case atStart => exact ⟨8, k, ⟨#[]⟩, rfl, rfl, by omega, h1, Lib.hid (by omega), Lib.hid rfl, rfl, Below.refl _ _⟩
  case round =>
    obtain ⟨f, m, t, rfl, rfl, hm0, hm1, HF, HE, hts, hbl⟩ := hrel
    have hsz := hbl.size
    by_cases hm : 0 < m
    · obtain ⟨f', rfl⟩ : ∃ f', f = f' + 1 := by
        cases f with
        | zero => have := HF.out; simp at this; omega
        | succ f => exact ⟨f, rfl⟩
      have HF' : Hid (m / 10 < 10 ^ f') := Lib.hid (by
        have := HF.out
        rw [Int.pow_succ] at this
        exact Int.ediv_lt_of_lt_mul (by omega) this)
      have HE' := Lib.hid (HE.out.trans (mk10_step hm))
      have HA := lit1' wr (48 + m % 10) (by omega)
      have hlen : ((⟨[b8 (48 + m % 10)].toArray⟩ : ByteArray) ++ t).size + f' = 8 := by
        rw [ByteArray.size_append]
        show 1 + t.size + f' = 8
        omega
      go_wp2_with (with_reducible refine str_law (o := ⟨some 13, _, _, _, _, _⟩) _ rfl _ rfl HA rfl ?_)
      go_wp2_with fail
      first
        | (go_roundw
           case rel => exact ⟨f', m / 10, _, rfl, rfl, by omega, by omega, HF', HE', hlen, hbl.alloc hsz _⟩
           case measure => simp [intOf]; omega)
        | exact ⟨⟨f', m / 10, _, rfl, rfl, by omega, by omega, HF', HE', hlen, hbl.alloc hsz _⟩, by simp [intOf]; omega⟩
    · obtain rfl : m = 0 := by omega
      have HV : Hid (markV k = ⟨#[109]⟩ ++ t) := Lib.hid (by unfold markV; rw [HE.out, mk10_0])
      have hs1 : (⟨#[109]⟩ : ByteArray).size + t.size ≤ 9223372036854775807 := by show 1 + t.size ≤ _; omega
      go_wp2_with fail
      go_ret
      exact ⟨by rw [HV.out]; rfl, hbl⟩
def marksS (k0 : Int) (n : Nat) : List ByteArray := (List.range n).map fun (j : Nat) => markV (k0 + (j : Int))
theorem marksS_len (k0 : Int) (n : Nat) : (marksS k0 n).length = n := by simp [marksS]
theorem marksS_at (k0 : Int) {n j : Nat} (h : j < (marksS k0 n).length) : (marksS k0 n)[j]'h = markV (k0 + j) := by simp [marksS]
def markSTo (k0 : Int) (l : List ByteArray) (k : Nat) : List ByteArray := marksS k0 k ++ l.drop k
theorem markSTo_at {k0 : Int} {l : List ByteArray} {k : Nat} (h : k < l.length) : (markSTo k0 l k)[k]? = some (l[k]'h) := by
  unfold markSTo
  rw [List.getElem?_append_right (by rw [marksS_len]; omega), marksS_len, List.getElem?_drop, show k + (k - k) = k by omega, List.getElem?_eq_getElem h]
theorem markSTo_succ {k0 : Int} {l : List ByteArray} {k : Nat} (h : k < l.length) : markSTo k0 l (k + 1) = (markSTo k0 l k).set k (markV (k0 + k)) := by
  unfold markSTo
  rw [List.set_append_right _ _ (by rw [marksS_len]; omega), marksS_len, Nat.sub_self, List.drop_eq_getElem_cons h, List.set_cons_zero]
  simp [marksS, List.range_succ]
theorem markSTo_end (k0 : Int) (l : List ByteArray) : markSTo k0 l l.length = marksS k0 l.length := by simp [markSTo]
set_option maxHeartbeats 800000 in
theorem markstrs_ret {v : Value} {l : List ByteArray} {B : Nat} (w : World) (h : Own w B 1 v l.length (l.map Value.string)) (hm : l.length ≤ 1000000) :
    Calls Tryd.prog 34 #[v, .int .i64 1] w fun e w' => e = .returned (.int .i64 (1 + l.length)) ∧ Own w' B 1 v (marksS 1 l.length).length ((marksS 1 l.length).map Value.string) ∧ w.grownBy w' v.ownBlock := by
  rcases h.val with ⟨rfl, h0l⟩ | ⟨g, cap, rfl, hbg, hg, hn, hcm, hcl, hfr⟩
  · obtain rfl : l = [] := List.eq_nil_of_length_eq_zero h0l
    go_enter Tryd.func34, Tryd.ntmps34
    go_wp2_with fail
    go_loop [1, 5] (fun q i => q = .int .i64 1 ∧ i = .int .i64 0) (fun _ i => 0)
    case atStart => exact ⟨rfl, rfl⟩
    case round =>
      obtain ⟨rfl, rfl⟩ := hrel
      go_wp2_with fail
      go_ret
      exact ⟨ret_int (by simp), h, grownBy_self _ _⟩
  · clear hcl hfr
    go_enter Tryd.func34, Tryd.ntmps34
    go_wp2_with fail
    go_loopw [1, 5] (fun q i wr => ∃ k : Nat, k ≤ l.length ∧ q = .int .i64 (1 + k) ∧ i = .int .i64 k ∧ Own wr B 1 (.slice (some ⟨g, 0, none⟩) l.length cap) l.length ((markSTo 1 l k).map Value.string) ∧ w.grownBy wr (some g)) (fun _ i _ => l.length - (intOf i).toNat)
    case atStart => exact ⟨0, Nat.zero_le _, by simp, rfl, by simpa [markSTo, marksS] using h, grownBy_self _ _⟩
    case round =>
      obtain ⟨k, hk, rfl, rfl, hown, hgr⟩ := hrel
      by_cases hlt : k < l.length
      · have HS := Lib.hid (markSTo_succ (k0 := 1) hlt)
        go_wp2_with fail
        refine (marktext_ret _ _ (by omega) (by omega)).mono ?_
        rintro e wa ⟨rfl, ha⟩
        have hown1 : Own wa B 1 (.slice (some ⟨g, 0, none⟩) l.length cap) l.length ((markSTo 1 l k).map Value.string) := hown.below ha (fun i hi => (hown.ge i hi).2)
        have c2 : wa.cell? ⟨g, k, none⟩ = some (.string (l[k]'hlt)) := by
          rw [hown1.cell (by omega), List.getElem?_map, markSTo_at hlt]
          rfl
        have hf := hown1.free k (by omega)
        have hga : wr.grownBy wa (some g) := ⟨ha.os, ha.tape, ha.output, ha.size, fun i hi _ => ha.block i hi⟩
        go_wp2_with fail
        go_roundw
        case rel =>
          have hst := hown1.stored k (.string (markV (1 + k))) (by omega)
          refine ⟨k + 1, by omega, by go_num, by go_num, ?_, grownBy_trans (grownBy_trans hgr hga) hst.2⟩
          rw [HS.out, List.map_set]
          exact hst.1
        case measure => simp [intOf]; omega
      · obtain rfl : k = l.length := by omega
        go_wp2_with fail
        go_ret
        rw [markSTo_end] at hown
        exact ⟨rfl, by rw [marksS_len]; exact hown, hgr⟩
set_option maxHeartbeats 2000000 in
theorem heldstrs_ret {v : Value} {n : Nat} (w : World) (h : At w 1 v (marksS 1 n).length ((marksS 1 n).map Value.string)) (hm : n ≤ 1000000) :
    Calls Tryd.prog 35 #[v, .int .i64 1] w fun e w' => e = .returned (.int .i64 (1 + n)) ∧ Below w.heap.size w w' := by
  obtain ⟨ao, cap, rfl, hc⟩ := h.cellS
  have hml := marksS_len 1 n
  rw [hml]
  go_enter Tryd.func35, Tryd.ntmps35
  go_wp2_with fail
  go_loopw [1, 5] (fun q i wr => ∃ k : Nat, k ≤ n ∧ q = .int .i64 (1 + k) ∧ i = .int .i64 k ∧ Below w.heap.size w wr) (fun _ i _ => n - (intOf i).toNat)
  case atStart => exact ⟨0, Nat.zero_le _, by simp, rfl, Below.refl _ _⟩
  case round =>
    obtain ⟨k, hk, rfl, rfl, hbl⟩ := hrel
    by_cases hlt : k < n
    · obtain ⟨g, off, rfl, hg, hcell⟩ := hc (by rw [hml]; omega)
      clear hc
      have c0 : w.cell? ⟨g, off + k, none⟩ = some (.string (markV (1 + k))) := (hcell k (by rw [hml]; exact hlt)).trans (by rw [marksS_at])
      have c1 : wr.cell? ⟨g, off + k, none⟩ = some (.string (markV (1 + k))) := (hbl.cell hg).trans c0
      clear hcell hml
      have hblD := hbl.drew
      go_wp2_with fail
      go_region_with ((go_at_call 45; refine (marktext_ret _ _ (by omega) (by omega)).mono ?_; rintro e wa ⟨rfl, ha⟩; have hbla := hblD.trans (ha.mono hblD.size); have c2 := (hbla.cell hg).trans c0))
      all_goals
        go_wp2_with fail
        (try go_simp)
        go_roundw
        case rel => exact ⟨k + 1, by omega, by omega, by omega⟩
        case measure => simp [intOf]; omega
    · obtain rfl : k = n := by omega
      go_wp2_with fail
      go_ret
      exact ⟨rfl, hbl⟩
end Go.Proofs.YtiopbdodegopdaaDoor
/- A level as an argument: one slice of strings; its copy, its measure, its comparison. -/
namespace Go.Proofs.YtiopbdodegopdaaDoor
open Go.RowKit Go.ChangeShapes Go.WideShapes

def ArgStr (w : World) (v : Value) : Prop := ∃ l : List ByteArray, At w 1 v l.length (l.map Value.string) ∧ ∀ s ∈ l, s.size ≤ maxLen
theorem open_strS {P : Program} {t e : TypeId} {H : Type} {enc : TypeId × Value → H} {W : World} {b0 : Nat} {a : Option Addr} {len cap : Nat} {d : DataW H} {ps : List MemPlace}
    (ht : P.underlying t = some (.slice e)) (he : P.underlying e = some .string) (hc : P.cellsOf e = 1) (hd : DataW.Trod enc P W b0 (fun _ => true) true t (.slice a len cap) d ps) : ArgStr W (.slice a len cap) := by
  obtain ⟨fuel, hf⟩ := hd
  rcases open_strings ht he hc hf with ⟨h1, _⟩ | ⟨a', len', cap', zs, h1, _, hlc, hcm, hzl, _, hcell, hwf⟩
  · simp [Value.cells] at h1
    obtain ⟨rfl, rfl, rfl⟩ := h1
    exact ⟨[], ⟨rfl, none, 0, rfl, Nat.le_refl _, Nat.zero_le _, fun h => absurd h (Nat.lt_irrefl _)⟩, fun n h => by simp at h⟩
  · simp [Value.cells] at h1
    obtain ⟨rfl, rfl, rfl⟩ := h1
    simp only [if_true] at hzl
    have hl : (zs.take len).length = len := by rw [List.length_take]; omega
    refine ⟨zs.take len, ⟨by rw [List.length_map, Nat.mul_one], some a', cap, by rw [hl], by omega, hcm, fun h0 => ?_⟩, fun n hn => hwf n (List.mem_of_mem_take hn)⟩
    have c0 := hcell 0 (by omega)
    have hspot : a'.spot = none := World.cell?_spot (a := a') (by simpa [Addr.add] using c0)
    obtain ⟨g, off, spot⟩ := a'
    simp only at hspot
    subst hspot
    refine ⟨g, off, rfl, World.block_lt_of_cell? W ⟨g, off, none⟩ (u := Value.string (zs.getD 0 ByteArray.empty)) (by simpa [Addr.add] using c0), fun j hj => ?_⟩
    have hj' : j < len := by rw [hl] at hj; omega
    have cj := hcell j (by omega)
    have ea : (⟨g, off, none⟩ : Addr).add j = ⟨g, off + j, none⟩ := by unfold Addr.add; split <;> simp_all
    rw [ea] at cj
    rw [cj, List.getElem?_map, List.getElem?_take, if_pos hj', List.getElem?_eq_getElem (by omega)]
    simp [List.getD, List.getElem?_eq_getElem (show j < zs.length by omega)]
def Arg_level (w : World) (v : Value) : Prop := ∃ u, v = .agg #[u] ∧ ArgStr w u
theorem cell_slice {P : Program} {w : World} {r : Reach} {base : Nat} {t e : TypeId} {v : Value} (ht : P.underlying t = some (.slice e)) (h : Cell.okWide P w r base t v) : ∃ a len cap, v = .slice a len cap := by
  simp only [ht, Cell.okWide] at h
  cases v <;> simp_all [Cell.ok]
theorem Own.slice_ {w : World} {base sz : Nat} {v : Value} {n : Nat} {cs : List Value} (h : Own w base sz v n cs) : ∃ ao cap, v = .slice ao n cap := by
  rcases h.val with ⟨rfl, rfl⟩ | ⟨g, cap, rfl, _⟩
  · exact ⟨_, _, rfl⟩
  · exact ⟨_, _, rfl⟩
section
variable {ops : Array Oper} {rest : List Oper} {o : Oper} {a : Act} {Q : Exit → Act → World → Prop}
/-- 'make([]string, n)' -/
theorem make_str (w : World) (hgd : o.guard = none) (l c : Operand) (ho : o.op = Op.makeSlice 25 l c) (base n : Nat) (hl : a.eval l = .int .i64 (n : Int)) (hc : a.eval c = .int .i64 (n : Int)) (hn : n ≤ 1099511627776) (hbase : base ≤ w.heap.size)
    (hK : ∀ w', Own w' base 1 (.slice (some ⟨w.heap.size, 0, none⟩) n n) n ((List.replicate n (⟨#[]⟩ : ByteArray)).map Value.string) → w.grownBy w' none → wpList Tryd.prog ops Q rest (a.put o.dst (.slice (some ⟨w.heap.size, 0, none⟩) n n)) w') :
    wpList Tryd.prog ops Q (o :: rest) a w := by
  obtain ⟨i0, hi, hz0, hz1, hz2⟩ := info_parts info_str
  exact wpList_make_row (P := Tryd.prog) w hgd l c 25 ho 9 i0 (.string ⟨#[]⟩) Tryd.underlying25 hi hz0 hz1 rfl .i64 .i64 n hl hc (by rw [hz2]; omega) (by omega)
    (hK _ (Own.lit 9 ((toList_madeCells_one _ n).trans (by rw [List.map_replicate])) (by simp) hbase (by unfold maxLen; omega)) (World.grownBy_alloc w _ _))
end
def setS (l : List ByteArray) (k : Nat) : List ByteArray := l.take k ++ List.replicate (l.length - k) ⟨#[]⟩
theorem setS_len {l : List ByteArray} {k : Nat} (h : k ≤ l.length) : (setS l k).length = l.length := by unfold setS; rw [List.length_append, List.length_take, List.length_replicate]; omega
theorem setS_0 (l : List ByteArray) : setS l 0 = List.replicate l.length ⟨#[]⟩ := by simp [setS]
theorem setS_end (l : List ByteArray) : setS l l.length = l := by simp [setS]
theorem setS_at {l : List ByteArray} {k : Nat} (h : k < l.length) : (setS l k)[k]? = some ⟨#[]⟩ := by
  unfold setS
  rw [List.getElem?_append_right (by rw [List.length_take]; omega), List.getElem?_replicate, List.length_take, if_pos (by omega)]
theorem setS_succ {l : List ByteArray} {k : Nat} (h : k < l.length) : setS l (k + 1) = (setS l k).set k (l[k]'h) := by
  apply List.ext_getElem?
  intro j
  by_cases e : j = k
  · subst e
    rw [List.getElem?_set_self (by rw [setS_len (by omega)]; exact h)]
    unfold setS
    rw [List.getElem?_append_left (by rw [List.length_take]; omega), List.getElem?_take, if_pos (by omega), List.getElem?_eq_getElem h]
  · rw [List.getElem?_set_ne (Ne.symm e)]
    unfold setS
    by_cases hj : j < k
    · rw [List.getElem?_append_left (by rw [List.length_take]; omega), List.getElem?_append_left (by rw [List.length_take]; omega), List.getElem?_take, List.getElem?_take, if_pos (by omega), if_pos (by omega)]
    · rw [List.getElem?_append_right (by rw [List.length_take]; omega), List.getElem?_append_right (by rw [List.length_take]; omega), List.getElem?_replicate, List.getElem?_replicate, List.length_take, List.length_take]
      by_cases h2 : j < l.length
      · rw [if_pos (by omega), if_pos (by omega)]
      · rw [if_neg (by omega), if_neg (by omega)]
/-- what szStringS leaves of a measure -/
def szGo : List ByteArray → Int → Int
  | [], n => n
  | s :: r, n => if n - (s.size : Int) < 0 then -1 else szGo r (n - s.size)
def szS (l : List ByteArray) (n : Int) : Int := if n - (l.length : Int) < 0 then -1 else szGo l (n - l.length)
theorem szGo_bd : ∀ (l : List ByteArray) (n : Int), 0 ≤ n → szGo l n = -1 ∨ (0 ≤ szGo l n ∧ szGo l n ≤ n ∧ ∀ s ∈ l, (s.size : Int) ≤ n)
  | [], n, h => .inr ⟨h, Int.le_refl _, fun s hs => by simp at hs⟩
  | s :: r, n, h => by
    simp only [szGo]
    by_cases h1 : n - (s.size : Int) < 0
    · rw [if_pos h1]; exact .inl rfl
    · rw [if_neg h1]
      rcases szGo_bd r (n - s.size) (by omega) with h2 | ⟨h2, h3, h4⟩
      · exact .inl h2
      · refine .inr ⟨h2, by omega, fun x hx => ?_⟩
        rcases List.mem_cons.1 hx with rfl | hx
        · omega
        · have := h4 x hx; omega
theorem szS_bd (l : List ByteArray) (n : Int) (_h : 0 ≤ n) : szS l n = -1 ∨ (0 ≤ szS l n ∧ szS l n ≤ n ∧ (l.length : Int) ≤ n ∧ ∀ s ∈ l, (s.size : Int) ≤ n) := by
  unfold szS
  by_cases h1 : n - (l.length : Int) < 0
  · rw [if_pos h1]; exact .inl rfl
  · rw [if_neg h1]
    rcases szGo_bd l (n - l.length) (by omega) with h2 | ⟨h2, h3, h4⟩
    · exact .inl h2
    · exact .inr ⟨h2, by omega, by omega, fun s hs => by have := h4 s hs; omega⟩
theorem szGo_no {l : List ByteArray} {k : Nat} {n : Int} (h : k < l.length) (h1 : n - ((l[k]'h).size : Int) < 0) : szGo (l.drop k) n = -1 := by
  rw [List.drop_eq_getElem_cons h]; simp only [szGo]; rw [if_pos h1]
theorem szGo_more {l : List ByteArray} {k : Nat} {n : Int} (h : k < l.length) (h1 : ¬ n - ((l[k]'h).size : Int) < 0) : szGo (l.drop k) n = szGo (l.drop (k + 1)) (n - (l[k]'h).size) := by
  rw [List.drop_eq_getElem_cons h]; simp only [szGo]; rw [if_neg h1]
theorem eqlevel_ret {u v : Value} {l : List ByteArray} (w : World) (hu : At w 1 u l.length (l.map (Value.string))) (hv : At w 1 v l.length (l.map (Value.string))) (hm : l.length ≤ 1099511627776) :
    Calls Tryd.prog 14 #[.agg #[u], .agg #[v]] w fun e w' => e = .returned (.bool true) ∧ Below w.heap.size w w' := by
  have hu' := hu
  have hv' := hv
  obtain ⟨ao, cap, rfl, hc⟩ := hu.cellS
  obtain ⟨bo, cap2, rfl, hc2⟩ := hv.cellS
  clear hc hc2 hu hv
  have hb : ∀ (A B : Obj), Below w.heap.size w ((w.alloc A).alloc B) := fun A B => ((Below.refl _ _).alloc (Nat.le_refl _) _).alloc (by simp) _
  go_enter Tryd.func14, Tryd.ntmps14
  go_wp2_with fail
  refine (eqstrs_ret _ (hu'.below (hb _ _)) (hv'.below (hb _ _)) hm).mono ?_
  rintro e w1 ⟨rfl, k, rfl⟩
  go_wp2_with fail
  go_ret
  exact ⟨rfl, below_drewN (hb _ _) k⟩
end Go.Proofs.YtiopbdodegopdaaDoor
/- Steps through a region that draws its order and is guarded: the guard's answer by the kernel. -/

namespace Go.Proofs.YtiopbdodegopdaaDoor
open Go.RowKit
section
variable {P : Program} {ops : Array Oper} {w : World}
theorem wpStill_skip {Q : Act → Prop} {a : Act} {o : Oper} {rest : List Oper} (hw : Region.wanted o (yielded ops a.tmps) = false) (h : wpStill P ops w Q rest (a.put o.dst undef)) : wpStill P ops w Q (o :: rest) a := by
  unfold wpStill; rw [hw]; exact h
theorem wpStill_want {Q : Act → Prop} {a : Act} {o : Oper} {rest : List Oper} (hw : Region.wanted o (yielded ops a.tmps) = true)
    (h : ∀ K : Act → Prop, (∀ a, wpStill P ops w Q rest a → K a) → o.still P a w K) : wpStill P ops w Q (o :: rest) a := by
  unfold wpStill; rw [hw]; exact h _ (fun _ h => h)
theorem wp_region_tailV {id : Nat} {Q : Exit → Act → World → Prop} {a : Act} {l : List Oper} (n : Nat) (hm : P.follows .mixedOrders = true) (hB : Region.lexTailB .any l.toArray n = true)
    (h : ∀ OPS : Array Oper, Hid (OPS = l.toArray) → wpStill P OPS { w with drawn := w.drawn + 1 } (fun a' => wpList P l.toArray Q (l.drop n) a' { w with drawn := w.drawn + 1 }) (l.take n) a) : (Code.region id l.toArray true).wp P Q a w :=
  wp_region_still_tail n hm hB (h _ (Lib.hid rfl))
theorem wanted_of {ops : Array Oper} {tmps : Array Value} {o : Oper} {j d : Nat} {b v : Bool} (hg : o.guard = some (j, b)) (hd : (ops[j]?).bind (·.dst) = some d) (ht : tmps[d]? = some (.bool v)) : Region.wanted o (yielded ops tmps) = (v == b) := by
  unfold Region.wanted yielded
  rw [hg]
  simp only [hd, ht, Option.bind_some]
  cases v <;> cases b <;> rfl
theorem wpStill_skipG {Q : Act → Prop} {a : Act} {o : Oper} {rest : List Oper} (j d : Nat) (b v : Bool) (hg : o.guard = some (j, b)) (hd : (ops[j]?).bind (·.dst) = some d) (ht : a.tmps[d]? = some (.bool v)) (hv : (v == b) = false) (hu : a.put o.dst undef = a)
    (h : wpStill P ops w Q rest a) : wpStill P ops w Q (o :: rest) a :=
  wpStill_skip ((wanted_of hg hd ht).trans hv) (by rw [hu]; exact h)
theorem wpStill_wantG {Q : Act → Prop} {a : Act} {o : Oper} {rest : List Oper} (j d : Nat) (b v : Bool) (hg : o.guard = some (j, b)) (hd : (ops[j]?).bind (·.dst) = some d) (ht : a.tmps[d]? = some (.bool v)) (hv : (v == b) = true)
    (h : ∀ K : Act → Prop, (∀ a, wpStill P ops w Q rest a → K a) → o.still P a w K) : wpStill P ops w Q (o :: rest) a :=
  wpStill_want ((wanted_of hg hd ht).trans hv) h
end
end Go.Proofs.YtiopbdodegopdaaDoor
/- Walls: solid, l02Solid, SolidAt. -/
namespace Go.Proofs.YtiopbdodegopdaaDoor
open Go.RowKit

theorem bad_row {l : List ByteArray} {r c : Nat} (h : l.length ≤ r) : bad l r c = true := by unfold bad; rw [decide_eq_true h]; rfl
theorem bad_col {l : List ByteArray} {r c : Nat} (h : (rowAt l r).size ≤ c) : bad l r c = true := by unfold bad; rw [decide_eq_true h]; simp
theorem bad_wall {l : List ByteArray} {r c : Nat} (h : byteAt (rowAt l r) c = 35) : bad l r c = true := by unfold bad; rw [decide_eq_true h]; simp
theorem bad_ok {l : List ByteArray} {r c : Nat} (h1 : r < l.length) (h2 : c < (rowAt l r).size) (h3 : byteAt (rowAt l r) c ≠ 35) : bad l r c = false := by
  unfold bad; rw [decide_eq_false (show ¬ l.length ≤ r by omega), decide_eq_false (show ¬ (rowAt l r).size ≤ c by omega), decide_eq_false h3]; rfl
theorem span_nat {x s : Nat} (h : 1 ≤ s) : spanN (x : Int) (s : Int) = (x + s - 1) / 16 - x / 16 + 1 := by unfold spanN; omega
theorem solT_nat {l : List ByteArray} {x y s : Nat} (hs : 1 ≤ s) (hx : x ≤ 1000) (hy : y ≤ 1000) : solT l (x : Int) (y : Int) (s : Int) = solR l (x / 16) ((x + s - 1) / 16 - x / 16 + 1) ((y + s - 1) / 16 - y / 16 + 1 - 0) (y / 16 + 0) := by
  rw [solT_in (by omega) (by omega) (by omega) (by omega), span_nat hs, span_nat hs, show ((x : Int) / 16).toNat = x / 16 by omega, show ((y : Int) / 16).toNat = y / 16 by omega]
  rfl
theorem solR_more {l : List ByteArray} {c nc n i r0 : Nat} (h : solC l (r0 + i) nc c = false) (hi : i < n) : solR l c nc (n - i) (r0 + i) = solR l c nc (n - (i + 1)) (r0 + (i + 1)) := by
  obtain ⟨m, hm⟩ : ∃ m, n - i = m + 1 := ⟨n - i - 1, by omega⟩
  rw [hm, solR_ok h, show n - (i + 1) = m by omega]
  rfl
theorem solR_hit {l : List ByteArray} {c nc n i r0 : Nat} (h : solC l (r0 + i) nc c = true) (hi : i < n) : solR l c nc (n - i) (r0 + i) = true := by
  obtain ⟨m, hm⟩ : ∃ m, n - i = m + 1 := ⟨n - i - 1, by omega⟩
  rw [hm, solR_bad h]
theorem solC_more {l : List ByteArray} {r n i c0 : Nat} (h : bad l r (c0 + i) = false) (hi : i < n) : solC l r (n - i) (c0 + i) = solC l r (n - (i + 1)) (c0 + (i + 1)) := by
  obtain ⟨m, hm⟩ : ∃ m, n - i = m + 1 := ⟨n - i - 1, by omega⟩
  rw [hm, solC_ok h, show n - (i + 1) = m by omega]
  rfl
theorem solC_hit {l : List ByteArray} {r n i c0 : Nat} (h : bad l r (c0 + i) = true) (hi : i < n) : solC l r (n - i) (c0 + i) = true := by
  obtain ⟨m, hm⟩ : ∃ m, n - i = m + 1 := ⟨n - i - 1, by omega⟩
  rw [hm, solC_bad h]
theorem solC_done {l : List ByteArray} {r n c : Nat} : solC l r (n - n) c = false := by rw [Nat.sub_self]; rfl
theorem solR_done {l : List ByteArray} {c nc n r : Nat} : solR l c nc (n - n) r = false := by rw [Nat.sub_self]; rfl

set_option maxRecDepth 100000 in
set_option maxHeartbeats 8000000 in
theorem solid_impl {u : Value} {l : List ByteArray} (x y size : Int) (w : World) (h : At w 1 u l.length (l.map Value.string)) (hv : lvT l = true) (hs1 : 1 ≤ size) (hs2 : size ≤ 16) (hx1 : -9223372036854775808 ≤ x) (hx2 : x ≤ 9223372036854775807) (hy1 : -9223372036854775808 ≤ y) (hy2 : y ≤ 9223372036854775807) :
    Calls Tryd.prog 40 #[.agg #[u], .int .i64 x, .int .i64 y, .int .i64 size] w fun e w' => e = .returned (.bool (solT l x y size)) ∧ Below w.heap.size w w' := by
  have hl := lvT_lv hv
  obtain ⟨W, hW⟩ : ∃ W, (rowAt l 0).size = W := ⟨_, rfl⟩
  rw [hW] at hl
  have n3 := hl.n3
  have n12 := hl.n12
  have w4 := hl.w4
  have w20 := hl.w20
  obtain ⟨ao, cap, rfl, hc⟩ := h.cellS
  obtain ⟨g, off, rfl, hg, hcell⟩ := hc (by omega)
  clear hc
  have hrow : ∀ r, r < l.length → w.cell? ⟨g, off + r, none⟩ = some (.string (rowAt l r)) := fun r hr => by rw [rowAt_eq hr]; exact hcell r hr
  obtain ⟨row0, hrow0⟩ : ∃ x, rowAt l 0 = x := ⟨_, rfl⟩
  have c00 : w.cell? ⟨g, off, none⟩ = some (.string row0) := by rw [← hrow0]; exact hrow 0 (by omega)
  rw [hrow0] at hW
  have HR := Lib.hid hrow; clear hrow hcell hrow0
  have hb1 : ∀ A : Obj, Below w.heap.size w (w.alloc A) := fun A => (Below.refl _ _).alloc (Nat.le_refl _) _
  by_cases hout : x < 0 ∨ y < 0 ∨ 16 * (W : Int) - size < x ∨ 16 * (l.length : Int) - size < y
  · have HN := Lib.hid (solT_out hl hs1 hs2 hout)
    have hz1 : (row0.size : Int) ≤ 20 := by omega
    have hz2 : 4 ≤ (row0.size : Int) := by omega
    have hout2 : x < 0 ∨ (0 ≤ x ∧ y < 0) ∨ (0 ≤ x ∧ 0 ≤ y ∧ (row0.size : Int) * 16 - size < x) ∨ (0 ≤ x ∧ 0 ≤ y ∧ x ≤ (row0.size : Int) * 16 - size ∧ (l.length : Int) * 16 - size < y) := by omega
    clear hout hW
    rcases hout2 with h1 | ⟨h1, h2⟩ | ⟨h1, h2, h3⟩ | ⟨h1, h2, h3, h4⟩
    all_goals
      go_enter Tryd.func40, Tryd.ntmps40
      go_wp2_with fail
      go_ret
      exact ⟨ret_bool (by rw [HN.out]), hb1 _⟩
  obtain ⟨xn, rfl⟩ := Int.eq_ofNat_of_zero_le (show 0 ≤ x by omega)
  obtain ⟨yn, rfl⟩ := Int.eq_ofNat_of_zero_le (show 0 ≤ y by omega)
  obtain ⟨sn, rfl⟩ := Int.eq_ofNat_of_zero_le (show 0 ≤ size by omega)
  have HS := Lib.hid (solT_nat (l := l) (x := xn) (y := yn) (s := sn) (by omega) (by omega) (by omega))
  have hin1 : (xn : Int) ≤ (row0.size : Int) * 16 - (sn : Int) := by omega
  have hin2 : (yn : Int) ≤ (l.length : Int) * 16 - (sn : Int) := by omega
  have hz1 : (row0.size : Int) ≤ 20 := by omega
  have hx16 : xn + sn ≤ 16 * W := by omega
  have HL := Lib.hid hl
  clear hout hW hl
  go_enter Tryd.func40, Tryd.ntmps40
  go_wp2_with fail
  generalize hw1 : w.alloc _ = w1
  have hbl : Below w.heap.size w w1 := by rw [← hw1]; exact hb1 _
  have c1 : w1.cell? ⟨w.heap.size, 0, none⟩ = some (.slice (some ⟨g, off, none⟩) l.length cap) := by rw [← hw1]; exact World.cell?_alloc_new _ _ _ 0
  clear hw1 hb1 c00
  go_loop [11] (fun r => ∃ i : Nat, i ≤ (yn + sn - 1) / 16 - yn / 16 + 1 ∧ r = .int .i64 ((yn / 16 + i : Nat) : Int) ∧ Hid (solT l (xn : Int) (yn : Int) (sn : Int) = solR l (xn / 16) ((xn + sn - 1) / 16 - xn / 16 + 1) ((yn + sn - 1) / 16 - yn / 16 + 1 - i) (yn / 16 + i))) (fun r => 60 - (intOf r).toNat)
  case atStart => exact ⟨0, Nat.zero_le _, by go_num, HS⟩
  case round =>
    clear HS
    obtain ⟨i, hi, rfl, HS⟩ := hrel
    by_cases hi1 : ¬ i < (yn + sn - 1) / 16 - yn / 16 + 1
    · have HN : Hid (solT l (xn : Int) (yn : Int) (sn : Int) = false) := Lib.hid (HS.out.trans (by rw [show i = (yn + sn - 1) / 16 - yn / 16 + 1 by omega]; exact solR_done))
      have ht : ¬ (((yn / 16 + i : Nat) : Int) ≤ ((yn : Int) + (sn : Int) - 1) / 16) := by omega
      go_wp2_with fail
      go_ret
      exact ⟨ret_bool (by rw [HN.out]), hbl⟩
    have hi2 : i < (yn + sn - 1) / 16 - yn / 16 + 1 := by omega
    have ht : (((yn / 16 + i : Nat) : Int) ≤ ((yn : Int) + (sn : Int) - 1) / 16) := by omega
    clear hi1
    obtain ⟨r, hr⟩ : ∃ r, r = yn / 16 + i := ⟨_, rfl⟩
    have hrl : r < l.length := by omega
    have hr60 : r < 60 := by omega
    rw [← hr] at ht HS
    rw [← hr]
    have HRI := Lib.hid hr; clear hr
    go_wp2_with fail
    go_loop [12] (fun c => ∃ j : Nat, j ≤ (xn + sn - 1) / 16 - xn / 16 + 1 ∧ c = .int .i64 ((xn / 16 + j : Nat) : Int) ∧ Hid (solC l r ((xn + sn - 1) / 16 - xn / 16 + 1) (xn / 16) = solC l r ((xn + sn - 1) / 16 - xn / 16 + 1 - j) (xn / 16 + j))) (fun c => 60 - (intOf c).toNat)
    case atStart => exact ⟨0, Nat.zero_le _, by go_num, Lib.hid rfl⟩
    case round =>
      obtain ⟨j, hj, rfl, HC⟩ := hrel
      by_cases hj1 : ¬ j < (xn + sn - 1) / 16 - xn / 16 + 1
      · have HF : solC l r ((xn + sn - 1) / 16 - xn / 16 + 1) (xn / 16) = false := HC.out.trans (by rw [show j = (xn + sn - 1) / 16 - xn / 16 + 1 by omega]; exact solC_done)
        have HN : Hid (solT l (xn : Int) (yn : Int) (sn : Int) = solR l (xn / 16) ((xn + sn - 1) / 16 - xn / 16 + 1) ((yn + sn - 1) / 16 - yn / 16 + 1 - (i + 1)) (yn / 16 + (i + 1))) := Lib.hid (HS.out.trans (by rw [HRI.out]; exact solR_more (by rw [← HRI.out]; exact HF) hi2))
        have ht2 : ¬ (((xn / 16 + j : Nat) : Int) ≤ ((xn : Int) + (sn : Int) - 1) / 16) := by omega
        clear HF
        go_wp2_with fail
        go_round
        case rel => exact ⟨i + 1, by omega, by rw [HRI.out]; go_num, HN⟩
        case measure => simp [intOf]; omega
      have hj2 : j < (xn + sn - 1) / 16 - xn / 16 + 1 := by omega
      have ht2 : (((xn / 16 + j : Nat) : Int) ≤ ((xn : Int) + (sn : Int) - 1) / 16) := by omega
      clear hj1
      obtain ⟨c, hc⟩ : ∃ c, c = xn / 16 + j := ⟨_, rfl⟩
      have hcW : c < W := by omega
      have hc60 : c < 60 := by omega
      rw [← hc] at ht2 HC
      rw [← hc]
      have HCI := Lib.hid hc; clear hc
      have cr : w1.cell? ⟨g, off + r, none⟩ = some (.string (rowAt l r)) := (hbl.cell hg).trans (HR.out r hrl)
      have hcz : c < (rowAt l r).size := by rw [HL.out.rows r hrl]; exact hcW
      have HB := Lib.hid (byteAt_eq hcz)
      by_cases h35 : (((rowAt l r)[c]'hcz).toNat : Int) = 35
      · have HH : solC l r ((xn + sn - 1) / 16 - xn / 16 + 1) (xn / 16) = true := HC.out.trans (by rw [HCI.out]; exact solC_hit (by rw [← HCI.out]; exact bad_wall (by rw [HB.out]; exact h35)) hj2)
        have HN : Hid (solT l (xn : Int) (yn : Int) (sn : Int) = true) := Lib.hid (HS.out.trans (by rw [HRI.out]; exact solR_hit (by rw [← HRI.out]; exact HH) hi2))
        clear HH
        go_wp2_with fail
        go_ret
        exact ⟨ret_bool (by rw [HN.out]), hbl⟩
      · have HN : Hid (solC l r ((xn + sn - 1) / 16 - xn / 16 + 1) (xn / 16) = solC l r ((xn + sn - 1) / 16 - xn / 16 + 1 - (j + 1)) (xn / 16 + (j + 1))) := Lib.hid (HC.out.trans (by rw [HCI.out]; exact solC_more (by rw [← HCI.out]; exact bad_ok hrl hcz (by rw [HB.out]; exact h35)) hj2))
        have n35 : ((((rowAt l r)[c]'hcz).toNat : Int) == 35) = false := beq_eq_false_iff_ne.2 h35
        clear h35
        go_wp2_with fail
        go_round
        case rel => exact ⟨j + 1, by omega, by rw [HCI.out]; go_num, HN⟩
        case measure => simp [intOf]; omega

set_option maxRecDepth 100000 in
set_option maxHeartbeats 8000000 in
theorem solid_spec {u : Value} {l : List ByteArray} (x y size : Int) (w : World) (h : At w 1 u l.length (l.map Value.string)) (hm : l.length ≤ 1048576) (hz : ∀ s ∈ l, s.size ≤ 1048576) (hs1 : 1 ≤ size) (hs2 : size ≤ 16) :
    Calls Tryd.prog 71 #[.agg #[u], .int .i64 x, .int .i64 y, .int .i64 size] w fun e w' => e = .returned (.bool (solT l x y size)) ∧ Below w.heap.size w w' := by
  obtain ⟨ao, cap, rfl, hc⟩ := h.cellS
  have hb1 : ∀ A : Obj, Below w.heap.size w (w.alloc A) := fun A => (Below.refl _ _).alloc (Nat.le_refl _) _
  have IA : ∀ a wx, Calls Tryd.prog 43 #[.int .i64 a, .int .i64 0, .int .i64 1000] wx fun e w' => e = .returned (.bool (inB a 0 1000)) ∧ wx = w' := fun a wx => in_any a 0 1000 wx
  by_cases hout : x < 0 ∨ 1000 < x ∨ y < 0 ∨ 1000 < y
  · have HN := Lib.hid (solT_neg (l := l) (size := size) hout)
    clear hc
    cases hxb : inB x 0 1000 with
    | false =>
      go_enter Tryd.func71, Tryd.ntmps71
      go_wp2_with fail
      refine (IA _ _).mono ?_
      rintro e wx ⟨rfl, rfl⟩
      rw [hxb]
      go_wp2_with fail
      go_ret
      exact ⟨ret_bool (by rw [HN.out]), hb1 _⟩
    | true =>
      have hyb : inB y 0 1000 = false := inB_no (by rw [inB_iff] at hxb; omega)
      go_enter Tryd.func71, Tryd.ntmps71
      go_wp2_with fail
      refine (IA _ _).mono ?_
      rintro e wx ⟨rfl, rfl⟩
      rw [hxb]
      go_wp2_with fail
      refine (IA _ _).mono ?_
      rintro e wx ⟨rfl, rfl⟩
      rw [hyb]
      go_wp2_with fail
      go_ret
      exact ⟨ret_bool (by rw [HN.out]), hb1 _⟩
  obtain ⟨xn, rfl⟩ := Int.eq_ofNat_of_zero_le (show 0 ≤ x by omega)
  obtain ⟨yn, rfl⟩ := Int.eq_ofNat_of_zero_le (show 0 ≤ y by omega)
  obtain ⟨sn, rfl⟩ := Int.eq_ofNat_of_zero_le (show 0 ≤ size by omega)
  have hx1 : xn ≤ 1000 := by omega
  have hy1 : yn ≤ 1000 := by omega
  have HS := Lib.hid (solT_nat (l := l) (x := xn) (y := yn) (s := sn) (by omega) (by omega) (by omega))
  clear hout
  have HC0 : Hid (∀ r, r < l.length → ∃ g off, ao = some ⟨g, off, none⟩ ∧ g < w.heap.size ∧ w.cell? ⟨g, off + r, none⟩ = some (.string (rowAt l r)) ∧ (rowAt l r).size ≤ 1048576) := Lib.hid fun r hr => by
    obtain ⟨g, off, e, hg, hcell⟩ := hc (by omega)
    exact ⟨g, off, e, hg, by rw [rowAt_eq hr]; exact hcell r hr, by rw [rowAt_eq hr]; exact hz _ (List.getElem_mem hr)⟩
  clear hc hz
  go_enter Tryd.func71, Tryd.ntmps71
  go_wp2_with fail
  refine (in_yes _ _ _ _ (by omega) (by omega)).mono ?_
  rintro e wx ⟨rfl, rfl⟩
  go_wp2_with fail
  refine (in_yes _ _ _ _ (by omega) (by omega)).mono ?_
  rintro e wx ⟨rfl, rfl⟩
  go_wp2_with fail
  generalize hw1 : w.alloc _ = w1
  have hbl : Below w.heap.size w w1 := by rw [← hw1]; exact hb1 _
  have c1 : w1.cell? ⟨w.heap.size, 0, none⟩ = some (.slice ao l.length cap) := by rw [← hw1]; exact World.cell?_alloc_new _ _ _ 0
  clear hw1 hb1
  go_loop [9] (fun r => ∃ i : Nat, i ≤ (yn + sn - 1) / 16 - yn / 16 + 1 ∧ r = .int .i64 ((yn / 16 + i : Nat) : Int) ∧ Hid (solT l (xn : Int) (yn : Int) (sn : Int) = solR l (xn / 16) ((xn + sn - 1) / 16 - xn / 16 + 1) ((yn + sn - 1) / 16 - yn / 16 + 1 - i) (yn / 16 + i))) (fun r => 160 - (intOf r).toNat)
  case atStart => exact ⟨0, Nat.zero_le _, by go_num, HS⟩
  case round =>
    clear HS
    obtain ⟨i, hi, rfl, HS⟩ := hrel
    by_cases hi1 : ¬ i < (yn + sn - 1) / 16 - yn / 16 + 1
    · have HN : Hid (solT l (xn : Int) (yn : Int) (sn : Int) = false) := Lib.hid (HS.out.trans (by rw [show i = (yn + sn - 1) / 16 - yn / 16 + 1 by omega]; exact solR_done))
      have ht : ¬ (((yn / 16 + i : Nat) : Int) ≤ ((yn : Int) + (sn : Int) - 1) / 16) := by omega
      go_wp2_with fail
      go_ret
      exact ⟨ret_bool (by rw [HN.out]), hbl⟩
    have hi2 : i < (yn + sn - 1) / 16 - yn / 16 + 1 := by omega
    have ht : (((yn / 16 + i : Nat) : Int) ≤ ((yn : Int) + (sn : Int) - 1) / 16) := by omega
    clear hi1
    obtain ⟨r, hr⟩ : ∃ r, r = yn / 16 + i := ⟨_, rfl⟩
    have hr60 : r < 160 := by omega
    rw [← hr] at ht HS
    rw [← hr]
    have HRI := Lib.hid hr; clear hr
    go_wp2_with fail
    go_loop [10] (fun c => ∃ j : Nat, j ≤ (xn + sn - 1) / 16 - xn / 16 + 1 ∧ c = .int .i64 ((xn / 16 + j : Nat) : Int) ∧ Hid (solC l r ((xn + sn - 1) / 16 - xn / 16 + 1) (xn / 16) = solC l r ((xn + sn - 1) / 16 - xn / 16 + 1 - j) (xn / 16 + j))) (fun c => 160 - (intOf c).toNat)
    case atStart => exact ⟨0, Nat.zero_le _, by go_num, Lib.hid rfl⟩
    case round =>
      obtain ⟨j, hj, rfl, HC⟩ := hrel
      by_cases hj1 : ¬ j < (xn + sn - 1) / 16 - xn / 16 + 1
      · have HF : solC l r ((xn + sn - 1) / 16 - xn / 16 + 1) (xn / 16) = false := HC.out.trans (by rw [show j = (xn + sn - 1) / 16 - xn / 16 + 1 by omega]; exact solC_done)
        have HN : Hid (solT l (xn : Int) (yn : Int) (sn : Int) = solR l (xn / 16) ((xn + sn - 1) / 16 - xn / 16 + 1) ((yn + sn - 1) / 16 - yn / 16 + 1 - (i + 1)) (yn / 16 + (i + 1))) := Lib.hid (HS.out.trans (by rw [HRI.out]; exact solR_more (by rw [← HRI.out]; exact HF) hi2))
        have ht2 : ¬ (((xn / 16 + j : Nat) : Int) ≤ ((xn : Int) + (sn : Int) - 1) / 16) := by omega
        clear HF
        go_wp2_with fail
        go_round
        case rel => exact ⟨i + 1, by omega, by rw [HRI.out]; go_num, HN⟩
        case measure => simp [intOf]; omega
      have hj2 : j < (xn + sn - 1) / 16 - xn / 16 + 1 := by omega
      have ht2 : (((xn / 16 + j : Nat) : Int) ≤ ((xn : Int) + (sn : Int) - 1) / 16) := by omega
      clear hj1
      obtain ⟨c, hc⟩ : ∃ c, c = xn / 16 + j := ⟨_, rfl⟩
      have hc60 : c < 160 := by omega
      rw [← hc] at ht2 HC
      rw [← hc]
      have HCI := Lib.hid hc; clear hc
      have HHIT : Hid (bad l r c = true → solT l (xn : Int) (yn : Int) (sn : Int) = true) := Lib.hid fun hb => by
        have HH : solC l r ((xn + sn - 1) / 16 - xn / 16 + 1) (xn / 16) = true := HC.out.trans (by rw [HCI.out]; exact solC_hit (by rw [← HCI.out]; exact hb) hj2)
        exact HS.out.trans (by rw [HRI.out]; exact solR_hit (by rw [← HRI.out]; exact HH) hi2)
      by_cases hrl : ¬ r < l.length
      · have HN := Lib.hid (HHIT.out (bad_row (by omega)))
        have hge : (l.length : Int) ≤ (r : Int) := by omega
        clear hrl
        go_wp2_with fail
        go_ret
        exact ⟨ret_bool (by rw [HN.out]), hbl⟩
      have hrl1 : r < l.length := by omega
      clear hrl
      obtain ⟨g, off, rfl, hg, hcl, hsz⟩ := HC0.out r hrl1
      have cr : w1.cell? ⟨g, off + r, none⟩ = some (.string (rowAt l r)) := (hbl.cell hg).trans hcl
      clear hcl
      by_cases hcl : ¬ c < (rowAt l r).size
      · have HN := Lib.hid (HHIT.out (bad_col (by omega)))
        have hge : ((rowAt l r).size : Int) ≤ (c : Int) := by omega
        clear hcl
        go_wp2_with fail
        go_ret
        exact ⟨ret_bool (by rw [HN.out]), hbl⟩
      have hcz : c < (rowAt l r).size := by omega
      clear hcl
      have HB := Lib.hid (byteAt_eq hcz)
      by_cases h35 : (((rowAt l r)[c]'hcz).toNat : Int) = 35
      · have HN := Lib.hid (HHIT.out (bad_wall (by rw [HB.out]; exact h35)))
        go_wp2_with fail
        go_ret
        exact ⟨ret_bool (by rw [HN.out]), hbl⟩
      · have HN : Hid (solC l r ((xn + sn - 1) / 16 - xn / 16 + 1) (xn / 16) = solC l r ((xn + sn - 1) / 16 - xn / 16 + 1 - (j + 1)) (xn / 16 + (j + 1))) := Lib.hid (HC.out.trans (by rw [HCI.out]; exact solC_more (by rw [← HCI.out]; exact bad_ok hrl1 hcz (by rw [HB.out]; exact h35)) hj2))
        have n35 : ((((rowAt l r)[c]'hcz).toNat : Int) == 35) = false := beq_eq_false_iff_ne.2 h35
        clear h35
        go_wp2_with fail
        go_round
        case rel => exact ⟨j + 1, by omega, by rw [HCI.out]; go_num, HN⟩
        case measure => simp [intOf]; omega
end Go.Proofs.YtiopbdodegopdaaDoor
