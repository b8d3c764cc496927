/- A world in memory: by value (what is read, what is owned) and behind a pointer. -/
import Derived.Test.YtiopbdodegopdaaDoorMem
namespace Go.Proofs.YtiopbdodegopdaaDoor
open Go.RowKit

def wV (u : Value) (tk sd : Int) (us ub : Value) : Value := .agg #[u, .int .i64 tk, .int .i64 sd, us, ub]
/-- the world's slices are read -/
structure WAt (w : World) (u us ub : Value) (X : Wd) : Prop where
  r : At w 1 u X.rows.length (X.rows.map Value.string)
  s : At w 1 us X.scores.length (X.scores.map (Value.int .i64))
  b : At w 9 ub X.bodies.length (cellsB X.bodies)
def Dj (a b : Value) : Prop := a.ownBlock = none ∨ a.ownBlock ≠ b.ownBlock
theorem Dj.symm {a b : Value} (h : Dj a b) : Dj b a := by
  unfold Dj at *
  cases hb : b.ownBlock with
  | none => exact .inl rfl
  | some k =>
    rcases h with h | h
    · right; rw [h]; simp
    · right; rw [hb] at h; exact fun e => h e.symm
/-- the world's slices are owned, each by itself -/
structure WOwn (w : World) (B : Nat) (u us ub : Value) (X : Wd) : Prop where
  r : Own w B 1 u X.rows.length (X.rows.map Value.string)
  s : Own w B 1 us X.scores.length (X.scores.map (Value.int .i64))
  b : Own w B 9 ub X.bodies.length (cellsB X.bodies)
  rs : Dj u us
  rb : Dj u ub
  sb : Dj us ub
theorem WAt.below {w w' : World} {u us ub : Value} {X : Wd} (h : WAt w u us ub X) (hb : Below w.heap.size w w') : WAt w' u us ub X := ⟨h.r.below hb, h.s.below hb, h.b.below hb⟩
theorem WOwn.at_ {w : World} {B : Nat} {u us ub : Value} {X : Wd} (h : WOwn w B u us ub X) : WAt w u us ub X := ⟨h.r.at_, h.s.at_, h.b.at_⟩
theorem Own.belowS {w w' : World} {base sz : Nat} {v : Value} {n : Nat} {cs : List Value} (h : Own w base sz v n cs) (hb : Below w.heap.size w w') : Own w' base sz v n cs := h.below hb fun g hg => (h.ge g hg).2
theorem WOwn.below {w w' : World} {B : Nat} {u us ub : Value} {X : Wd} (h : WOwn w B u us ub X) (hb : Below w.heap.size w w') : WOwn w' B u us ub X := ⟨h.r.belowS hb, h.s.belowS hb, h.b.belowS hb, h.rs, h.rb, h.sb⟩
theorem WOwn.mono {w : World} {B B' : Nat} {u us ub : Value} {X : Wd} (h : WOwn w B u us ub X) (hB : B' ≤ B) : WOwn w B' u us ub X := ⟨h.r.mono hB, h.s.mono hB, h.b.mono hB, h.rs, h.rb, h.sb⟩
theorem WOwn.drew {w : World} {B : Nat} {u us ub : Value} {X : Wd} (h : WOwn w B u us ub X) : WOwn w.drew B u us ub X := ⟨h.r.drew, h.s.drew, h.b.drew, h.rs, h.rb, h.sb⟩
theorem At.cellB {w : World} {v : Value} {l : List Bd} (h : At w 9 v l.length (cellsB l)) : ∃ ao cap, v = .slice ao l.length cap ∧ (0 < l.length → ∃ g off, ao = some ⟨g, off, none⟩ ∧ g < w.heap.size ∧ ∀ k j, k < l.length → j < 9 → w.cell? ⟨g, off + (k * 9 + j), none⟩ = (bAt l k).cells[j]?) := by
  obtain ⟨_, ao, cap, rfl, hn, _, hc⟩ := h
  refine ⟨ao, cap, rfl, fun h0 => ?_⟩
  obtain ⟨g, off, rfl, hg, hc⟩ := hc (by omega)
  exact ⟨g, off, rfl, hg, fun k j hk hj => by rw [hc _ (by omega), cellsB_at hk hj, bAt_eq hk]⟩
/-- a body that is an element of a slice: its nine cells -/
structure Elem (w : World) (g o : Nat) (b : Bd) : Prop where
  c0 : w.cell? ⟨g, o, none⟩ = some (.int .i64 b.kind)
  c1 : w.cell? ⟨g, o + 1, none⟩ = some (.int .i64 b.owner)
  c2 : w.cell? ⟨g, o + 2, none⟩ = some (.int .i64 b.x)
  c3 : w.cell? ⟨g, o + 3, none⟩ = some (.int .i64 b.y)
  c4 : w.cell? ⟨g, o + 4, none⟩ = some (.int .i64 b.vx)
  c5 : w.cell? ⟨g, o + 5, none⟩ = some (.int .i64 b.vy)
  c6 : w.cell? ⟨g, o + 6, none⟩ = some (.int .i64 b.aim)
  c7 : w.cell? ⟨g, o + 7, none⟩ = some (.int .i64 b.life)
  c8 : w.cell? ⟨g, o + 8, none⟩ = some (.int .i64 b.timer)
theorem elem_mk {w : World} {g off k : Nat} {b : Bd} (h : ∀ j, j < 9 → w.cell? ⟨g, off + (k * 9 + j), none⟩ = b.cells[j]?) : Elem w g (off + k * 9) b :=
  ⟨h 0 (by omega), by rw [Nat.add_assoc]; exact h 1 (by omega), by rw [Nat.add_assoc]; exact h 2 (by omega), by rw [Nat.add_assoc]; exact h 3 (by omega), by rw [Nat.add_assoc]; exact h 4 (by omega), by rw [Nat.add_assoc]; exact h 5 (by omega), by rw [Nat.add_assoc]; exact h 6 (by omega), by rw [Nat.add_assoc]; exact h 7 (by omega), by rw [Nat.add_assoc]; exact h 8 (by omega)⟩
theorem Elem.below {w w' : World} {g o B : Nat} {b : Bd} (h : Elem w g o b) (hb : Below B w w') (hB : g < B) : Elem w' g o b :=
  ⟨(hb.cell hB).trans h.c0, (hb.cell hB).trans h.c1, (hb.cell hB).trans h.c2, (hb.cell hB).trans h.c3, (hb.cell hB).trans h.c4, (hb.cell hB).trans h.c5, (hb.cell hB).trans h.c6, (hb.cell hB).trans h.c7, (hb.cell hB).trans h.c8⟩
theorem Own.elem {w : World} {base n cap g : Nat} {l : List Bd} (h : Own w base 9 (.slice (some ⟨g, 0, none⟩) n cap) n (cellsB l)) {k : Nat} (hk : k < l.length) : Elem w g (k * 9) (bAt l k) := by
  have hl := h.len
  rw [cellsB_len] at hl
  have := elem_mk (w := w) (g := g) (off := 0) (k := k) (b := bAt l k) (fun j hj => by rw [Nat.zero_add, h.cell (by omega), cellsB_at hk hj, bAt_eq hk])
  rwa [Nat.zero_add] at this
/-- a whole element stored -/
theorem setCells_below {B g o : Nat} {vs : List Value} {a w : World} (h : Below B a w) (hg : B ≤ g) : Below B a (w.setCells g o vs) := by
  induction vs generalizing o w with
  | nil => exact h
  | cons v vs ih => exact ih (h.setCell (p := ⟨g, o, none⟩) hg v)
theorem setCells_grown (w : World) (g o : Nat) (vs : List Value) : w.grownBy (w.setCells g o vs) (some g) := by
  have hkb := World.keptBut_setCells g (may := fun p => p.block = g) vs o w (fun _ _ => rfl)
  exact ⟨hkb.1, tape_setCells_ g _ _ w, hkb.2.1, by rw [size_setCells_ g vs o w]; exact Nat.le_refl _, fun i hi hne => hkb.block hi (fun p hp e => hne (by rw [← e, hp]))⟩
theorem Own.storedB {w : World} {base n cap g : Nat} {l : List Bd} (h : Own w base 9 (.slice (some ⟨g, 0, none⟩) n cap) n (cellsB l)) {k : Nat} (hk : k < l.length) (b : Bd) :
    Own (w.setCells g (k * 9) b.cells) base 9 (.slice (some ⟨g, 0, none⟩) n cap) n (cellsB (l.set k b)) ∧ w.grownBy (w.setCells g (k * 9) b.cells) (some g) := by
  refine ⟨?_, setCells_grown w g _ _⟩
  have hl := h.len
  rw [cellsB_len] at hl
  rcases h.val with ⟨h', _⟩ | ⟨g', cap', h', hbg, hg, hn, hm, hc, ht⟩
  · simp at h'
  · simp only [Value.slice.injEq, Option.some.injEq, Addr.mk.injEq, and_true, true_and] at h'
    obtain ⟨rfl, rfl⟩ := h'
    have hb9 := Bd.cells_len b
    have hsome : ∀ j, j < b.cells.length → (w.cell? ⟨g, k * 9 + j, none⟩).isSome = true := fun j hj => (ht _ (by omega)).1
    have hsz : (w.setCells g (k * 9) b.cells).heap.size = w.heap.size := size_setCells_ g _ _ w
    have hout : ∀ j, (j < k * 9 ∨ k * 9 + 9 ≤ j) → (w.setCells g (k * 9) b.cells).cell? ⟨g, j, none⟩ = w.cell? ⟨g, j, none⟩ := fun j hj =>
      World.cell?_setCells_out g _ _ _ _ (fun _ _ => by show j < k * 9 ∨ k * 9 + b.cells.length ≤ j; omega)
    have hin : ∀ j, j < 9 → (w.setCells g (k * 9) b.cells).cell? ⟨g, k * 9 + j, none⟩ = b.cells[j]? := fun j hj => by
      rw [World.cell?_setCells_in g b.cells (k * 9) w hsome j (by omega), List.getElem?_eq_getElem (by omega)]
    refine ⟨by rw [cellsB_len, List.length_set]; exact hl, .inr ⟨g, cap, rfl, hbg, by rw [hsz]; exact hg, hn, hm, fun j hj => ?_, fun j hj => ⟨?_, (World.frozen?_setCells g _ _ _ _).trans (ht j hj).2⟩⟩⟩
    · by_cases hi : k * 9 ≤ j ∧ j < k * 9 + 9
      · obtain ⟨i, rfl⟩ : ∃ i, j = k * 9 + i := ⟨j - k * 9, by omega⟩
        rw [hin i (by omega), cellsB_set_in hk b (by omega)]
      · rw [hout j (by omega), cellsB_set_out b (by omega)]
        exact hc j hj
    · by_cases hi : k * 9 ≤ j ∧ j < k * 9 + 9
      · obtain ⟨i, rfl⟩ : ∃ i, j = k * 9 + i := ⟨j - k * 9, by omega⟩
        rw [hin i (by omega), List.getElem?_eq_getElem (by omega)]; rfl
      · rw [hout j (by omega)]
        exact (ht j hj).1
/-- one field of an element stored -/
theorem Own.storedF {w : World} {base n cap g : Nat} {l : List Bd} (h : Own w base 9 (.slice (some ⟨g, 0, none⟩) n cap) n (cellsB l)) {k j : Nat} (hk : k < l.length) (hj : j < 9) (b : Bd) (u : Value) (hb : b.cells = (bAt l k).cells.set j u) :
    Own (w.setCell ⟨g, k * 9 + j, none⟩ u) base 9 (.slice (some ⟨g, 0, none⟩) n cap) n (cellsB (l.set k b)) ∧ w.grownBy (w.setCell ⟨g, k * 9 + j, none⟩ u) (some g) := by
  have hl := h.len
  rw [cellsB_len] at hl
  have hs := h.stored (k * 9 + j) u (by omega)
  refine ⟨?_, hs.2⟩
  have e : (cellsB l).set (k * 9 + j) u = cellsB (l.set k b) := by
    apply List.ext_getElem?
    intro i
    by_cases hi : k * 9 ≤ i ∧ i < k * 9 + 9
    · obtain ⟨q, rfl⟩ : ∃ q, i = k * 9 + q := ⟨i - k * 9, by omega⟩
      rw [cellsB_set_in hk b (by omega), hb]
      by_cases e : q = j
      · subst e
        rw [List.getElem?_set_self (by rw [cellsB_len]; omega), List.getElem?_set_self (by rw [Bd.cells_len]; exact hj)]
      · rw [List.getElem?_set_ne (by omega), List.getElem?_set_ne (by omega), cellsB_at hk (by omega), bAt_eq hk]
    · rw [cellsB_set_out b (by omega), List.getElem?_set_ne (by omega)]
  rw [← e]
  exact hs.1
/-- behind a pointer -/
structure WHeld (B : Nat) (w : World) (g : Nat) (X : Wd) : Prop where
  ex : ∃ u us ub, WBlk w g u X.tick X.seed us ub ∧ WOwn w B u us ub X ∧ u.ownBlock ≠ some g ∧ us.ownBlock ≠ some g ∧ ub.ownBlock ≠ some g
  ge : B ≤ g
end Go.Proofs.YtiopbdodegopdaaDoor
