/- The draws' cursor: what the generators of the reference return, as far as bounds go. -/
import Derived.Test.YtiopbdodegopdaaDoorAt
import Derived.Test.YtiopbdodegopdaaDoorScr
import Derived.BigQuiet
import Derived.Deep.QuietTactic
namespace Go.Proofs.YtiopbdodegopdaaDoor
open Go.RowKit

theorem and_bd (a : Int) (b : Nat) (hb : b < 9223372036854775808) : 0 ≤ bits .and .i64 a (b : Int) ∧ bits .and .i64 a (b : Int) ≤ b := by
  have h2 := ofInt64_nat b hb
  have h : bits .and .i64 a (b : Int) = (((BitVec.ofInt 64 a).toNat &&& b : Nat) : Int) := by
    show IntKind.i64.wrap ((BitVec.ofInt 64 a &&& BitVec.ofInt 64 (b : Int)).toNat : Int) = _
    rw [BitVec.toNat_and, h2]
    exact wrap_i64_nat _ (Nat.lt_of_le_of_lt Nat.and_le_right hb)
  rw [h]
  have := Nat.and_le_right (n := (BitVec.ofInt 64 a).toNat) (m := b)
  omega
theorem wrap64_bd (x : Int) : -9223372036854775808 ≤ wrap64 x ∧ wrap64 x ≤ 9223372036854775807 := by unfold wrap64; omega
/-- The cursor at block g, made since the world W0: a copy of the code's slice v, a place in it, a number. -/
structure Cur (W0 w : World) (g : Nat) (v : Value) (n : Nat) : Prop where
  bl : Below W0.heap.size W0 w
  ge : W0.heap.size ≤ g
  lt : g < w.heap.size
  c0 : w.cell? ⟨g, 0, none⟩ = some v
  c1 : ∃ i : Nat, i ≤ n ∧ w.cell? ⟨g, 1, none⟩ = some (.int .i64 i)
  c2 : ∃ h : Int, -9223372036854775808 ≤ h ∧ h ≤ 9223372036854775807 ∧ w.cell? ⟨g, 2, none⟩ = some (.int .i64 h)
  f1 : w.frozen? ⟨g, 1, none⟩ = false
  f2 : w.frozen? ⟨g, 2, none⟩ = false
theorem Cur.below {W0 w w' : World} {g : Nat} {v : Value} {n : Nat} (h : Cur W0 w g v n) (hb : Below w.heap.size w w') : Cur W0 w' g v n := by
  have hs := h.bl.size
  obtain ⟨i, hi, c1⟩ := h.c1
  obtain ⟨x, h1, h2, c2⟩ := h.c2
  exact ⟨h.bl.trans (hb.mono hs), h.ge, Nat.lt_of_lt_of_le h.lt hb.size, (hb.cell h.lt).trans h.c0, ⟨i, hi, (hb.cell h.lt).trans c1⟩, ⟨x, h1, h2, (hb.cell h.lt).trans c2⟩, (hb.frozen h.lt).trans h.f1, (hb.frozen h.lt).trans h.f2⟩
/-- where g's own block has not turned -/
theorem Cur.grown {W0 w w' : World} {g : Nat} {v : Value} {n : Nat} {row : Option Nat} (h : Cur W0 w g v n) (hg : w.grownBy w' row) (hr : ∀ k, row = some k → W0.heap.size ≤ k ∧ k ≠ g) : Cur W0 w' g v n := by
  have hb := hg.block g h.lt (fun e => (hr g e.symm).2 rfl)
  have hc : ∀ j, w'.cell? ⟨g, j, none⟩ = w.cell? ⟨g, j, none⟩ := fun j => World.cell?_of_block hb
  have hf : ∀ j, w'.frozen? ⟨g, j, none⟩ = w.frozen? ⟨g, j, none⟩ := fun j => World.frozen?_of_block hb
  obtain ⟨i, hi, c1⟩ := h.c1
  obtain ⟨x, h1, h2, c2⟩ := h.c2
  exact ⟨h.bl.grown hg h.bl.size (fun k hk => (hr k hk).1), h.ge, Nat.lt_of_lt_of_le h.lt hg.size, (hc 0).trans h.c0, ⟨i, hi, (hc 1).trans c1⟩, ⟨x, h1, h2, (hc 2).trans c2⟩, (hf 1).trans h.f1, (hf 2).trans h.f2⟩
/-- a store into the cursor -/
theorem Cur.set1 {W0 w : World} {g : Nat} {v : Value} {n : Nat} (h : Cur W0 w g v n) (i : Nat) (hi : i ≤ n) : Cur W0 (w.setCell ⟨g, 1, none⟩ (.int .i64 i)) g v n ∧ w.grownBy (w.setCell ⟨g, 1, none⟩ (.int .i64 i)) (some g) := by
  obtain ⟨j, hj, c1⟩ := h.c1
  obtain ⟨x, h1, h2, c2⟩ := h.c2
  refine ⟨⟨h.bl.setCell h.ge _, h.ge, by simpa using h.lt, ?_, ⟨i, hi, ?_⟩, ⟨x, h1, h2, ?_⟩, by rw [World.frozen?_setCell]; exact h.f1, by rw [World.frozen?_setCell]; exact h.f2⟩, ⟨rfl, rfl, rfl, by simp, fun k hk hne => Below.heap_setCell _ _ _ _ (fun e => hne (by rw [e]))⟩⟩
  · rw [World.cell?_setCell_other (h := by intro e; simp at e)]; exact h.c0
  · exact World.cell?_setCell_same' _ _ _ (by rw [c1]; rfl)
  · rw [World.cell?_setCell_other (h := by intro e; simp at e)]; exact c2
theorem Cur.set2 {W0 w : World} {g : Nat} {v : Value} {n : Nat} (h : Cur W0 w g v n) (x : Int) (h1 : -9223372036854775808 ≤ x) (h2 : x ≤ 9223372036854775807) : Cur W0 (w.setCell ⟨g, 2, none⟩ (.int .i64 x)) g v n ∧ w.grownBy (w.setCell ⟨g, 2, none⟩ (.int .i64 x)) (some g) := by
  obtain ⟨j, hj, c1⟩ := h.c1
  obtain ⟨_, _, _, c2⟩ := h.c2
  refine ⟨⟨h.bl.setCell h.ge _, h.ge, by simpa using h.lt, ?_, ⟨j, hj, ?_⟩, ⟨x, h1, h2, ?_⟩, by rw [World.frozen?_setCell]; exact h.f1, by rw [World.frozen?_setCell]; exact h.f2⟩, ⟨rfl, rfl, rfl, by simp, fun k hk hne => Below.heap_setCell _ _ _ _ (fun e => hne (by rw [e]))⟩⟩
  · rw [World.cell?_setCell_other (h := by intro e; simp at e)]; exact h.c0
  · rw [World.cell?_setCell_other (h := by intro e; simp at e)]; exact c1
  · exact World.cell?_setCell_same' _ _ _ (by rw [c2]; rfl)
theorem Cur.drewN {W0 w : World} {g : Nat} {v : Value} {n : Nat} (h : Cur W0 w g v n) (k : Nat) : Cur W0 (w.drewN k) g v n := ⟨below_drewN h.bl k, h.ge, h.lt, h.c0, h.c1, h.c2, h.f1, h.f2⟩
theorem grown_drewN {a b : World} {row : Option Nat} (h : a.grownBy b row) (k : Nat) : a.grownBy (b.drewN k) row := ⟨h.os, h.tape, h.output, h.size, h.block⟩
/-- what is known of the code -/
structure Code8 (W0 : World) (v : Value) (l : List Int) : Prop where
  hat : At W0 1 v l.length (l.map (Value.int .u8))
  hwf : ∀ n ∈ l, (Lit.int .u8 n).wf = true
  hm : l.length ≤ 1048576
set_option maxHeartbeats 1000000 in
theorem byte_ret {v : Value} {l : List Int} {g : Nat} {W0 : World} (w : World) (hd : Code8 W0 v l) (hc : Cur W0 w g v l.length) :
    Calls Tryd.prog 41 #[.pointer (some ⟨g, 0, none⟩)] w fun e w' => ∃ x : Int, e = .returned (.int .i64 x) ∧ 0 ≤ x ∧ x ≤ 255 ∧ Cur W0 w' g v l.length ∧ w.grownBy w' (some g) := by
  obtain ⟨hat, hwf, hm⟩ := hd
  have hcu := hc
  obtain ⟨hbl, hge, lt, c0, ⟨i, hi, c1⟩, ⟨h, h1, h2, c2⟩, f1, f2⟩ := hc
  obtain ⟨ao, cap, rfl, hcell⟩ := hat.cell
  go_enter Tryd.func41, Tryd.ntmps41
  go_wp2_with fail
  go_quiet (fail)
  go_wp2_with fail
  generalize hX : bits BinOp.and IntKind.i64 _ 255 = X
  have hXb : 0 ≤ X ∧ X ≤ 255 := by rw [← hX]; exact and_bd _ 255 (by decide)
  clear hX
  have hB : ∀ (u : Int) (nq : Nat), Cur W0 ((w.setCell ⟨g, 2, none⟩ (.int .i64 (wrap64 u))).drewN nq) g _ l.length ∧ w.grownBy ((w.setCell ⟨g, 2, none⟩ (.int .i64 (wrap64 u))).drewN nq) (some g) ∧ ((w.setCell ⟨g, 2, none⟩ (.int .i64 (wrap64 u))).drewN nq).cell? ⟨g, 1, none⟩ = some (.int .i64 i) := fun u nq =>
    ⟨(hcu.set2 _ (wrap64_bd u).1 (wrap64_bd u).2).1.drewN nq, grown_drewN (hcu.set2 _ (wrap64_bd u).1 (wrap64_bd u).2).2 nq, by
      have e1 : (w.setCell ⟨g, 2, none⟩ (.int .i64 (wrap64 u))).cell? ⟨g, 1, none⟩ = some (.int .i64 i) := by
        rw [World.cell?_setCell_other (h := by intro e; simp at e)]; exact c1
      exact e1⟩
  generalize hwa : World.drewN (w.setCell _ _) _ = wa
  obtain ⟨hca, hga, c1a⟩ : Cur W0 wa g (.slice ao l.length cap) l.length ∧ w.grownBy wa (some g) ∧ wa.cell? ⟨g, 1, none⟩ = some (.int .i64 i) := by rw [← hwa]; exact hB _ _
  have c0a := hca.c0
  have f1a := hca.f1
  clear hB hwa c0 c1 c2 f1 f2
  by_cases hlt : i < l.length
  · obtain ⟨gc, off, rfl, hgc, hcl⟩ := hcell (by omega)
    have cc : wa.cell? ⟨gc, off + i, none⟩ = some (.int .u8 (l[i]'hlt)) := (hca.bl.cell hgc).trans (hcl i hlt)
    have hb8 := Go.bounds_u8 (hwf _ (List.getElem_mem hlt))
    clear hcell hcl
    go_quiet (fail)
    go_wp2_with fail
    go_quiet (fail)
    go_wp2_with fail
    generalize hY : bits BinOp.and IntKind.i64 _ 255 = Y
    have hYb : 0 ≤ Y ∧ Y ≤ 255 := by rw [← hY]; exact and_bd _ 255 (by decide)
    clear hY
    go_ret
    have hs1 := fun nq => (hca.drewN nq).set1 (i + 1) (by omega)
    refine ⟨Y, rfl, hYb.1, hYb.2, ?_, ?_⟩
    · exact (hs1 _).1
    · exact grownBy_trans (grown_drewN hga _) (hs1 _).2
  · clear hcell
    go_quiet (fail)
    go_wp2_with fail
    go_ret
    exact ⟨X, rfl, hXb.1, hXb.2, hca.drewN _, grown_drewN hga _⟩
theorem grown_new {a b c : World} {g : Nat} {row : Option Nat} (h : a.grownBy b (some g)) (k : b.grownBy c row) (hr : ∀ i, row = some i → i < a.heap.size → i = g) : a.grownBy c (some g) :=
  ⟨k.os.trans h.os, k.tape.trans h.tape, k.output.trans h.output, Nat.le_trans h.size k.size, fun i hi hne => (k.block i (Nat.lt_of_lt_of_le hi h.size) (fun e => hne (by rw [hr i e.symm hi]))).trans (h.block i hi hne)⟩
set_option maxRecDepth 100000 in
set_option maxHeartbeats 1000000 in
theorem new_ret {v : Value} {l : List Int} (w : World) (hd : Code8 w v l) :
    Calls Tryd.prog 25 #[v] w fun e w' => ∃ g, e = .returned (.pointer (some ⟨g, 0, none⟩)) ∧ Cur w w' g v l.length := by
  obtain ⟨hat, hwf, hm⟩ := hd
  obtain ⟨ao, cap, rfl, hcell⟩ := hat.cell
  go_enter Tryd.func25, Tryd.ntmps25
  go_wp2_with fail
  go_loop [3, 4] (fun h i => ∃ (k : Nat) (x : Int), k ≤ l.length ∧ i = .int .i64 k ∧ h = .int .i64 x ∧ 0 ≤ x ∧ x ≤ 1073741823) (fun _ i => l.length - (intOf i).toNat)
  case atStart => exact ⟨0, _, Nat.zero_le _, rfl, rfl, by omega, by omega⟩
  case round =>
    obtain ⟨k, x, hk, rfl, rfl, hx0, hx1⟩ := hrel
    by_cases hlt : k < l.length
    · by_cases h4 : k < 4000
      · obtain ⟨gc, off, rfl, hgc, hcl⟩ := hcell (by omega)
        have cc := hcl k hlt
        have hb8 := Go.bounds_u8 (hwf _ (List.getElem_mem hlt))
        clear hcell hcl
        go_wp2_with fail
        generalize hY : bits BinOp.and IntKind.i64 _ 1073741823 = Y
        have hYb : 0 ≤ Y ∧ Y ≤ 1073741823 := by rw [← hY]; exact and_bd _ 1073741823 (by decide)
        clear hY
        first
          | (go_round
             case rel => exact ⟨k + 1, Y, by omega, by go_num, rfl, hYb.1, hYb.2⟩
             case measure => simp [intOf]; omega)
          | exact ⟨⟨k + 1, Y, by omega, by go_num, rfl, hYb.1, hYb.2⟩, by simp [intOf]; omega⟩
      · go_wp2_with fail
        go_ret
        exact ⟨w.heap.size, rfl, (Below.refl _ _).alloc (Nat.le_refl _) _, Nat.le_refl _, by simp, World.cell?_alloc_new _ _ _ 0, ⟨0, Nat.zero_le _, World.cell?_alloc_new _ _ _ 1⟩, ⟨x, by omega, by omega, World.cell?_alloc_new _ _ _ 2⟩, World.frozen?_alloc_new _ _ _ 1, World.frozen?_alloc_new _ _ _ 2⟩
    · go_wp2_with fail
      go_ret
      exact ⟨w.heap.size, rfl, (Below.refl _ _).alloc (Nat.le_refl _) _, Nat.le_refl _, by simp, World.cell?_alloc_new _ _ _ 0, ⟨0, Nat.zero_le _, World.cell?_alloc_new _ _ _ 1⟩, ⟨x, by omega, by omega, World.cell?_alloc_new _ _ _ 2⟩, World.frozen?_alloc_new _ _ _ 1, World.frozen?_alloc_new _ _ _ 2⟩
set_option maxHeartbeats 1000000 in
theorem below_ret {v : Value} {l : List Int} {g : Nat} {W0 : World} (n : Int) (w : World) (hd : Code8 W0 v l) (hc : Cur W0 w g v l.length) (h1 : 1 ≤ n) (h2 : n ≤ 1000000000) :
    Calls Tryd.prog 26 #[.pointer (some ⟨g, 0, none⟩), .int .i64 n] w fun e w' => ∃ x : Int, e = .returned (.int .i64 x) ∧ 0 ≤ x ∧ x < n ∧ Cur W0 w' g v l.length ∧ w.grownBy w' (some g) := by
  have hb : (n == 0) = false := beq_eq_false_iff_ne.2 (by omega)
  by_cases hs : n ≤ 256
  · go_enter Tryd.func26, Tryd.ntmps26
    go_wp2_with fail
    refine (byte_ret _ hd hc).mono ?_
    rintro e w1 ⟨x, rfl, hx0, hx1, hc1, hg1⟩
    have m1 : 0 ≤ x % n := Int.emod_nonneg _ (by omega)
    have m2 : x % n < n := Int.emod_lt_of_pos _ (by omega)
    go_wp2_with fail
    go_ret
    exact ⟨x % n, rfl, m1, m2, hc1, hg1⟩
  · go_enter Tryd.func26, Tryd.ntmps26
    go_wp2_with fail
    refine (byte_ret _ hd hc).mono ?_
    rintro e w1 ⟨x, rfl, hx0, hx1, hc1, hg1⟩
    go_wp2_with fail
    refine (byte_ret _ hd hc1).mono ?_
    rintro e w2 ⟨y, rfl, hy0, hy1, hc2, hg2⟩
    go_wp2_with fail
    refine (byte_ret _ hd hc2).mono ?_
    rintro e w3 ⟨z, rfl, hz0, hz1, hc3, hg3⟩
    go_wp2_with fail
    refine (byte_ret _ hd hc3).mono ?_
    rintro e w4 ⟨t, rfl, ht0, ht1, hc4, hg4⟩
    have m1 : 0 ≤ (x * 16777216 + y * 65536 + z * 256 + t) % n := Int.emod_nonneg _ (by omega)
    have m2 : (x * 16777216 + y * 65536 + z * 256 + t) % n < n := Int.emod_lt_of_pos _ (by omega)
    go_wp2_with fail
    go_ret
    exact ⟨(x * 16777216 + y * 65536 + z * 256 + t) % n, rfl, m1, m2, hc4, grownBy_trans hg1 (grownBy_trans hg2 (grownBy_trans hg3 hg4))⟩
theorem once_ret {v : Value} {l : List Int} {g : Nat} {W0 : World} (n : Int) (w : World) (hd : Code8 W0 v l) (hc : Cur W0 w g v l.length) (h1 : 1 ≤ n) (h2 : n ≤ 1000000000) :
    Calls Tryd.prog 27 #[.pointer (some ⟨g, 0, none⟩), .int .i64 n] w fun e w' => ∃ b : Bool, e = .returned (.bool b) ∧ Cur W0 w' g v l.length ∧ w.grownBy w' (some g) := by
  go_enter Tryd.func27, Tryd.ntmps27
  go_wp2_with fail
  refine (below_ret _ _ hd hc h1 h2).mono ?_
  rintro e w1 ⟨x, rfl, hx0, hx1, hc1, hg1⟩
  go_wp2_with fail
  go_ret
  exact ⟨_, rfl, hc1, hg1⟩
theorem pickint_ret {v lv : Value} {l ll : List Int} {g : Nat} {W0 : World} (w : World) (hd : Code8 W0 v l) (hc : Cur W0 w g v l.length) (ho : Own w 0 1 lv ll.length (ll.map (Value.int .i64))) (hne : lv.ownBlock ≠ some g) (h1 : 1 ≤ ll.length) (h2 : ll.length ≤ 1000) :
    Calls Tryd.prog 73 #[.pointer (some ⟨g, 0, none⟩), lv] w fun e w' => ∃ x : Int, e = .returned (.int .i64 x) ∧ x ∈ ll ∧ Cur W0 w' g v l.length ∧ w.grownBy w' (some g) := by
  rcases ho.val with ⟨rfl, h0⟩ | ⟨gl, cap, rfl, _, hgl, _, _, hcl, _⟩
  · omega
  have hne' : gl ≠ g := fun e => hne (by simp [Value.ownBlock, e])
  go_enter Tryd.func73, Tryd.ntmps73
  go_wp2_with fail
  refine (below_ret _ _ hd hc (by omega) (by omega)).mono ?_
  rintro e w1 ⟨x, rfl, hx0, hx1, hc1, hg1⟩
  obtain ⟨k, rfl⟩ := Int.eq_ofNat_of_zero_le hx0
  have hk : k < ll.length := by omega
  have c1 : w1.cell? ⟨gl, k, none⟩ = some (.int .i64 (ll[k]'hk)) := by
    rw [World.cell?_of_block (w := w) (w' := w1) (a := ⟨gl, k, none⟩) (hg1.block gl hgl (fun e => hne' (by simpa using e))), hcl k (by omega), ints_at hk]
  clear hcl
  go_wp2_with fail
  go_ret
  exact ⟨_, rfl, List.getElem_mem hk, hc1, hg1⟩
end Go.Proofs.YtiopbdodegopdaaDoor
