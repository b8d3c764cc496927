/- The laws' own functions on levels and worlds: markLevel, heldLevel, eqWorld, markWorld, heldWorld; what a call may have touched. -/
import Derived.Test.YtiopbdodegopdaaDoorWmk
import Derived.Test.YtiopbdodegopdaaDoorSmk
namespace Go.Proofs.YtiopbdodegopdaaDoor
open Go.RowKit

/-- below the heap's old end only the blocks in S have turned -/
structure Tch (S : Nat → Prop) (w w' : World) : Prop where
  os : w'.os = w.os
  tape : w'.tape = w.tape
  output : w'.output = w.output
  size : w.heap.size ≤ w'.heap.size
  block : ∀ i, i < w.heap.size → ¬ S i → w'.heap[i]? = w.heap[i]?
theorem Tch.refl (S : Nat → Prop) (w : World) : Tch S w w := ⟨rfl, rfl, rfl, Nat.le_refl _, fun _ _ _ => rfl⟩
theorem Tch.trans {S : Nat → Prop} {a b c : World} (h : Tch S a b) (k : Tch S b c) : Tch S a c :=
  ⟨k.os.trans h.os, k.tape.trans h.tape, k.output.trans h.output, Nat.le_trans h.size k.size, fun i hi hs => (k.block i (Nat.lt_of_lt_of_le hi h.size) hs).trans (h.block i hi hs)⟩
theorem Tch.mono {S T : Nat → Prop} {w w' : World} (h : Tch S w w') (hs : ∀ i, S i → T i) : Tch T w w' := ⟨h.os, h.tape, h.output, h.size, fun i hi ht => h.block i hi fun e => ht (hs i e)⟩
theorem Tch.of_below {S : Nat → Prop} {w w' : World} (h : Below w.heap.size w w') : Tch S w w' := ⟨h.os, h.tape, h.output, h.size, fun i hi _ => h.block i hi⟩
theorem Tch.of_grown {S : Nat → Prop} {w w' : World} {v : Value} (h : w.grownBy w' v.ownBlock) (hs : ∀ i, v.ownBlock = some i → S i) : Tch S w w' := ⟨h.os, h.tape, h.output, h.size, fun i hi hn => h.block i hi fun e => hn (hs i e.symm)⟩
theorem Tch.below {S : Nat → Prop} {w w' : World} {B : Nat} (h : Tch S w w') (hB : B ≤ w.heap.size) (hs : ∀ i, S i → B ≤ i) : Below B w w' := ⟨h.os, h.tape, h.output, h.size, fun i hi => h.block i (by omega) fun e => by have := hs i e; omega⟩
theorem Own.tch {S : Nat → Prop} {w w' : World} {base sz n : Nat} {v : Value} {cs : List Value} (h : Own w base sz v n cs) (ht : Tch S w w') (hs : ∀ i, v.ownBlock = some i → ¬ S i) : Own w' base sz v n cs := h.carry ht.size fun g hg hl => ht.block g hl (hs g hg)
def blkW (u us ub : Value) (i : Nat) : Prop := u.ownBlock = some i ∨ us.ownBlock = some i ∨ ub.ownBlock = some i
theorem WOwn.ge {w : World} {B : Nat} {u us ub : Value} {X : Wd} (h : WOwn w B u us ub X) : ∀ i, blkW u us ub i → B ≤ i ∧ i < w.heap.size := fun i hi => by
  rcases hi with hi | hi | hi
  · exact h.r.ge i hi
  · exact h.s.ge i hi
  · exact h.b.ge i hi
theorem WOwn.tch {S : Nat → Prop} {w w' : World} {B : Nat} {u us ub : Value} {X : Wd} (h : WOwn w B u us ub X) (ht : Tch S w w') (hs : ∀ i, blkW u us ub i → ¬ S i) : WOwn w' B u us ub X :=
  ⟨h.r.tch ht fun i hi => hs i (.inl hi), h.s.tch ht fun i hi => hs i (.inr (.inl hi)), h.b.tch ht fun i hi => hs i (.inr (.inr hi)), h.rs, h.rb, h.sb⟩
theorem WBlk.tch {S : Nat → Prop} {w w' : World} {g : Nat} {u us ub : Value} {tk sd : Int} (h : WBlk w g u tk sd us ub) (ht : Tch S w w') (hs : ¬ S g) : WBlk w' g u tk sd us ub := h.carry ht.size (ht.block g h.lt hs)
theorem Blk.tch {S : Nat → Prop} {w w' : World} {g : Nat} {b : Bd} (h : Blk w g b) (ht : Tch S w w') (hs : ¬ S g) : Blk w' g b := h.carry ht.size (ht.block g h.lt hs)
set_option maxHeartbeats 1000000 in
theorem marklevel_ret {v : Value} {l : List ByteArray} {B : Nat} (w : World) (h : Own w B 1 v l.length (l.map Value.string)) (hm : l.length ≤ 1048576) :
    Calls Tryd.prog 15 #[.agg #[v], .int .i64 1] w fun e w' => e = .returned (.int .i64 (1 + l.length)) ∧ Own w' B 1 v (marksS 1 l.length).length ((marksS 1 l.length).map Value.string) ∧ Tch (fun i => v.ownBlock = some i) w w' := by
  have hb : ∀ o, Below w.heap.size w (w.alloc o) := fun o => (Below.refl _ _).alloc (Nat.le_refl _) _
  have h1 : ∀ o, Own (w.alloc o) B 1 v l.length (l.map Value.string) := fun o => h.alloc o
  obtain ⟨ao, cap, rfl⟩ := h.slice_
  go_enter Tryd.func15, Tryd.ntmps15
  go_wp2_with fail
  refine (markstrs2_ret _ (h1 _) hm).mono ?_
  rintro e wa ⟨rfl, ha, hg⟩
  go_wp2_with fail
  go_ret
  exact ⟨rfl, ha, (Tch.of_below (hb _)).trans (Tch.of_grown hg fun i hi => hi)⟩
set_option maxHeartbeats 1000000 in
theorem heldlevel_ret {v : Value} {n : Nat} (w : World) (h : At w 1 v (marksS 1 n).length ((marksS 1 n).map Value.string)) (hm : n ≤ 1048576) :
    Calls Tryd.prog 16 #[.agg #[v], .int .i64 1] w fun e w' => e = .returned (.int .i64 (1 + n)) ∧ Below w.heap.size w w' := by
  have hb : ∀ o, Below w.heap.size w (w.alloc o) := fun o => (Below.refl _ _).alloc (Nat.le_refl _) _
  have h1 : ∀ o, At (w.alloc o) 1 v (marksS 1 n).length ((marksS 1 n).map Value.string) := fun o => h.below (hb o)
  obtain ⟨ao, cap, rfl, _⟩ := h.cellS
  have hml := Lib.hid (marksS_len 1 n)
  go_enter Tryd.func16, Tryd.ntmps16
  go_wp2_with fail
  refine (heldstrs2_ret _ (h1 _) hm).mono ?_
  rintro e wa ⟨rfl, ha⟩
  go_wp2_with fail
  go_ret
  exact ⟨rfl, (hb _).trans (ha.mono (by simp))⟩
/-- a marked world -/
def markW (X : Wd) : Wd := ⟨marksS 1 X.rows.length, X.tick, X.seed, marks (1 + X.rows.length) X.scores.length, marksB (1 + X.rows.length + X.scores.length) X.bodies.length⟩
def endW (X : Wd) : Int := 1 + X.rows.length + X.scores.length + 9 * X.bodies.length
end Go.Proofs.YtiopbdodegopdaaDoor
