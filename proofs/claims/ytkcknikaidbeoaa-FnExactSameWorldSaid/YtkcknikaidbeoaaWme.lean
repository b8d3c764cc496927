/- The laws' own functions on levels and worlds: markLevel, heldLevel, eqWorld, markWorld, heldWorld; what a call may have touched. -/
import Derived.Test.YtkcknikaidbeoaaWmk
import Derived.Test.YtkcknikaidbeoaaSmk
namespace Go.Proofs.Ytkcknikaidbeoaa
open Go.RowKit

/-- below the heap's old end only the blocks in S have turned -/
structure Tch (S : Nat → Prop) (w w' : World) : Prop where
  os : w'.os = w.os
  tape : w'.tape = w.tape
  output : w'.output = w.output
  size : w.heap.size ≤ w'.heap.size
  block : ∀ i, i < w.heap.size → ¬ S i → w'.heap[i]? = w.heap[i]?
theorem Tch.refl (S : Nat → Prop) (w : World) : Tch S w w := ⟨rfl, rfl, rfl, Nat.le_refl _, fun _ _ _ => rfl⟩
theorem Tch.trans {S : Nat → Prop} {a b c : World} (h : Tch S a b) (k : Tch S b c) : Tch S a c :=
  ⟨k.os.trans h.os, k.tape.trans h.tape, k.output.trans h.output, Nat.le_trans h.size k.size, fun i hi hs => (k.block i (Nat.lt_of_lt_of_le hi h.size) hs).trans (h.block i hi hs)⟩
theorem Tch.mono {S T : Nat → Prop} {w w' : World} (h : Tch S w w') (hs : ∀ i, S i → T i) : Tch T w w' := ⟨h.os, h.tape, h.output, h.size, fun i hi ht => h.block i hi fun e => ht (hs i e)⟩
theorem Tch.of_below {S : Nat → Prop} {w w' : World} (h : Below w.heap.size w w') : Tch S w w' := ⟨h.os, h.tape, h.output, h.size, fun i hi _ => h.block i hi⟩
theorem Tch.of_grown {S : Nat → Prop} {w w' : World} {v : Value} (h : w.grownBy w' v.ownBlock) (hs : ∀ i, v.ownBlock = some i → S i) : Tch S w w' := ⟨h.os, h.tape, h.output, h.size, fun i hi hn => h.block i hi fun e => hn (hs i e.symm)⟩
theorem Tch.below {S : Nat → Prop} {w w' : World} {B : Nat} (h : Tch S w w') (hB : B ≤ w.heap.size) (hs : ∀ i, S i → B ≤ i) : Below B w w' := ⟨h.os, h.tape, h.output, h.size, fun i hi => h.block i (by omega) fun e => by have := hs i e; omega⟩
theorem Own.tch {S : Nat → Prop} {w w' : World} {base sz n : Nat} {v : Value} {cs : List Value} (h : Own w base sz v n cs) (ht : Tch S w w') (hs : ∀ i, v.ownBlock = some i → ¬ S i) : Own w' base sz v n cs := h.carry ht.size fun g hg hl => ht.block g hl (hs g hg)
def blkW (u us ub : Value) (i : Nat) : Prop := u.ownBlock = some i ∨ us.ownBlock = some i ∨ ub.ownBlock = some i
theorem WOwn.ge {w : World} {B : Nat} {u us ub : Value} {X : Wd} (h : WOwn w B u us ub X) : ∀ i, blkW u us ub i → B ≤ i ∧ i < w.heap.size := fun i hi => by
  rcases hi with hi | hi | hi
  · exact h.r.ge i hi
  · exact h.s.ge i hi
  · exact h.b.ge i hi
theorem WOwn.tch {S : Nat → Prop} {w w' : World} {B : Nat} {u us ub : Value} {X : Wd} (h : WOwn w B u us ub X) (ht : Tch S w w') (hs : ∀ i, blkW u us ub i → ¬ S i) : WOwn w' B u us ub X :=
  ⟨h.r.tch ht fun i hi => hs i (.inl hi), h.s.tch ht fun i hi => hs i (.inr (.inl hi)), h.b.tch ht fun i hi => hs i (.inr (.inr hi)), h.rs, h.rb, h.sb⟩
theorem WBlk.tch {S : Nat → Prop} {w w' : World} {g : Nat} {u us ub : Value} {tk sd : Int} (h : WBlk w g u tk sd us ub) (ht : Tch S w w') (hs : ¬ S g) : WBlk w' g u tk sd us ub := h.carry ht.size (ht.block g h.lt hs)
theorem Blk.tch {S : Nat → Prop} {w w' : World} {g : Nat} {b : Bd} (h : Blk w g b) (ht : Tch S w w') (hs : ¬ S g) : Blk w' g b := h.carry ht.size (ht.block g h.lt hs)
set_option maxHeartbeats 1000000 in
theorem marklevel_ret {v : Value} {l : List ByteArray} {B : Nat} (w : World) (h : Own w B 1 v l.length (l.map Value.string)) (hm : l.length ≤ 1048576) :
    Calls Try.prog 38 #[.agg #[v], .int .i64 1] w fun e w' => e = .returned (.int .i64 (1 + l.length)) ∧ Own w' B 1 v (marksS 1 l.length).length ((marksS 1 l.length).map Value.string) ∧ Tch (fun i => v.ownBlock = some i) w w' := by
  have hb : ∀ o, Below w.heap.size w (w.alloc o) := fun o => (Below.refl _ _).alloc (Nat.le_refl _) _
  have h1 : ∀ o, Own (w.alloc o) B 1 v l.length (l.map Value.string) := fun o => h.alloc o
  obtain ⟨ao, cap, rfl⟩ := h.slice_
  go_enter Try.func38, Try.ntmps38
  go_wp2_with fail
  refine (markstrs2_ret _ (h1 _) hm).mono ?_
  rintro e wa ⟨rfl, ha, hg⟩
  go_wp2_with fail
  go_ret
  exact ⟨rfl, ha, (Tch.of_below (hb _)).trans (Tch.of_grown hg fun i hi => hi)⟩
set_option maxHeartbeats 1000000 in
theorem heldlevel_ret {v : Value} {n : Nat} (w : World) (h : At w 1 v (marksS 1 n).length ((marksS 1 n).map Value.string)) (hm : n ≤ 1048576) :
    Calls Try.prog 121 #[.agg #[v], .int .i64 1] w fun e w' => e = .returned (.int .i64 (1 + n)) ∧ Below w.heap.size w w' := by
  have hb : ∀ o, Below w.heap.size w (w.alloc o) := fun o => (Below.refl _ _).alloc (Nat.le_refl _) _
  have h1 : ∀ o, At (w.alloc o) 1 v (marksS 1 n).length ((marksS 1 n).map Value.string) := fun o => h.below (hb o)
  obtain ⟨ao, cap, rfl, _⟩ := h.cellS
  have hml := Lib.hid (marksS_len 1 n)
  go_enter Try.func121, Try.ntmps121
  go_wp2_with fail
  refine (heldstrs2_ret _ (h1 _) hm).mono ?_
  rintro e wa ⟨rfl, ha⟩
  go_wp2_with fail
  go_ret
  exact ⟨rfl, (hb _).trans (ha.mono (by simp))⟩
set_option maxHeartbeats 4000000 in
theorem eqworld_ret {u us ub v vs vb : Value} {X : Wd} (w : World) (h : WAt w u us ub X) (k : WAt w v vs vb X) (hm : WSmall X) :
    Calls Try.prog 45 #[.agg #[u, .int .i64 X.tick, .int .i64 X.seed, us, ub], .agg #[v, .int .i64 X.tick, .int .i64 X.seed, vs, vb]] w fun e w' => e = .returned (.bool true) ∧ Below w.heap.size w w' := by
  obtain ⟨hr, hs, hb⟩ := h
  obtain ⟨kr, ks, kb⟩ := k
  obtain ⟨rows, tk, sd, sc, bs⟩ := X
  obtain ⟨m0, m1, m2, m3⟩ := hm
  simp only at hr hs hb kr ks kb m0 m1 m2 m3 ⊢
  go_enter Try.func45, Try.ntmps45
  go_wp2_with fail
  generalize hw1 : (w.alloc _).alloc _ = w1
  have hb1 : Below w.heap.size w w1 := by rw [← hw1]; exact ((Below.refl _ _).alloc (Nat.le_refl _) _).alloc (by simp) _
  have hA1 : WBlk w1 w.heap.size u tk sd us ub := by rw [← hw1]; exact (WBlk.new w _ u tk sd us ub).alloc _
  have hC1 : WBlk w1 (w.heap.size + 1) v tk sd vs vb := by
    rw [← hw1]
    have := WBlk.new (w.alloc (.cells #[u, .int .i64 tk, .int .i64 sd, us, ub] 50)) 50 v tk sd vs vb
    rwa [show (w.alloc (.cells #[u, .int .i64 tk, .int .i64 sd, us, ub] 50)).heap.size = w.heap.size + 1 by simp] at this
  clear hw1
  refine (eqlevel_ret _ (hr.below hb1) (kr.below hb1) (by omega)).mono ?_
  rintro e wa ⟨rfl, ha⟩
  have hb2 := hb1.trans (ha.mono hb1.size)
  have hA2 := hA1.below ha hA1.lt
  have hC2 := hC1.below ha hC1.lt
  clear ha hA1 hC1 hb1
  obtain ⟨_, c0, c1, c2, c3, c4, _⟩ := id hA2
  obtain ⟨_, d0, d1, d2, d3, d4, _⟩ := id hC2
  go_wp2_with fail
  refine (eqints_ret _ (hs.below hb2) (ks.below hb2) (by omega)).mono ?_
  rintro e wb ⟨rfl, n, rfl⟩
  have hb3 := below_drewN hb2 n
  have hA3 := hA2.drewN n
  have hC3 := hC2.drewN n
  clear hA2 hC2 hb2 c0 c1 c2 c3 c4 d0 d1 d2 d3 d4
  obtain ⟨_, c0, c1, c2, c3, c4, _⟩ := id hA3
  obtain ⟨_, d0, d1, d2, d3, d4, _⟩ := id hC3
  go_wp2_with fail
  refine (eqbods_ret _ (hb.below hb3) (kb.below hb3) m3).mono ?_
  rintro e wc ⟨rfl, hc⟩
  go_wp2_with fail
  go_ret
  exact ⟨rfl, hb3.trans (hc.mono hb3.size)⟩
/-- a marked world -/
def markW (X : Wd) : Wd := ⟨marksS 1 X.rows.length, X.tick, X.seed, marks (1 + X.rows.length) X.scores.length, marksB (1 + X.rows.length + X.scores.length) X.bodies.length⟩
def endW (X : Wd) : Int := 1 + X.rows.length + X.scores.length + 9 * X.bodies.length
set_option maxHeartbeats 4000000 in
theorem markworld_ret {u us ub : Value} {X : Wd} {B : Nat} (tk sd : Int) (w : World) (h : WOwn w B u us ub X) (hm : WSmall X) :
    Calls Try.prog 67 #[.agg #[u, .int .i64 tk, .int .i64 sd, us, ub], .int .i64 1] w fun e w' => e = .returned (.int .i64 (endW X)) ∧ WOwn w' B u us ub (markW X) ∧ Tch (blkW u us ub) w w' := by
  obtain ⟨hr, hs, hb, rs, rb, sb⟩ := h
  obtain ⟨rows, tk', sd', sc, bs⟩ := X
  obtain ⟨m0, m1, m2, m3⟩ := hm
  simp only at hr hs hb m0 m1 m2 m3 ⊢
  have hu1 : u.ownBlock ≠ some w.heap.size := fun e => by have := (hr.ge _ e).2; omega
  have hs1 : us.ownBlock ≠ some w.heap.size := fun e => by have := (hs.ge _ e).2; omega
  have hb1 : ub.ownBlock ≠ some w.heap.size := fun e => by have := (hb.ge _ e).2; omega
  go_enter Try.func67, Try.ntmps67
  go_wp2_with fail
  generalize hw1 : w.alloc _ = w1
  have t1 : Tch (blkW u us ub) w w1 := by rw [← hw1]; exact Tch.of_below ((Below.refl _ _).alloc (Nat.le_refl _) _)
  have hA1 : WBlk w1 w.heap.size u tk sd us ub := by rw [← hw1]; exact WBlk.new w _ u tk sd us ub
  replace hr : Own w1 B 1 u rows.length (rows.map Value.string) := by rw [← hw1]; exact hr.alloc _
  replace hs : Own w1 B 1 us sc.length (sc.map (Value.int .i64)) := by rw [← hw1]; exact hs.alloc _
  replace hb : Own w1 B 9 ub bs.length (cellsB bs) := by rw [← hw1]; exact hb.alloc _
  clear hw1
  refine (marklevel_ret _ hr m0).mono ?_
  rintro e wa ⟨rfl, hra, ta⟩
  have t2 := t1.trans (ta.mono (T := blkW u us ub) fun i hi => .inl hi)
  have hA2 := hA1.tch ta hu1
  have hs2 := hs.tch ta fun i hi e => by rcases rs with h | h; · rw [e] at h; cases h
                                         · exact h (e.trans hi.symm)
  have hb2 := hb.tch ta fun i hi e => by rcases rb with h | h; · rw [e] at h; cases h
                                         · exact h (e.trans hi.symm)
  clear hr hs hb t1 hA1 ta
  obtain ⟨_, c0, c1, c2, c3, c4, _⟩ := id hA2
  go_wp2_with fail
  refine (markints2_ret (1 + (rows.length : Int)) _ hs2 (by omega) (by omega) (by omega)).mono ?_
  rintro e wb ⟨rfl, hsb, gb⟩
  have tb : Tch (fun i => us.ownBlock = some i) wa wb := Tch.of_grown gb fun i hi => hi
  have t3 := t2.trans (tb.mono (T := blkW u us ub) fun i hi => .inr (.inl hi))
  have hA3 := hA2.tch tb hs1
  have hr3 := hra.tch tb fun i hi e => by rcases rs with h | h; · rw [hi] at h; cases h
                                          · exact h (hi.trans e.symm)
  have hb3 := hb2.tch tb fun i hi e => by rcases sb with h | h; · rw [e] at h; cases h
                                          · exact h (e.trans hi.symm)
  clear hra hs2 hb2 t2 hA2 gb c0 c1 c2 c3 c4
  obtain ⟨_, c0, c1, c2, c3, c4, _⟩ := id hA3
  go_wp2_with fail
  refine (markbods_ret (1 + (rows.length : Int) + (sc.length : Int)) _ hb3 m3 (by omega) (by omega)).mono ?_
  rintro e wc ⟨rfl, hbc, gc⟩
  have tc : Tch (fun i => ub.ownBlock = some i) wb wc := Tch.of_grown gc fun i hi => hi
  have t4 := t3.trans (tc.mono (T := blkW u us ub) fun i hi => .inr (.inr hi))
  have hr4 := hr3.tch tc fun i hi e => by rcases rb with h | h; · rw [hi] at h; cases h
                                          · exact h (hi.trans e.symm)
  have hs4 := hsb.tch tc fun i hi e => by rcases sb with h | h; · rw [hi] at h; cases h
                                          · exact h (hi.trans e.symm)
  go_wp2_with fail
  go_ret
  exact ⟨rfl, ⟨hr4, hs4, hbc, rs, rb, sb⟩, t4⟩
set_option maxHeartbeats 4000000 in
theorem heldworld_ret {u us ub : Value} {X : Wd} (tk sd : Int) (w : World) (h : WAt w u us ub (markW X)) (hm : WSmall X) :
    Calls Try.prog 68 #[.agg #[u, .int .i64 tk, .int .i64 sd, us, ub], .int .i64 1] w fun e w' => e = .returned (.int .i64 (endW X)) ∧ Below w.heap.size w w' := by
  obtain ⟨hr, hs, hb⟩ := h
  obtain ⟨rows, tk', sd', sc, bs⟩ := X
  obtain ⟨m0, m1, m2, m3⟩ := hm
  simp only [markW] at hr hs hb m0 m1 m2 m3 ⊢
  go_enter Try.func68, Try.ntmps68
  go_wp2_with fail
  generalize hw1 : w.alloc _ = w1
  have hb1 : Below w.heap.size w w1 := by rw [← hw1]; exact (Below.refl _ _).alloc (Nat.le_refl _) _
  have hA1 : WBlk w1 w.heap.size u tk sd us ub := by rw [← hw1]; exact WBlk.new w _ u tk sd us ub
  clear hw1
  refine (heldlevel_ret _ (hr.below hb1) m0).mono ?_
  rintro e wa ⟨rfl, ha⟩
  have hb2 := hb1.trans (ha.mono hb1.size)
  have hA2 := hA1.below ha hA1.lt
  clear ha hA1 hb1
  obtain ⟨_, c0, c1, c2, c3, c4, _⟩ := id hA2
  have n1 : decide (1 + (rows.length : Int) < 0) = false := by simp; omega
  go_wp2_with fail
  refine (heldints2_ret (1 + (rows.length : Int)) _ (hs.below hb2) (by omega) (by omega) (by omega)).mono ?_
  rintro e wb ⟨rfl, rfl⟩
  go_wp2_with fail
  refine (heldbods_ret (1 + (rows.length : Int) + (sc.length : Int)) _ (hb.below hb2) m3 (by omega) (by omega)).mono ?_
  rintro e wb ⟨rfl, rfl⟩
  go_wp2_with fail
  go_ret
  exact ⟨rfl, hb2⟩
end Go.Proofs.Ytkcknikaidbeoaa
