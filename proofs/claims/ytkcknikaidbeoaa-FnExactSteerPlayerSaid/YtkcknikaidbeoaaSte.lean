/- l02Steer, the reference's. -/
import Derived.Test.YtkcknikaidbeoaaMvr
namespace Go.Proofs.Ytkcknikaidbeoaa
open Go.RowKit
theorem stT_pos {t : Int} (h : 0 < t) : stT t = t - 1 := by unfold stT; rw [if_pos h]
theorem stT_neg {t : Int} (h : ¬ 0 < t) : stT t = t := by unfold stT; rw [if_neg h]
theorem in16 {i : Int} (h : 0 ≤ i ∧ i ≤ 15) : i = 0 ∨ i = 1 ∨ i = 2 ∨ i = 3 ∨ i = 4 ∨ i = 5 ∨ i = 6 ∨ i = 7 ∨ i = 8 ∨ i = 9 ∨ i = 10 ∨ i = 11 ∨ i = 12 ∨ i = 13 ∨ i = 14 ∨ i = 15 := by omega
theorem bits1 {i : Int} (h : 0 ≤ i ∧ i ≤ 15) : bits .and .i64 i 1 = if bitL i = true then 1 else 0 := by
  rcases in16 h with rfl | rfl | rfl | rfl | rfl | rfl | rfl | rfl | rfl | rfl | rfl | rfl | rfl | rfl | rfl | rfl <;> decide
theorem bits2 {i : Int} (h : 0 ≤ i ∧ i ≤ 15) : bits .and .i64 i 2 = if bitR i = true then 2 else 0 := by
  rcases in16 h with rfl | rfl | rfl | rfl | rfl | rfl | rfl | rfl | rfl | rfl | rfl | rfl | rfl | rfl | rfl | rfl <;> decide
theorem bits4 {i : Int} (h : 0 ≤ i ∧ i ≤ 15) : bits .and .i64 i 4 = if bitJ i = true then 4 else 0 := by
  rcases in16 h with rfl | rfl | rfl | rfl | rfl | rfl | rfl | rfl | rfl | rfl | rfl | rfl | rfl | rfl | rfl | rfl <;> decide
theorem bits8 {i : Int} (h : 0 ≤ i ∧ i ≤ 15) : bits .and .i64 i 8 = if bitF i = true then 8 else 0 := by
  rcases in16 h with rfl | rfl | rfl | rfl | rfl | rfl | rfl | rfl | rfl | rfl | rfl | rfl | rfl | rfl | rfl | rfl <;> decide
set_option maxRecDepth 100000 in
set_option maxHeartbeats 16000000 in
theorem l02steer_ret {u : Value} {l : List ByteArray} (b : Bd) (i : Int) (w : World) (h : At w 1 u l.length (l.map Value.string)) (hm : l.length ≤ 1048576) (hz : ∀ s ∈ l, s.size ≤ 1048576) (hi : 0 ≤ i ∧ i ≤ 15) (ht : 0 ≤ b.timer ∧ b.timer ≤ 20) (hk : b.kind = 0) (hy : -15 ≤ b.vy ∧ b.vy ≤ 15) (hx : 0 ≤ b.y ∧ b.y ≤ 1000) :
    Calls Try.prog 106 #[.agg #[u], b.val, .int .i64 i] w fun e w' => e = .returned (.tuple #[(steerU l b i).1.val, .bool (steerU l b i).2]) ∧ Below w.heap.size w w' := by
  obtain ⟨k0, k1, k2, k3, k4, k5, k6, k7, k8⟩ := b
  simp only at ht hk hy hx
  have HS : ∀ a c wx, Below w.heap.size w wx → Calls Try.prog 87 #[.agg #[u], .int .i64 a, .int .i64 c, .int .i64 12] wx fun e w' => e = .returned (.bool (solT l a c 12)) ∧ Below wx.heap.size wx w' := fun a c wx hb => solid_spec a c 12 wx (h.below hb) hm hz (by omega) (by omega)
  rw [show (Bd.mk k0 k1 k2 k3 k4 k5 k6 k7 k8).val = .agg #[.int .i64 k0, .int .i64 k1, .int .i64 k2, .int .i64 k3, .int .i64 k4, .int .i64 k5, .int .i64 k6, .int .i64 k7, .int .i64 k8] from rfl]
  have HKD := Lib.hid hk; clear hk
  go_enter Try.func106, Try.ntmps106
  go_upto_region 1 with (fail)
  generalize hw1 : ((w.alloc _).alloc _).alloc _ = w1
  have hb1 : Below w.heap.size w w1 := by rw [← hw1]; exact (((Below.refl _ _).alloc (Nat.le_refl _) _).alloc (by simp) _).alloc (by simp; omega) _
  have hL1 : w1.cell? ⟨w.heap.size, 0, none⟩ = some u := by rw [← hw1]; exact cell_alloc_lt (cell_alloc_lt (World.cell?_alloc_new w _ _ 0) _ (by simp)) _ (by simp; omega)
  have hB1 : Blk w1 (w.heap.size + 1) ⟨k0, k1, k2, k3, k4, k5, k6, k7, k8⟩ := by
    rw [← hw1]
    have := (Blk.new (w.alloc (.cells #[u] 27)) 56 ⟨k0, k1, k2, k3, k4, k5, k6, k7, k8⟩).alloc (.cells #[.int .i64 0, .int .i64 0, .int .i64 0, .int .i64 0, .int .i64 0, .int .i64 0, .int .i64 0, .int .i64 0, .int .i64 0] 56)
    rwa [show (w.alloc (.cells #[u] 27)).heap.size = w.heap.size + 1 by simp] at this
  have hR1 : Blk w1 (w.heap.size + 2) zB := by
    rw [← hw1]
    have := Blk.new ((w.alloc (.cells #[u] 27)).alloc (.cells #[.int .i64 k0, .int .i64 k1, .int .i64 k2, .int .i64 k3, .int .i64 k4, .int .i64 k5, .int .i64 k6, .int .i64 k7, .int .i64 k8] 56)) 56 zB
    rwa [show ((w.alloc (.cells #[u] 27)).alloc (.cells #[.int .i64 k0, .int .i64 k1, .int .i64 k2, .int .i64 k3, .int .i64 k4, .int .i64 k5, .int .i64 k6, .int .i64 k7, .int .i64 k8] 56)).heap.size = w.heap.size + 2 by simp] at this
  clear hw1
  obtain ⟨_, c0, c1, c2, c3, c4, c5, c6, c7, c8, f0, f1, f2, f3, f4, f5, f6, f7, f8⟩ := id hB1
  simp only at c0 c1 c2 c3 c4 c5 c6 c7 c8
  go_upto_if 10 with (fail)
  go_cut [7] (fun st wx => st = .bool false ∧ Blk wx (w.heap.size + 1) ⟨k0, k1, k2, k3, k4, k5, k6, k7, stT k8⟩ ∧ Blk wx (w.heap.size + 2) zB ∧ wx.cell? ⟨w.heap.size, 0, none⟩ = some u ∧ Below w.heap.size w wx)
  case first =>
    by_cases h0 : 0 < k8
    · have HN := Lib.hid (stT_pos h0)
      go_wp2_with fail
      go_meet
      case rel => exact ⟨rfl, by rw [HN.out]; exact hB1.set8 _, hR1.other (by show w.heap.size + 1 ≠ w.heap.size + 2; omega) _, cell_set_ne hL1 (by show w.heap.size + 1 ≠ w.heap.size; omega), hb1.setCell (by show w.heap.size ≤ w.heap.size + 1; omega) _⟩
    · have HN := Lib.hid (stT_neg h0)
      go_wp2_with fail
      go_meet
      case rel => exact ⟨rfl, by rw [HN.out]; exact hB1, hR1, hL1, hb1⟩
  case rest =>
    clear hB1 hR1 hL1 hb1 c0 c1 c2 c3 c4 c5 c6 c7 c8 f0 f1 f2 f3 f4 f5 f6 f7 f8
    obtain ⟨wq, rfl⟩ : ∃ wq : World, wq = wc := ⟨_, rfl⟩
    obtain ⟨rfl, hB1, hR1, hL1, hb1⟩ := hcut
    obtain ⟨_, c0, c1, c2, c3, c4, c5, c6, c7, c8, f0, f1, f2, f3, f4, f5, f6, f7, f8⟩ := id hB1
    simp only at c0 c1 c2 c3 c4 c5 c6 c7 c8
    go_upto_region 4 with (fail)
    have hB2 := hB1.set4 0
    have hR2 := hR1.other (p := ⟨w.heap.size + 1, 4, none⟩) (by show w.heap.size + 1 ≠ w.heap.size + 2; omega) (.int .i64 0)
    have hL2 := cell_set_ne (v := .int .i64 0) (p := ⟨w.heap.size + 1, 4, none⟩) hL1 (by show w.heap.size + 1 ≠ w.heap.size; omega)
    have hb2 := hb1.setCell (p := ⟨w.heap.size + 1, 4, none⟩) (by show w.heap.size ≤ w.heap.size + 1; omega) (.int .i64 0)
    generalize hwn : World.setCell wq _ _ = wn
    rw [hwn] at hB2 hR2 hL2 hb2
    clear hwn hB1 hR1 hL1 hb1 c0 c1 c2 c3 c4 c5 c6 c7 c8 f0 f1 f2 f3 f4 f5 f6 f7 f8
    simp only at hB2
    go_cut [23] (fun st wx => st = .bool (bitR i && !bitL i) ∧ wx = wn)
    case first =>
      have b1 := bits1 hi
      have b2 := bits2 hi
      cases hr : bitR i <;> cases hl : bitL i <;> simp only [hr, hl, if_true, Bool.false_eq_true, if_false] at b1 b2
      all_goals
        go_wp2_with fail
        go_meet
        case rel => exact ⟨by rw [hr, hl]; rfl, rfl⟩
    case rest =>
      obtain ⟨wr, rfl⟩ : ∃ wr : World, wr = wc := ⟨_, rfl⟩
      obtain ⟨rfl, rfl⟩ := hcut
      obtain ⟨_, c0, c1, c2, c3, c4, c5, c6, c7, c8, f0, f1, f2, f3, f4, f5, f6, f7, f8⟩ := id hB2
      simp only at c0 c1 c2 c3 c4 c5 c6 c7 c8
      go_upto_if 23 with (fail)
      go_cut [7] (fun st wx => st = .bool false ∧ Blk wx (w.heap.size + 1) ⟨k0, k1, k2, k3, (if (bitR i && !bitL i) = true then 3 else 0), k5, (if (bitR i && !bitL i) = true then 1 else k6), k7, stT k8⟩ ∧ Blk wx (w.heap.size + 2) zB ∧ wx.cell? ⟨w.heap.size, 0, none⟩ = some u ∧ Below w.heap.size w wx)
      case first =>
        cases hr : (bitR i && !bitL i)
        all_goals
          go_wp2_with fail
          go_meet
          case rel => simp only [hr, Bool.false_eq_true, if_false, if_true]; first | exact ⟨trivial, hB2, hR2, hL2, hb2⟩ | exact ⟨rfl, hB2, hR2, hL2, hb2⟩ | exact ⟨by trivial, (hB2.set4 3).set6 1, (hR2.other (by show w.heap.size + 1 ≠ w.heap.size + 2; omega) _).other (by show w.heap.size + 1 ≠ w.heap.size + 2; omega) _, cell_set_ne (cell_set_ne hL2 (by show w.heap.size + 1 ≠ w.heap.size; omega)) (by show w.heap.size + 1 ≠ w.heap.size; omega), (hb2.setCell (by show w.heap.size ≤ w.heap.size + 1; omega) _).setCell (by show w.heap.size ≤ w.heap.size + 1; omega) _⟩
      case rest =>
        clear hB2 hR2 hL2 hb2 c0 c1 c2 c3 c4 c5 c6 c7 c8 f0 f1 f2 f3 f4 f5 f6 f7 f8
        obtain ⟨ws, rfl⟩ : ∃ ws : World, ws = wc := ⟨_, rfl⟩
        obtain ⟨rfl, hB2, hR2, hL2, hb2⟩ := hcut
        obtain ⟨X1, hX1⟩ : ∃ X : Int, X = (if (bitR i && !bitL i) = true then 3 else 0) := ⟨_, rfl⟩
        obtain ⟨A1, hA1⟩ : ∃ X : Int, X = (if (bitR i && !bitL i) = true then 1 else k6) := ⟨_, rfl⟩
        rw [← hX1, ← hA1] at hB2
        go_upto_region 7 with (fail)
        go_cut [33] (fun st wx => st = .bool (bitL i && !bitR i) ∧ wx = ws)
        case first =>
          have b1 := bits1 hi
          have b2 := bits2 hi
          clear hX1 hA1
          cases hr : bitR i <;> cases hl : bitL i <;> simp only [hr, hl, if_true, Bool.false_eq_true, if_false] at b1 b2
          all_goals
            go_wp2_with fail
            go_meet
            case rel => exact ⟨by rw [hr, hl]; rfl, rfl⟩
        case rest =>
          obtain ⟨wr, rfl⟩ : ∃ wr : World, wr = wc := ⟨_, rfl⟩
          obtain ⟨rfl, rfl⟩ := hcut
          obtain ⟨_, c0, c1, c2, c3, c4, c5, c6, c7, c8, f0, f1, f2, f3, f4, f5, f6, f7, f8⟩ := id hB2
          simp only at c0 c1 c2 c3 c4 c5 c6 c7 c8
          go_upto_if 33 with (fail)
          go_cut [7] (fun st wx => st = .bool false ∧ Blk wx (w.heap.size + 1) ⟨k0, k1, k2, k3, (if (bitL i && !bitR i) = true then -3 else X1), k5, (if (bitL i && !bitR i) = true then -1 else A1), k7, stT k8⟩ ∧ Blk wx (w.heap.size + 2) zB ∧ wx.cell? ⟨w.heap.size, 0, none⟩ = some u ∧ Below w.heap.size w wx)
          case first =>
            clear hX1 hA1
            cases hr : (bitL i && !bitR i)
            all_goals
              go_wp2_with fail
              go_meet
              case rel => simp only [hr, Bool.false_eq_true, if_false, if_true]; first | exact ⟨trivial, hB2, hR2, hL2, hb2⟩ | exact ⟨by trivial, (hB2.set4 (-3)).set6 (-1), (hR2.other (by show w.heap.size + 1 ≠ w.heap.size + 2; omega) _).other (by show w.heap.size + 1 ≠ w.heap.size + 2; omega) _, cell_set_ne (cell_set_ne hL2 (by show w.heap.size + 1 ≠ w.heap.size; omega)) (by show w.heap.size + 1 ≠ w.heap.size; omega), (hb2.setCell (by show w.heap.size ≤ w.heap.size + 1; omega) _).setCell (by show w.heap.size ≤ w.heap.size + 1; omega) _⟩
          case rest =>
            clear hB2 hR2 hL2 hb2 c0 c1 c2 c3 c4 c5 c6 c7 c8 f0 f1 f2 f3 f4 f5 f6 f7 f8
            obtain ⟨wt, rfl⟩ : ∃ wt : World, wt = wc := ⟨_, rfl⟩
            obtain ⟨rfl, hB2, hR2, hL2, hb2⟩ := hcut
            obtain ⟨X2, hX2⟩ : ∃ X : Int, X = (if (bitL i && !bitR i) = true then -3 else X1) := ⟨_, rfl⟩
            obtain ⟨A2, hA2⟩ : ∃ X : Int, X = (if (bitL i && !bitR i) = true then -1 else A1) := ⟨_, rfl⟩
            rw [← hX2, ← hA2] at hB2
            obtain ⟨_, c0, c1, c2, c3, c4, c5, c6, c7, c8, f0, f1, f2, f3, f4, f5, f6, f7, f8⟩ := id hB2
            simp only at c0 c1 c2 c3 c4 c5 c6 c7 c8
            go_upto_region 10 with (fail)
            go_cut [50] (fun st wx => st = .bool (bitJ i && solT l k2 (k3 + 1) 12) ∧ Below wt.heap.size wt wx)
            case first =>
              have b4 := bits4 hi
              cases hj : bitJ i <;> simp only [hj, if_true, Bool.false_eq_true, if_false] at b4
              case false =>
                refine wp_region_tailV 13 (by kernel_rfl) (by kernel_rfl) ?_
                intro OPS HOPS
                have g3 : Hid ((OPS[3]?).bind (·.dst) = some 39) := Lib.hid (by rw [HOPS.out]; kernel_rfl)
                simp only [List.take_succ_cons, List.take_zero, List.drop_succ_cons, List.drop_zero]
                still_step
                still_step
                still_step
                still_step
                refine wpStill_skip ((wanted_of (j := 3) (d := 39) (b := true) (v := false) rfl g3.out rfl).trans rfl) ?_
                simp only [Act.put, List.setIfInBounds_toArray, List.set_cons_zero, List.set_cons_succ]
                refine wpStill_skip ((wanted_of (j := 3) (d := 39) (b := true) (v := false) rfl g3.out rfl).trans rfl) ?_
                simp only [Act.put, List.setIfInBounds_toArray, List.set_cons_zero, List.set_cons_succ]
                refine wpStill_skip ((wanted_of (j := 3) (d := 39) (b := true) (v := false) rfl g3.out rfl).trans rfl) ?_
                simp only [Act.put, List.setIfInBounds_toArray, List.set_cons_zero, List.set_cons_succ]
                refine wpStill_skip ((wanted_of (j := 3) (d := 39) (b := true) (v := false) rfl g3.out rfl).trans rfl) ?_
                simp only [Act.put, List.setIfInBounds_toArray, List.set_cons_zero, List.set_cons_succ]
                refine wpStill_skip ((wanted_of (j := 3) (d := 39) (b := true) (v := false) rfl g3.out rfl).trans rfl) ?_
                simp only [Act.put, List.setIfInBounds_toArray, List.set_cons_zero, List.set_cons_succ]
                refine wpStill_skip ((wanted_of (j := 3) (d := 39) (b := true) (v := false) rfl g3.out rfl).trans rfl) ?_
                simp only [Act.put, List.setIfInBounds_toArray, List.set_cons_zero, List.set_cons_succ]
                refine wpStill_skip ((wanted_of (j := 3) (d := 39) (b := true) (v := false) rfl g3.out rfl).trans rfl) ?_
                simp only [Act.put, List.setIfInBounds_toArray, List.set_cons_zero, List.set_cons_succ]
                refine wpStill_skip ((wanted_of (j := 3) (d := 39) (b := true) (v := false) rfl g3.out rfl).trans rfl) ?_
                simp only [Act.put, List.setIfInBounds_toArray, List.set_cons_zero, List.set_cons_succ]
                refine wpStill_skip ((wanted_of (j := 3) (d := 39) (b := true) (v := false) rfl g3.out rfl).trans rfl) ?_
                simp only [Act.put, List.setIfInBounds_toArray, List.set_cons_zero, List.set_cons_succ]
                refine wpStill_nil ?_
                change wpList _ _ _ _ _ wt.drew
                go_wp2_with fail
                go_meet
                case rel => exact ⟨by rw [hj]; rfl, (Below.refl _ _).drew⟩
              case true =>
                refine wp_region_tailV 13 (by kernel_rfl) (by kernel_rfl) ?_
                intro OPS HOPS
                have g3 : Hid ((OPS[3]?).bind (·.dst) = some 39) := Lib.hid (by rw [HOPS.out]; kernel_rfl)
                simp only [List.take_succ_cons, List.take_zero, List.drop_succ_cons, List.drop_zero]
                still_step
                still_step
                still_step
                still_step
                refine wpStill_wantG 3 39 true true rfl g3.out rfl rfl (fun K hK => ?_)
                go_simp
                refine hK _ ?_
                clear hK K
                refine wpStill_wantG 3 39 true true rfl g3.out rfl rfl (fun K hK => ?_)
                go_simp
                refine hK _ ?_
                clear hK K
                refine wpStill_wantG 3 39 true true rfl g3.out rfl rfl (fun K hK => ?_)
                go_simp
                refine hK _ ?_
                clear hK K
                refine wpStill_wantG 3 39 true true rfl g3.out rfl rfl (fun K hK => ?_)
                go_simp
                refine hK _ ?_
                clear hK K
                refine wpStill_wantG 3 39 true true rfl g3.out rfl rfl (fun K hK => ?_)
                go_simp
                refine hK _ ?_
                clear hK K
                refine wpStill_wantG 3 39 true true rfl g3.out rfl rfl (fun K hK => ?_)
                go_simp
                refine hK _ ?_
                clear hK K
                refine wpStill_wantG 3 39 true true rfl g3.out rfl rfl (fun K hK => ?_)
                go_simp
                refine hK _ ?_
                clear hK K
                refine wpStill_wantG 3 39 true true rfl g3.out rfl rfl (fun K hK => ?_)
                go_simp
                refine hK _ ?_
                clear hK K
                refine wpStill_wantG 3 39 true true rfl g3.out rfl rfl (fun K hK => ?_)
                go_simp
                refine ⟨_, (sz_spec _ _).mono (fun e w' h => ⟨h.1, h.2.symm⟩), hK _ ?_⟩
                clear hK K
                refine wpStill_nil ?_
                change wpList _ _ _ _ _ wt.drew
                rw [show szOf k0 = 12 by rw [HKD.out]; rfl]
                go_wp2_with fail
                refine (HS k2 (k3 + 1) wt.drew hb2.drew).mono ?_
                rintro e wa ⟨rfl, ha⟩
                go_wp2_with fail
                go_meet
                case rel => exact ⟨by rw [hj]; rfl, ((Below.refl wt.heap.size wt).drew).trans (ha.mono (Nat.le_refl _))⟩
            case rest =>
              obtain ⟨wu, rfl⟩ : ∃ wu : World, wu = wc := ⟨_, rfl⟩
              obtain ⟨rfl, hbz⟩ := hcut
              have hB3 := hB2.below hbz hB2.lt
              have hR3 := hR2.below hbz hR2.lt
              have hb3 := hb2.trans (hbz.mono hb2.size)
              clear hB2 hR2 hL2 hb2 hbz c0 c1 c2 c3 c4 c5 c6 c7 c8 f0 f1 f2 f3 f4 f5 f6 f7 f8
              obtain ⟨SJ, hSJ⟩ : ∃ X : Bool, (bitJ i && solT l k2 (k3 + 1) 12) = X := ⟨_, rfl⟩
              rw [hSJ]
              obtain ⟨_, c0, c1, c2, c3, c4, c5, c6, c7, c8, f0, f1, f2, f3, f4, f5, f6, f7, f8⟩ := id hB3
              simp only at c0 c1 c2 c3 c4 c5 c6 c7 c8
              go_upto_if 50 with (fail)
              go_cut [7] (fun st wx => st = .bool false ∧ Blk wx (w.heap.size + 1) ⟨k0, k1, k2, k3, X2, (if SJ = true then -9 else min (k5 + 1) 8), A2, k7, stT k8⟩ ∧ Blk wx (w.heap.size + 2) zB ∧ Below w.heap.size w wx)
              case first =>
                clear hX1 hA1 hX2 hA2 hSJ
                cases SJ
                case true =>
                  go_wp2_with fail
                  go_meet
                  case rel => simp only [if_true]; exact ⟨by trivial, hB3.set5 _, hR3.other (by show w.heap.size + 1 ≠ w.heap.size + 2; omega) _, hb3.setCell (by show w.heap.size ≤ w.heap.size + 1; omega) _⟩
                case false =>
                  by_cases hmn : k5 + 1 ≤ 8
                  · have HMN : Hid (min (k5 + 1) 8 = k5 + 1) := Lib.hid (by omega)
                    go_wp2_with fail
                    go_meet
                    case rel => simp only [Bool.false_eq_true, if_false, HMN.out]; exact ⟨by trivial, hB3.set5 _, hR3.other (by show w.heap.size + 1 ≠ w.heap.size + 2; omega) _, hb3.setCell (by show w.heap.size ≤ w.heap.size + 1; omega) _⟩
                  · have HMN : Hid (min (k5 + 1) 8 = 8) := Lib.hid (by omega)
                    go_wp2_with fail
                    go_meet
                    case rel => simp only [Bool.false_eq_true, if_false, HMN.out]; exact ⟨by trivial, hB3.set5 _, hR3.other (by show w.heap.size + 1 ≠ w.heap.size + 2; omega) _, hb3.setCell (by show w.heap.size ≤ w.heap.size + 1; omega) _⟩
              case rest =>
                clear hB3 hR3 hb3 c0 c1 c2 c3 c4 c5 c6 c7 c8 f0 f1 f2 f3 f4 f5 f6 f7 f8
                obtain ⟨wv, rfl⟩ : ∃ wv : World, wv = wc := ⟨_, rfl⟩
                obtain ⟨rfl, hB3, hR3, hb3⟩ := hcut
                have HXE : X2 = stVX i := by rw [hX2, hX1]; unfold stVX; cases bitR i <;> cases bitL i <;> rfl
                have HAE : A2 = stAim i k6 := by rw [hA2, hA1]; unfold stAim; cases bitR i <;> cases bitL i <;> rfl
                have HVE : (if SJ = true then -9 else min (k5 + 1) 8) = stVY l i ⟨k0, k1, k2, k3, k4, k5, k6, k7, k8⟩ := by rw [← hSJ]; unfold stVY; simp only [Bool.and_eq_true]
                obtain ⟨V, hV⟩ : ∃ V : Int, (if SJ = true then -9 else min (k5 + 1) 8) = V := ⟨_, rfl⟩
                rw [hV] at HVE hB3
                have HNA : Hid (stFire i k8 = true → steerU l ⟨k0, k1, k2, k3, k4, k5, k6, k7, k8⟩ i = (⟨k0, k1, k2, k3, X2, V, A2, k7, 12⟩, true)) := Lib.hid fun hf => by unfold steerU; simp only [hf, if_true]; rw [HXE, HAE, HVE]
                have HNB : Hid (stFire i k8 = false → steerU l ⟨k0, k1, k2, k3, k4, k5, k6, k7, k8⟩ i = (⟨k0, k1, k2, k3, X2, V, A2, k7, stT k8⟩, false)) := Lib.hid fun hf => by unfold steerU; simp only [hf, Bool.false_eq_true, if_false]; rw [HXE, HAE, HVE]
                have HFD : Hid (stFire i k8 = (bitF i && decide (stT k8 = 0))) := Lib.hid rfl
                clear hX1 hX2 hA1 hA2 hSJ hV HXE HAE HVE
                obtain ⟨T, hT⟩ : ∃ T : Int, stT k8 = T := ⟨_, rfl⟩
                rw [hT] at HNB hB3 HFD
                clear hT
                have b8 := bits8 hi
                obtain ⟨_, c0, c1, c2, c3, c4, c5, c6, c7, c8, f0, f1, f2, f3, f4, f5, f6, f7, f8⟩ := id hB3
                simp only at c0 c1 c2 c3 c4 c5 c6 c7 c8
                by_cases hF : bitF i = true ∧ T = 0
                · have HN := Lib.hid (HNA.out (by rw [HFD.out, hF.1, hF.2]; rfl))
                  rw [if_pos hF.1] at b8
                  obtain ⟨_, h0⟩ := hF
                  go_upto_region 15 with (fail)
                  have hB4 := hB3.set8 12
                  have hR4 := hR3.other (p := ⟨w.heap.size + 1, 8, none⟩) (by show w.heap.size + 1 ≠ w.heap.size + 2; omega) (.int .i64 12)
                  have hb4 := hb3.setCell (p := ⟨w.heap.size + 1, 8, none⟩) (by show w.heap.size ≤ w.heap.size + 1; omega) (.int .i64 12)
                  generalize hwn : World.setCell wv _ _ = wy
                  rw [hwn] at hB4 hR4 hb4
                  clear hwn hB3 hR3 hb3 c0 c1 c2 c3 c4 c5 c6 c7 c8 f0 f1 f2 f3 f4 f5 f6 f7 f8
                  obtain ⟨_, c0, c1, c2, c3, c4, c5, c6, c7, c8, f0, f1, f2, f3, f4, f5, f6, f7, f8⟩ := id hB4
                  simp only at c0 c1 c2 c3 c4 c5 c6 c7 c8
                  obtain ⟨hltr, r0, r1, r2, r3, r4, r5, r6, r7, r8, q0, q1, q2, q3, q4, q5, q6, q7, q8⟩ := id hR4
                  go_wp2_with fail
                  have hb2 := below_put9 hb4 (show w.heap.size ≤ w.heap.size + 1 + 1 by omega) ⟨k0, k1, k2, k3, X2, V, A2, k7, 12⟩
                  have hB2 := Blk.put9 (g := w.heap.size + 1 + 1) hR4 ⟨k0, k1, k2, k3, X2, V, A2, k7, 12⟩
                  change bodyPost _ _ _ _ _ (put9 wy (w.heap.size + 1 + 1) ⟨k0, k1, k2, k3, X2, V, A2, k7, 12⟩)
                  generalize put9 wy (w.heap.size + 1 + 1) ⟨k0, k1, k2, k3, X2, V, A2, k7, 12⟩ = wn at hb2 hB2 ⊢
                  obtain ⟨_, e0, e1, e2, e3, e4, e5, e6, e7, e8, _⟩ := hB2
                  simp only at e0 e1 e2 e3 e4 e5 e6 e7 e8
                  refine bodyPost_ret (v := .tuple #[.agg #[.int .i64 k0, .int .i64 k1, .int .i64 k2, .int .i64 k3, .int .i64 X2, .int .i64 V, .int .i64 A2, .int .i64 k7, .int .i64 12], .bool true]) (by simp [results, Try.results106, go_sem, e0, e1, e2, e3, e4, e5, e6, e7, e8]) rfl ?_
                  exact ⟨by rw [HN.out]; rfl, hb2⟩
                · have HN := Lib.hid (HNB.out (by rw [HFD.out]; cases hf : bitF i <;> simp_all))
                  by_cases hf : bitF i = true
                  · rw [if_pos hf] at b8
                    have h0 : T ≠ 0 := fun hh => hF ⟨hf, hh⟩
                    clear hF hf
                    obtain ⟨hltr, r0, r1, r2, r3, r4, r5, r6, r7, r8, q0, q1, q2, q3, q4, q5, q6, q7, q8⟩ := id hR3
                    go_wp2_with fail
                    have hb2 := below_put9 hb3 (show w.heap.size ≤ w.heap.size + 1 + 1 by omega) ⟨k0, k1, k2, k3, X2, V, A2, k7, T⟩
                    have hB2 := Blk.put9 (g := w.heap.size + 1 + 1) hR3 ⟨k0, k1, k2, k3, X2, V, A2, k7, T⟩
                    change bodyPost _ _ _ _ _ (put9 wv (w.heap.size + 1 + 1) ⟨k0, k1, k2, k3, X2, V, A2, k7, T⟩)
                    generalize put9 wv (w.heap.size + 1 + 1) ⟨k0, k1, k2, k3, X2, V, A2, k7, T⟩ = wn at hb2 hB2 ⊢
                    obtain ⟨_, e0, e1, e2, e3, e4, e5, e6, e7, e8, _⟩ := hB2
                    simp only at e0 e1 e2 e3 e4 e5 e6 e7 e8
                    refine bodyPost_ret (v := .tuple #[.agg #[.int .i64 k0, .int .i64 k1, .int .i64 k2, .int .i64 k3, .int .i64 X2, .int .i64 V, .int .i64 A2, .int .i64 k7, .int .i64 T], .bool false]) (by simp [results, Try.results106, go_sem, e0, e1, e2, e3, e4, e5, e6, e7, e8]) rfl ?_
                    exact ⟨by rw [HN.out]; rfl, hb2⟩
                  · rw [if_neg hf] at b8
                    clear hF hf
                    obtain ⟨hltr, r0, r1, r2, r3, r4, r5, r6, r7, r8, q0, q1, q2, q3, q4, q5, q6, q7, q8⟩ := id hR3
                    go_wp2_with fail
                    have hb2 := below_put9 hb3 (show w.heap.size ≤ w.heap.size + 1 + 1 by omega) ⟨k0, k1, k2, k3, X2, V, A2, k7, T⟩
                    have hB2 := Blk.put9 (g := w.heap.size + 1 + 1) hR3 ⟨k0, k1, k2, k3, X2, V, A2, k7, T⟩
                    change bodyPost _ _ _ _ _ (put9 wv (w.heap.size + 1 + 1) ⟨k0, k1, k2, k3, X2, V, A2, k7, T⟩)
                    generalize put9 wv (w.heap.size + 1 + 1) ⟨k0, k1, k2, k3, X2, V, A2, k7, T⟩ = wn at hb2 hB2 ⊢
                    obtain ⟨_, e0, e1, e2, e3, e4, e5, e6, e7, e8, _⟩ := hB2
                    simp only at e0 e1 e2 e3 e4 e5 e6 e7 e8
                    refine bodyPost_ret (v := .tuple #[.agg #[.int .i64 k0, .int .i64 k1, .int .i64 k2, .int .i64 k3, .int .i64 X2, .int .i64 V, .int .i64 A2, .int .i64 k7, .int .i64 T], .bool false]) (by simp [results, Try.results106, go_sem, e0, e1, e2, e3, e4, e5, e6, e7, e8]) rfl ?_
                    exact ⟨by rw [HN.out]; rfl, hb2⟩
end Go.Proofs.Ytkcknikaidbeoaa
