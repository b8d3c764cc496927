/- Texts Ste, Spi, Ply in one. -/
import Derived.Test.YtmamihkcikgmcaaKG
import Derived.Test.YtmamihkcikgmcaaKH
import Derived.Test.YtmamihkcikgmcaaKM
/- l02Steer, the reference's. -/
namespace Go.Proofs.Ytmamihkcikgmcaa
open Go.RowKit
theorem stT_pos {t : Int} (h : 0 < t) : stT t = t - 1 := by unfold stT; rw [if_pos h]
theorem stT_neg {t : Int} (h : ¬ 0 < t) : stT t = t := by unfold stT; rw [if_neg h]
theorem in16 {i : Int} (h : 0 ≤ i ∧ i ≤ 15) : i = 0 ∨ i = 1 ∨ i = 2 ∨ i = 3 ∨ i = 4 ∨ i = 5 ∨ i = 6 ∨ i = 7 ∨ i = 8 ∨ i = 9 ∨ i = 10 ∨ i = 11 ∨ i = 12 ∨ i = 13 ∨ i = 14 ∨ i = 15 := by omega
theorem bits1 {i : Int} (h : 0 ≤ i ∧ i ≤ 15) : bits .and .i64 i 1 = if bitL i = true then 1 else 0 := by
  rcases in16 h with rfl | rfl | rfl | rfl | rfl | rfl | rfl | rfl | rfl | rfl | rfl | rfl | rfl | rfl | rfl | rfl <;> decide
theorem bits2 {i : Int} (h : 0 ≤ i ∧ i ≤ 15) : bits .and .i64 i 2 = if bitR i = true then 2 else 0 := by
  rcases in16 h with rfl | rfl | rfl | rfl | rfl | rfl | rfl | rfl | rfl | rfl | rfl | rfl | rfl | rfl | rfl | rfl <;> decide
theorem bits4 {i : Int} (h : 0 ≤ i ∧ i ≤ 15) : bits .and .i64 i 4 = if bitJ i = true then 4 else 0 := by
  rcases in16 h with rfl | rfl | rfl | rfl | rfl | rfl | rfl | rfl | rfl | rfl | rfl | rfl | rfl | rfl | rfl | rfl <;> decide
theorem bits8 {i : Int} (h : 0 ≤ i ∧ i ≤ 15) : bits .and .i64 i 8 = if bitF i = true then 8 else 0 := by
  rcases in16 h with rfl | rfl | rfl | rfl | rfl | rfl | rfl | rfl | rfl | rfl | rfl | rfl | rfl | rfl | rfl | rfl <;> decide
set_option maxRecDepth 100000 in
set_option maxHeartbeats 16000000 in
theorem l02steer_ret {u : Value} {l : List ByteArray} (b : Bd) (i : Int) (w : World) (h : At w 1 u l.length (l.map Value.string)) (hm : l.length ≤ 1048576) (hz : ∀ s ∈ l, s.size ≤ 1048576) (hi : 0 ≤ i ∧ i ≤ 15) (ht : 0 ≤ b.timer ∧ b.timer ≤ 20) (hk : b.kind = 0) (hy : -15 ≤ b.vy ∧ b.vy ≤ 15) (hx : 0 ≤ b.y ∧ b.y ≤ 1000) :
    Calls Try.prog 128 #[.agg #[u], b.val, .int .i64 i] w fun e w' => e = .returned (.tuple #[(steerU l b i).1.val, .bool (steerU l b i).2]) ∧ Below w.heap.size w w' := by
  obtain ⟨k0, k1, k2, k3, k4, k5, k6, k7, k8⟩ := b
  simp only at ht hk hy hx
  have HS : ∀ a c wx, Below w.heap.size w wx → Calls Try.prog 139 #[.agg #[u], .int .i64 a, .int .i64 c, .int .i64 12] wx fun e w' => e = .returned (.bool (solT l a c 12)) ∧ Below wx.heap.size wx w' := fun a c wx hb => solid_spec a c 12 wx (h.below hb) hm hz (by omega) (by omega)
  rw [show (Bd.mk k0 k1 k2 k3 k4 k5 k6 k7 k8).val = .agg #[.int .i64 k0, .int .i64 k1, .int .i64 k2, .int .i64 k3, .int .i64 k4, .int .i64 k5, .int .i64 k6, .int .i64 k7, .int .i64 k8] from rfl]
  have HKD := Lib.hid hk; clear hk
  go_enter Try.func128, Try.ntmps128
  go_upto_region 1 with (fail)
  generalize hw1 : ((w.alloc _).alloc _).alloc _ = w1
  have hb1 : Below w.heap.size w w1 := by rw [← hw1]; exact (((Below.refl _ _).alloc (Nat.le_refl _) _).alloc (by simp) _).alloc (by simp; omega) _
  have hL1 : w1.cell? ⟨w.heap.size, 0, none⟩ = some u := by rw [← hw1]; exact cell_alloc_lt (cell_alloc_lt (World.cell?_alloc_new w _ _ 0) _ (by simp)) _ (by simp; omega)
  have hB1 : Blk w1 (w.heap.size + 1) ⟨k0, k1, k2, k3, k4, k5, k6, k7, k8⟩ := by
    rw [← hw1]
    have := (Blk.new (w.alloc (.cells #[u] 27)) 42 ⟨k0, k1, k2, k3, k4, k5, k6, k7, k8⟩).alloc (.cells #[.int .i64 0, .int .i64 0, .int .i64 0, .int .i64 0, .int .i64 0, .int .i64 0, .int .i64 0, .int .i64 0, .int .i64 0] 42)
    rwa [show (w.alloc (.cells #[u] 27)).heap.size = w.heap.size + 1 by simp] at this
  have hR1 : Blk w1 (w.heap.size + 2) zB := by
    rw [← hw1]
    have := Blk.new ((w.alloc (.cells #[u] 27)).alloc (.cells #[.int .i64 k0, .int .i64 k1, .int .i64 k2, .int .i64 k3, .int .i64 k4, .int .i64 k5, .int .i64 k6, .int .i64 k7, .int .i64 k8] 42)) 42 zB
    rwa [show ((w.alloc (.cells #[u] 27)).alloc (.cells #[.int .i64 k0, .int .i64 k1, .int .i64 k2, .int .i64 k3, .int .i64 k4, .int .i64 k5, .int .i64 k6, .int .i64 k7, .int .i64 k8] 42)).heap.size = w.heap.size + 2 by simp] at this
  clear hw1
  obtain ⟨_, c0, c1, c2, c3, c4, c5, c6, c7, c8, f0, f1, f2, f3, f4, f5, f6, f7, f8⟩ := id hB1
  simp only at c0 c1 c2 c3 c4 c5 c6 c7 c8
  go_upto_if 10 with (fail)
  go_cut [7] (fun st wx => st = .bool false ∧ Blk wx (w.heap.size + 1) ⟨k0, k1, k2, k3, k4, k5, k6, k7, stT k8⟩ ∧ Blk wx (w.heap.size + 2) zB ∧ wx.cell? ⟨w.heap.size, 0, none⟩ = some u ∧ Below w.heap.size w wx)
  case first =>
    by_cases h0 : 0 < k8
    · have HN := Lib.hid (stT_pos h0)
      go_wp2_with fail
      go_meet
      case rel => exact ⟨rfl, by rw [HN.out]; exact hB1.set8 _, hR1.other (by show w.heap.size + 1 ≠ w.heap.size + 2; omega) _, cell_set_ne hL1 (by show w.heap.size + 1 ≠ w.heap.size; omega), hb1.setCell (by show w.heap.size ≤ w.heap.size + 1; omega) _⟩
    · have HN := Lib.hid (stT_neg h0)
      go_wp2_with fail
      go_meet
      case rel => exact ⟨rfl, by rw [HN.out]; exact hB1, hR1, hL1, hb1⟩
  case rest =>
    clear hB1 hR1 hL1 hb1 c0 c1 c2 c3 c4 c5 c6 c7 c8 f0 f1 f2 f3 f4 f5 f6 f7 f8
    obtain ⟨wq, rfl⟩ : ∃ wq : World, wq = wc := ⟨_, rfl⟩
    obtain ⟨rfl, hB1, hR1, hL1, hb1⟩ := hcut
    obtain ⟨_, c0, c1, c2, c3, c4, c5, c6, c7, c8, f0, f1, f2, f3, f4, f5, f6, f7, f8⟩ := id hB1
    simp only at c0 c1 c2 c3 c4 c5 c6 c7 c8
    go_upto_region 4 with (fail)
    have hB2 := hB1.set4 0
    have hR2 := hR1.other (p := ⟨w.heap.size + 1, 4, none⟩) (by show w.heap.size + 1 ≠ w.heap.size + 2; omega) (.int .i64 0)
    have hL2 := cell_set_ne (v := .int .i64 0) (p := ⟨w.heap.size + 1, 4, none⟩) hL1 (by show w.heap.size + 1 ≠ w.heap.size; omega)
    have hb2 := hb1.setCell (p := ⟨w.heap.size + 1, 4, none⟩) (by show w.heap.size ≤ w.heap.size + 1; omega) (.int .i64 0)
    generalize hwn : World.setCell wq _ _ = wn
    rw [hwn] at hB2 hR2 hL2 hb2
    clear hwn hB1 hR1 hL1 hb1 c0 c1 c2 c3 c4 c5 c6 c7 c8 f0 f1 f2 f3 f4 f5 f6 f7 f8
    simp only at hB2
    go_cut [23] (fun st wx => st = .bool (bitR i && !bitL i) ∧ wx = wn)
    case first =>
      have b1 := bits1 hi
      have b2 := bits2 hi
      cases hr : bitR i <;> cases hl : bitL i <;> simp only [hr, hl, if_true, Bool.false_eq_true, if_false] at b1 b2
      all_goals
        go_wp2_with fail
        go_meet
        case rel => exact ⟨by rw [hr, hl]; rfl, rfl⟩
    case rest =>
      obtain ⟨wr, rfl⟩ : ∃ wr : World, wr = wc := ⟨_, rfl⟩
      obtain ⟨rfl, rfl⟩ := hcut
      obtain ⟨_, c0, c1, c2, c3, c4, c5, c6, c7, c8, f0, f1, f2, f3, f4, f5, f6, f7, f8⟩ := id hB2
      simp only at c0 c1 c2 c3 c4 c5 c6 c7 c8
      go_upto_if 23 with (fail)
      go_cut [7] (fun st wx => st = .bool false ∧ Blk wx (w.heap.size + 1) ⟨k0, k1, k2, k3, (if (bitR i && !bitL i) = true then 3 else 0), k5, (if (bitR i && !bitL i) = true then 1 else k6), k7, stT k8⟩ ∧ Blk wx (w.heap.size + 2) zB ∧ wx.cell? ⟨w.heap.size, 0, none⟩ = some u ∧ Below w.heap.size w wx)
      case first =>
        cases hr : (bitR i && !bitL i)
        all_goals
          go_wp2_with fail
          go_meet
          case rel => simp only [hr, Bool.false_eq_true, if_false, if_true]; first | exact ⟨trivial, hB2, hR2, hL2, hb2⟩ | exact ⟨rfl, hB2, hR2, hL2, hb2⟩ | exact ⟨by trivial, (hB2.set4 3).set6 1, (hR2.other (by show w.heap.size + 1 ≠ w.heap.size + 2; omega) _).other (by show w.heap.size + 1 ≠ w.heap.size + 2; omega) _, cell_set_ne (cell_set_ne hL2 (by show w.heap.size + 1 ≠ w.heap.size; omega)) (by show w.heap.size + 1 ≠ w.heap.size; omega), (hb2.setCell (by show w.heap.size ≤ w.heap.size + 1; omega) _).setCell (by show w.heap.size ≤ w.heap.size + 1; omega) _⟩
      case rest =>
        clear hB2 hR2 hL2 hb2 c0 c1 c2 c3 c4 c5 c6 c7 c8 f0 f1 f2 f3 f4 f5 f6 f7 f8
        obtain ⟨ws, rfl⟩ : ∃ ws : World, ws = wc := ⟨_, rfl⟩
        obtain ⟨rfl, hB2, hR2, hL2, hb2⟩ := hcut
        obtain ⟨X1, hX1⟩ : ∃ X : Int, X = (if (bitR i && !bitL i) = true then 3 else 0) := ⟨_, rfl⟩
        obtain ⟨A1, hA1⟩ : ∃ X : Int, X = (if (bitR i && !bitL i) = true then 1 else k6) := ⟨_, rfl⟩
        rw [← hX1, ← hA1] at hB2
        go_upto_region 7 with (fail)
        go_cut [33] (fun st wx => st = .bool (bitL i && !bitR i) ∧ wx = ws)
        case first =>
          have b1 := bits1 hi
          have b2 := bits2 hi
          clear hX1 hA1
          cases hr : bitR i <;> cases hl : bitL i <;> simp only [hr, hl, if_true, Bool.false_eq_true, if_false] at b1 b2
          all_goals
            go_wp2_with fail
            go_meet
            case rel => exact ⟨by rw [hr, hl]; rfl, rfl⟩
        case rest =>
          obtain ⟨wr, rfl⟩ : ∃ wr : World, wr = wc := ⟨_, rfl⟩
          obtain ⟨rfl, rfl⟩ := hcut
          obtain ⟨_, c0, c1, c2, c3, c4, c5, c6, c7, c8, f0, f1, f2, f3, f4, f5, f6, f7, f8⟩ := id hB2
          simp only at c0 c1 c2 c3 c4 c5 c6 c7 c8
          go_upto_if 33 with (fail)
          go_cut [7] (fun st wx => st = .bool false ∧ Blk wx (w.heap.size + 1) ⟨k0, k1, k2, k3, (if (bitL i && !bitR i) = true then -3 else X1), k5, (if (bitL i && !bitR i) = true then -1 else A1), k7, stT k8⟩ ∧ Blk wx (w.heap.size + 2) zB ∧ wx.cell? ⟨w.heap.size, 0, none⟩ = some u ∧ Below w.heap.size w wx)
          case first =>
            clear hX1 hA1
            cases hr : (bitL i && !bitR i)
            all_goals
              go_wp2_with fail
              go_meet
              case rel => simp only [hr, Bool.false_eq_true, if_false, if_true]; first | exact ⟨trivial, hB2, hR2, hL2, hb2⟩ | exact ⟨by trivial, (hB2.set4 (-3)).set6 (-1), (hR2.other (by show w.heap.size + 1 ≠ w.heap.size + 2; omega) _).other (by show w.heap.size + 1 ≠ w.heap.size + 2; omega) _, cell_set_ne (cell_set_ne hL2 (by show w.heap.size + 1 ≠ w.heap.size; omega)) (by show w.heap.size + 1 ≠ w.heap.size; omega), (hb2.setCell (by show w.heap.size ≤ w.heap.size + 1; omega) _).setCell (by show w.heap.size ≤ w.heap.size + 1; omega) _⟩
          case rest =>
            clear hB2 hR2 hL2 hb2 c0 c1 c2 c3 c4 c5 c6 c7 c8 f0 f1 f2 f3 f4 f5 f6 f7 f8
            obtain ⟨wt, rfl⟩ : ∃ wt : World, wt = wc := ⟨_, rfl⟩
            obtain ⟨rfl, hB2, hR2, hL2, hb2⟩ := hcut
            obtain ⟨X2, hX2⟩ : ∃ X : Int, X = (if (bitL i && !bitR i) = true then -3 else X1) := ⟨_, rfl⟩
            obtain ⟨A2, hA2⟩ : ∃ X : Int, X = (if (bitL i && !bitR i) = true then -1 else A1) := ⟨_, rfl⟩
            rw [← hX2, ← hA2] at hB2
            obtain ⟨_, c0, c1, c2, c3, c4, c5, c6, c7, c8, f0, f1, f2, f3, f4, f5, f6, f7, f8⟩ := id hB2
            simp only at c0 c1 c2 c3 c4 c5 c6 c7 c8
            go_upto_region 10 with (fail)
            go_cut [50] (fun st wx => st = .bool (bitJ i && solT l k2 (k3 + 1) 12) ∧ Below wt.heap.size wt wx)
            case first =>
              have b4 := bits4 hi
              cases hj : bitJ i <;> simp only [hj, if_true, Bool.false_eq_true, if_false] at b4
              case false =>
                refine wp_region_tailV 13 (by kernel_rfl) (by kernel_rfl) ?_
                intro OPS HOPS
                have g3 : Hid ((OPS[3]?).bind (·.dst) = some 39) := Lib.hid (by rw [HOPS.out]; kernel_rfl)
                simp only [List.take_succ_cons, List.take_zero, List.drop_succ_cons, List.drop_zero]
                still_step
                still_step
                still_step
                still_step
                refine wpStill_skip ((wanted_of (j := 3) (d := 39) (b := true) (v := false) rfl g3.out rfl).trans rfl) ?_
                simp only [Act.put, List.setIfInBounds_toArray, List.set_cons_zero, List.set_cons_succ]
                refine wpStill_skip ((wanted_of (j := 3) (d := 39) (b := true) (v := false) rfl g3.out rfl).trans rfl) ?_
                simp only [Act.put, List.setIfInBounds_toArray, List.set_cons_zero, List.set_cons_succ]
                refine wpStill_skip ((wanted_of (j := 3) (d := 39) (b := true) (v := false) rfl g3.out rfl).trans rfl) ?_
                simp only [Act.put, List.setIfInBounds_toArray, List.set_cons_zero, List.set_cons_succ]
                refine wpStill_skip ((wanted_of (j := 3) (d := 39) (b := true) (v := false) rfl g3.out rfl).trans rfl) ?_
                simp only [Act.put, List.setIfInBounds_toArray, List.set_cons_zero, List.set_cons_succ]
                refine wpStill_skip ((wanted_of (j := 3) (d := 39) (b := true) (v := false) rfl g3.out rfl).trans rfl) ?_
                simp only [Act.put, List.setIfInBounds_toArray, List.set_cons_zero, List.set_cons_succ]
                refine wpStill_skip ((wanted_of (j := 3) (d := 39) (b := true) (v := false) rfl g3.out rfl).trans rfl) ?_
                simp only [Act.put, List.setIfInBounds_toArray, List.set_cons_zero, List.set_cons_succ]
                refine wpStill_skip ((wanted_of (j := 3) (d := 39) (b := true) (v := false) rfl g3.out rfl).trans rfl) ?_
                simp only [Act.put, List.setIfInBounds_toArray, List.set_cons_zero, List.set_cons_succ]
                refine wpStill_skip ((wanted_of (j := 3) (d := 39) (b := true) (v := false) rfl g3.out rfl).trans rfl) ?_
                simp only [Act.put, List.setIfInBounds_toArray, List.set_cons_zero, List.set_cons_succ]
                refine wpStill_skip ((wanted_of (j := 3) (d := 39) (b := true) (v := false) rfl g3.out rfl).trans rfl) ?_
                simp only [Act.put, List.setIfInBounds_toArray, List.set_cons_zero, List.set_cons_succ]
                refine wpStill_nil ?_
                change wpList _ _ _ _ _ wt.drew
                go_wp2_with fail
                go_meet
                case rel => exact ⟨by rw [hj]; rfl, (Below.refl _ _).drew⟩
              case true =>
                refine wp_region_tailV 13 (by kernel_rfl) (by kernel_rfl) ?_
                intro OPS HOPS
                have g3 : Hid ((OPS[3]?).bind (·.dst) = some 39) := Lib.hid (by rw [HOPS.out]; kernel_rfl)
                simp only [List.take_succ_cons, List.take_zero, List.drop_succ_cons, List.drop_zero]
                still_step
                still_step
                still_step
                still_step
                refine wpStill_wantG 3 39 true true rfl g3.out rfl rfl (fun K hK => ?_)
                go_simp
                refine hK _ ?_
                clear hK K
                refine wpStill_wantG 3 39 true true rfl g3.out rfl rfl (fun K hK => ?_)
                go_simp
                refine hK _ ?_
                clear hK K
                refine wpStill_wantG 3 39 true true rfl g3.out rfl rfl (fun K hK => ?_)
                go_simp
                refine hK _ ?_
                clear hK K
                refine wpStill_wantG 3 39 true true rfl g3.out rfl rfl (fun K hK => ?_)
                go_simp
                refine hK _ ?_
                clear hK K
                refine wpStill_wantG 3 39 true true rfl g3.out rfl rfl (fun K hK => ?_)
                go_simp
                refine hK _ ?_
                clear hK K
                refine wpStill_wantG 3 39 true true rfl g3.out rfl rfl (fun K hK => ?_)
                go_simp
                refine hK _ ?_
                clear hK K
                refine wpStill_wantG 3 39 true true rfl g3.out rfl rfl (fun K hK => ?_)
                go_simp
                refine hK _ ?_
                clear hK K
                refine wpStill_wantG 3 39 true true rfl g3.out rfl rfl (fun K hK => ?_)
                go_simp
                refine hK _ ?_
                clear hK K
                refine wpStill_wantG 3 39 true true rfl g3.out rfl rfl (fun K hK => ?_)
                go_simp
                refine ⟨_, (sz_spec _ _).mono (fun e w' h => ⟨h.1, h.2.symm⟩), hK _ ?_⟩
                clear hK K
                refine wpStill_nil ?_
                change wpList _ _ _ _ _ wt.drew
                rw [show szOf k0 = 12 by rw [HKD.out]; rfl]
                go_wp2_with fail
                refine (HS k2 (k3 + 1) wt.drew hb2.drew).mono ?_
                rintro e wa ⟨rfl, ha⟩
                go_wp2_with fail
                go_meet
                case rel => exact ⟨by rw [hj]; rfl, ((Below.refl wt.heap.size wt).drew).trans (ha.mono (Nat.le_refl _))⟩
            case rest =>
              obtain ⟨wu, rfl⟩ : ∃ wu : World, wu = wc := ⟨_, rfl⟩
              obtain ⟨rfl, hbz⟩ := hcut
              have hB3 := hB2.below hbz hB2.lt
              have hR3 := hR2.below hbz hR2.lt
              have hb3 := hb2.trans (hbz.mono hb2.size)
              clear hB2 hR2 hL2 hb2 hbz c0 c1 c2 c3 c4 c5 c6 c7 c8 f0 f1 f2 f3 f4 f5 f6 f7 f8
              obtain ⟨SJ, hSJ⟩ : ∃ X : Bool, (bitJ i && solT l k2 (k3 + 1) 12) = X := ⟨_, rfl⟩
              rw [hSJ]
              obtain ⟨_, c0, c1, c2, c3, c4, c5, c6, c7, c8, f0, f1, f2, f3, f4, f5, f6, f7, f8⟩ := id hB3
              simp only at c0 c1 c2 c3 c4 c5 c6 c7 c8
              go_upto_if 50 with (fail)
              go_cut [7] (fun st wx => st = .bool false ∧ Blk wx (w.heap.size + 1) ⟨k0, k1, k2, k3, X2, (if SJ = true then -9 else min (k5 + 1) 8), A2, k7, stT k8⟩ ∧ Blk wx (w.heap.size + 2) zB ∧ Below w.heap.size w wx)
              case first =>
                clear hX1 hA1 hX2 hA2 hSJ
                cases SJ
                case true =>
                  go_wp2_with fail
                  go_meet
                  case rel => simp only [if_true]; exact ⟨by trivial, hB3.set5 _, hR3.other (by show w.heap.size + 1 ≠ w.heap.size + 2; omega) _, hb3.setCell (by show w.heap.size ≤ w.heap.size + 1; omega) _⟩
                case false =>
                  by_cases hmn : k5 + 1 ≤ 8
                  · have HMN : Hid (min (k5 + 1) 8 = k5 + 1) := Lib.hid (by omega)
                    go_wp2_with fail
                    go_meet
                    case rel => simp only [Bool.false_eq_true, if_false, HMN.out]; exact ⟨by trivial, hB3.set5 _, hR3.other (by show w.heap.size + 1 ≠ w.heap.size + 2; omega) _, hb3.setCell (by show w.heap.size ≤ w.heap.size + 1; omega) _⟩
                  · have HMN : Hid (min (k5 + 1) 8 = 8) := Lib.hid (by omega)
                    go_wp2_with fail
                    go_meet
                    case rel => simp only [Bool.false_eq_true, if_false, HMN.out]; exact ⟨by trivial, hB3.set5 _, hR3.other (by show w.heap.size + 1 ≠ w.heap.size + 2; omega) _, hb3.setCell (by show w.heap.size ≤ w.heap.size + 1; omega) _⟩
              case rest =>
                clear hB3 hR3 hb3 c0 c1 c2 c3 c4 c5 c6 c7 c8 f0 f1 f2 f3 f4 f5 f6 f7 f8
                obtain ⟨wv, rfl⟩ : ∃ wv : World, wv = wc := ⟨_, rfl⟩
                obtain ⟨rfl, hB3, hR3, hb3⟩ := hcut
                have HXE : X2 = stVX i := by rw [hX2, hX1]; unfold stVX; cases bitR i <;> cases bitL i <;> rfl
                have HAE : A2 = stAim i k6 := by rw [hA2, hA1]; unfold stAim; cases bitR i <;> cases bitL i <;> rfl
                have HVE : (if SJ = true then -9 else min (k5 + 1) 8) = stVY l i ⟨k0, k1, k2, k3, k4, k5, k6, k7, k8⟩ := by rw [← hSJ]; unfold stVY; simp only [Bool.and_eq_true]
                obtain ⟨V, hV⟩ : ∃ V : Int, (if SJ = true then -9 else min (k5 + 1) 8) = V := ⟨_, rfl⟩
                rw [hV] at HVE hB3
                have HNA : Hid (stFire i k8 = true → steerU l ⟨k0, k1, k2, k3, k4, k5, k6, k7, k8⟩ i = (⟨k0, k1, k2, k3, X2, V, A2, k7, 12⟩, true)) := Lib.hid fun hf => by unfold steerU; simp only [hf, if_true]; rw [HXE, HAE, HVE]
                have HNB : Hid (stFire i k8 = false → steerU l ⟨k0, k1, k2, k3, k4, k5, k6, k7, k8⟩ i = (⟨k0, k1, k2, k3, X2, V, A2, k7, stT k8⟩, false)) := Lib.hid fun hf => by unfold steerU; simp only [hf, Bool.false_eq_true, if_false]; rw [HXE, HAE, HVE]
                have HFD : Hid (stFire i k8 = (bitF i && decide (stT k8 = 0))) := Lib.hid rfl
                clear hX1 hX2 hA1 hA2 hSJ hV HXE HAE HVE
                obtain ⟨T, hT⟩ : ∃ T : Int, stT k8 = T := ⟨_, rfl⟩
                rw [hT] at HNB hB3 HFD
                clear hT
                have b8 := bits8 hi
                obtain ⟨_, c0, c1, c2, c3, c4, c5, c6, c7, c8, f0, f1, f2, f3, f4, f5, f6, f7, f8⟩ := id hB3
                simp only at c0 c1 c2 c3 c4 c5 c6 c7 c8
                by_cases hF : bitF i = true ∧ T = 0
                · have HN := Lib.hid (HNA.out (by rw [HFD.out, hF.1, hF.2]; rfl))
                  rw [if_pos hF.1] at b8
                  obtain ⟨_, h0⟩ := hF
                  go_upto_region 15 with (fail)
                  have hB4 := hB3.set8 12
                  have hR4 := hR3.other (p := ⟨w.heap.size + 1, 8, none⟩) (by show w.heap.size + 1 ≠ w.heap.size + 2; omega) (.int .i64 12)
                  have hb4 := hb3.setCell (p := ⟨w.heap.size + 1, 8, none⟩) (by show w.heap.size ≤ w.heap.size + 1; omega) (.int .i64 12)
                  generalize hwn : World.setCell wv _ _ = wy
                  rw [hwn] at hB4 hR4 hb4
                  clear hwn hB3 hR3 hb3 c0 c1 c2 c3 c4 c5 c6 c7 c8 f0 f1 f2 f3 f4 f5 f6 f7 f8
                  obtain ⟨_, c0, c1, c2, c3, c4, c5, c6, c7, c8, f0, f1, f2, f3, f4, f5, f6, f7, f8⟩ := id hB4
                  simp only at c0 c1 c2 c3 c4 c5 c6 c7 c8
                  obtain ⟨hltr, r0, r1, r2, r3, r4, r5, r6, r7, r8, q0, q1, q2, q3, q4, q5, q6, q7, q8⟩ := id hR4
                  go_wp2_with fail
                  have hb2 := below_put9 hb4 (show w.heap.size ≤ w.heap.size + 1 + 1 by omega) ⟨k0, k1, k2, k3, X2, V, A2, k7, 12⟩
                  have hB2 := Blk.put9 (g := w.heap.size + 1 + 1) hR4 ⟨k0, k1, k2, k3, X2, V, A2, k7, 12⟩
                  change bodyPost _ _ _ _ _ (put9 wy (w.heap.size + 1 + 1) ⟨k0, k1, k2, k3, X2, V, A2, k7, 12⟩)
                  generalize put9 wy (w.heap.size + 1 + 1) ⟨k0, k1, k2, k3, X2, V, A2, k7, 12⟩ = wn at hb2 hB2 ⊢
                  obtain ⟨_, e0, e1, e2, e3, e4, e5, e6, e7, e8, _⟩ := hB2
                  simp only at e0 e1 e2 e3 e4 e5 e6 e7 e8
                  refine bodyPost_ret (v := .tuple #[.agg #[.int .i64 k0, .int .i64 k1, .int .i64 k2, .int .i64 k3, .int .i64 X2, .int .i64 V, .int .i64 A2, .int .i64 k7, .int .i64 12], .bool true]) (by simp [results, Try.results128, go_sem, e0, e1, e2, e3, e4, e5, e6, e7, e8]) rfl ?_
                  exact ⟨by rw [HN.out]; rfl, hb2⟩
                · have HN := Lib.hid (HNB.out (by rw [HFD.out]; cases hf : bitF i <;> simp_all))
                  by_cases hf : bitF i = true
                  · rw [if_pos hf] at b8
                    have h0 : T ≠ 0 := fun hh => hF ⟨hf, hh⟩
                    clear hF hf
                    obtain ⟨hltr, r0, r1, r2, r3, r4, r5, r6, r7, r8, q0, q1, q2, q3, q4, q5, q6, q7, q8⟩ := id hR3
                    go_wp2_with fail
                    have hb2 := below_put9 hb3 (show w.heap.size ≤ w.heap.size + 1 + 1 by omega) ⟨k0, k1, k2, k3, X2, V, A2, k7, T⟩
                    have hB2 := Blk.put9 (g := w.heap.size + 1 + 1) hR3 ⟨k0, k1, k2, k3, X2, V, A2, k7, T⟩
                    change bodyPost _ _ _ _ _ (put9 wv (w.heap.size + 1 + 1) ⟨k0, k1, k2, k3, X2, V, A2, k7, T⟩)
                    generalize put9 wv (w.heap.size + 1 + 1) ⟨k0, k1, k2, k3, X2, V, A2, k7, T⟩ = wn at hb2 hB2 ⊢
                    obtain ⟨_, e0, e1, e2, e3, e4, e5, e6, e7, e8, _⟩ := hB2
                    simp only at e0 e1 e2 e3 e4 e5 e6 e7 e8
                    refine bodyPost_ret (v := .tuple #[.agg #[.int .i64 k0, .int .i64 k1, .int .i64 k2, .int .i64 k3, .int .i64 X2, .int .i64 V, .int .i64 A2, .int .i64 k7, .int .i64 T], .bool false]) (by simp [results, Try.results128, go_sem, e0, e1, e2, e3, e4, e5, e6, e7, e8]) rfl ?_
                    exact ⟨by rw [HN.out]; rfl, hb2⟩
                  · rw [if_neg hf] at b8
                    clear hF hf
                    obtain ⟨hltr, r0, r1, r2, r3, r4, r5, r6, r7, r8, q0, q1, q2, q3, q4, q5, q6, q7, q8⟩ := id hR3
                    go_wp2_with fail
                    have hb2 := below_put9 hb3 (show w.heap.size ≤ w.heap.size + 1 + 1 by omega) ⟨k0, k1, k2, k3, X2, V, A2, k7, T⟩
                    have hB2 := Blk.put9 (g := w.heap.size + 1 + 1) hR3 ⟨k0, k1, k2, k3, X2, V, A2, k7, T⟩
                    change bodyPost _ _ _ _ _ (put9 wv (w.heap.size + 1 + 1) ⟨k0, k1, k2, k3, X2, V, A2, k7, T⟩)
                    generalize put9 wv (w.heap.size + 1 + 1) ⟨k0, k1, k2, k3, X2, V, A2, k7, T⟩ = wn at hb2 hB2 ⊢
                    obtain ⟨_, e0, e1, e2, e3, e4, e5, e6, e7, e8, _⟩ := hB2
                    simp only at e0 e1 e2 e3 e4 e5 e6 e7 e8
                    refine bodyPost_ret (v := .tuple #[.agg #[.int .i64 k0, .int .i64 k1, .int .i64 k2, .int .i64 k3, .int .i64 X2, .int .i64 V, .int .i64 A2, .int .i64 k7, .int .i64 T], .bool false]) (by simp [results, Try.results128, go_sem, e0, e1, e2, e3, e4, e5, e6, e7, e8]) rfl ?_
                    exact ⟨by rw [HN.out]; rfl, hb2⟩
end Go.Proofs.Ytmamihkcikgmcaa
/- SteerPlayer, the program's. -/
namespace Go.Proofs.Ytmamihkcikgmcaa
open Go.RowKit

theorem steerOk_iff {l : List ByteArray} {b : Bd} {i : Int} : steerOk l b i = true ↔ b.kind = 0 ∧ 1 ≤ b.life ∧ (0 ≤ b.owner ∧ b.owner ≤ 3) ∧ (0 ≤ i ∧ i ≤ 15) ∧ okBd l (b.owner + 1) b = true := by
  unfold steerOk
  simp only [Bool.and_eq_true, decide_eq_true_eq]
theorem steerB_no {l : List ByteArray} {b : Bd} {i : Int} (h : ¬ (b.kind = 0 ∧ 1 ≤ b.life ∧ (0 ≤ b.owner ∧ b.owner ≤ 3) ∧ (0 ≤ i ∧ i ≤ 15) ∧ okBd l (b.owner + 1) b = true)) : steerB l b i = (b, false) := by
  unfold steerB
  rw [if_neg (fun e => h (steerOk_iff.1 e))]
theorem steerB_yes {l : List ByteArray} {b : Bd} {i : Int} (h : b.kind = 0 ∧ 1 ≤ b.life ∧ (0 ≤ b.owner ∧ b.owner ≤ 3) ∧ (0 ≤ i ∧ i ≤ 15) ∧ okBd l (b.owner + 1) b = true) : steerB l b i = steerU l b i := by
  unfold steerB
  rw [if_pos (steerOk_iff.2 h)]
theorem okBd_pl2 {l : List ByteArray} {b : Bd} (h : okBd l (b.owner + 1) b = true) (h0 : b.kind = 0) (ho : 0 ≤ b.owner) : (0 ≤ b.timer ∧ b.timer ≤ 20) ∧ (-15 ≤ b.vy ∧ b.vy ≤ 15) ∧ (0 ≤ b.y ∧ b.y ≤ 1000) := by
  have hp := okBd_pl (k := b.owner.toNat) h h0 (by omega)
  have hl := lvT_lv (okBd_lv h)
  have := free_bd hl (by omega) (by omega) hp.free
  refine ⟨?_, hp.vy, by omega⟩
  by_cases e : b.life = 0
  · have := hp.dead e; omega
  · have := hp.live e; omega
set_option maxRecDepth 100000 in
set_option maxHeartbeats 16000000 in
theorem steer_impl {u : Value} {l : List ByteArray} (b : Bd) (i : Int) (w : World) (h : At w 1 u l.length (l.map Value.string)) (hm : l.length ≤ 1048576) (hz : ∀ s ∈ l, s.size ≤ 1048576) (hw : BWf b) :
    Calls Try.prog 31 #[.agg #[u], b.val, .int .i64 i] w fun e w' => e = .returned (.tuple #[(steerB l b i).1.val, .bool (steerB l b i).2]) ∧ Below w.heap.size w w' := by
  have HNO := Lib.hid (steerB_no (l := l) (b := b) (i := i))
  have HYES := Lib.hid (steerB_yes (l := l) (b := b) (i := i))
  have HPL := Lib.hid (okBd_pl2 (l := l) (b := b))
  have HLV := Lib.hid (okBd_lv (l := l) (n := b.owner + 1) (b := b))
  have HL : ∀ wx, Below w.heap.size w wx → Calls Try.prog 58 #[.agg #[u]] wx fun e w' => e = .returned (.bool (lvT l)) ∧ Below wx.heap.size wx w' := fun wx hx => lvok_impl wx (h.below hx) hm hz
  have HBO : ∀ wx, Below w.heap.size w wx → Calls Try.prog 54 #[.agg #[u], .int .i64 (b.owner + 1), b.val] wx fun e w' => e = .returned (.bool (okBd l (b.owner + 1) b)) ∧ Below wx.heap.size wx w' := fun wx hx => bok_impl (b.owner + 1) b wx (h.below hx) hm hz hw
  have HSA : ∀ a c wx, lvT l = true → Below w.heap.size w wx → (-9223372036854775808 ≤ a ∧ a ≤ 9223372036854775807) → (-9223372036854775808 ≤ c ∧ c ≤ 9223372036854775807) → Calls Try.prog 23 #[.agg #[u], .int .i64 a, .int .i64 c, .int .i64 12] wx fun e w' => e = .returned (.bool (solT l a c 12)) ∧ Below wx.heap.size wx w' := fun a c wx hv hb h1 h2 => by
    have := solat_impl a c 12 wx (h.below hb) hm hz h1 h2
    rwa [show solA l a c 12 = solT l a c 12 from by unfold solA; rw [if_pos ⟨by omega, by omega, hv⟩]] at this
  obtain ⟨hxw, _⟩ := hw
  obtain ⟨BV, hBV⟩ : ∃ BV, b.val = BV := ⟨_, rfl⟩

  obtain ⟨k0, k1, k2, k3, k4, k5, k6, k7, k8⟩ := b
  simp only at HNO HYES HPL HLV HBO hxw
  subst hBV
  rw [show (Bd.mk k0 k1 k2 k3 k4 k5 k6 k7 k8).val = .agg #[.int .i64 k0, .int .i64 k1, .int .i64 k2, .int .i64 k3, .int .i64 k4, .int .i64 k5, .int .i64 k6, .int .i64 k7, .int .i64 k8] from rfl] at HBO ⊢
  go_enter Try.func31, Try.ntmps31
  go_upto_region 1 with (fail)
  generalize hw1 : ((w.alloc _).alloc _).alloc _ = w1
  have hb1 : Below w.heap.size w w1 := by rw [← hw1]; exact (((Below.refl _ _).alloc (Nat.le_refl _) _).alloc (by simp) _).alloc (by simp; omega) _
  have hL1 : w1.cell? ⟨w.heap.size, 0, none⟩ = some u := by rw [← hw1]; exact cell_alloc_lt (cell_alloc_lt (World.cell?_alloc_new w _ _ 0) _ (by simp)) _ (by simp; omega)
  have hB1 : Blk w1 (w.heap.size + 1) ⟨k0, k1, k2, k3, k4, k5, k6, k7, k8⟩ := by
    rw [← hw1]
    have := (Blk.new (w.alloc (.cells #[u] 27)) 42 ⟨k0, k1, k2, k3, k4, k5, k6, k7, k8⟩).alloc (.cells #[.int .i64 0, .int .i64 0, .int .i64 0, .int .i64 0, .int .i64 0, .int .i64 0, .int .i64 0, .int .i64 0, .int .i64 0] 42)
    rwa [show (w.alloc (.cells #[u] 27)).heap.size = w.heap.size + 1 by simp] at this
  have hR1 : Blk w1 (w.heap.size + 2) zB := by
    rw [← hw1]
    have := Blk.new ((w.alloc (.cells #[u] 27)).alloc (.cells #[.int .i64 k0, .int .i64 k1, .int .i64 k2, .int .i64 k3, .int .i64 k4, .int .i64 k5, .int .i64 k6, .int .i64 k7, .int .i64 k8] 42)) 42 zB
    rwa [show ((w.alloc (.cells #[u] 27)).alloc (.cells #[.int .i64 k0, .int .i64 k1, .int .i64 k2, .int .i64 k3, .int .i64 k4, .int .i64 k5, .int .i64 k6, .int .i64 k7, .int .i64 k8] 42)).heap.size = w.heap.size + 2 by simp] at this
  clear hw1
  obtain ⟨_, c0, c1, c2, c3, c4, c5, c6, c7, c8, f0, f1, f2, f3, f4, f5, f6, f7, f8⟩ := id hB1
  simp only at c0 c1 c2 c3 c4 c5 c6 c7 c8
  go_wp2_with fail
  refine (HL _ hb1).mono ?_
  rintro e wa ⟨rfl, ha⟩
  have hba := hb1.trans (ha.mono hb1.size)
  have hBa := hB1.below ha hB1.lt
  have hRa := hR1.below ha hR1.lt
  have hLa : wa.cell? ⟨w.heap.size, 0, none⟩ = some u := (ha.cell (p := ⟨w.heap.size, 0, none⟩) (by show w.heap.size < _; omega)).trans hL1
  clear hb1 hB1 hR1 hL1 ha c0 c1 c2 c3 c4 c5 c6 c7 c8 f0 f1 f2 f3 f4 f5 f6 f7 f8 HL
  obtain ⟨hlta, c0, c1, c2, c3, c4, c5, c6, c7, c8, f0, f1, f2, f3, f4, f5, f6, f7, f8⟩ := id hBa
  simp only at c0 c1 c2 c3 c4 c5 c6 c7 c8
  cases hlv : lvT l with
  | false =>
    have HN := Lib.hid (HNO.out fun e => by have := HLV.out e.2.2.2.2; rw [hlv] at this; cases this)
    clear hlv
    go_upto_region 2 with (fail)
    have hRt : wa.there (w.heap.size + 1 + 1) 0 9 := hRa.there
    have hBr : wa.rangeAt (w.heap.size + 1) 0 (Bd.cells ⟨k0, k1, k2, k3, k4, k5, k6, k7, k8⟩) := hBa.range
    have hRs : (wa.setCells (w.heap.size + 1 + 1) 0 (Bd.cells ⟨k0, k1, k2, k3, k4, k5, k6, k7, k8⟩)).rangeAt (w.heap.size + 1 + 1) 0 (Bd.cells ⟨k0, k1, k2, k3, k4, k5, k6, k7, k8⟩) := (hRa.setAll ⟨k0, k1, k2, k3, k4, k5, k6, k7, k8⟩).range
    have hbs := setCells_below (o := 0) (vs := Bd.cells ⟨k0, k1, k2, k3, k4, k5, k6, k7, k8⟩) hba (show w.heap.size ≤ w.heap.size + 1 + 1 by omega)
    clear c0 c1 c2 c3 c4 c5 c6 c7 c8 f0 f1 f2 f3 f4 f5 f6 f7 f8
    apply wp_region_lit
    refine load_bod (op := ⟨some 29, _, _, _, _, _⟩) rfl _ rfl (w.heap.size + 1) 0 rfl ⟨k0, k1, k2, k3, k4, k5, k6, k7, k8⟩ hBr ?_
    refine store_bod (op := ⟨none, _, _, _, _, _⟩) rfl _ _ rfl (w.heap.size + 1 + 1) 0 rfl ⟨k0, k1, k2, k3, k4, k5, k6, k7, k8⟩ rfl hRt ?_
    generalize hwn : World.setCells _ _ _ _ = wn
    rw [hwn] at hRs hbs
    clear hwn
    repeat go_step
    refine bodyPost_ret (res_bod2 rfl rfl rfl hRs) rfl ?_
    exact ⟨by rw [HN.out], hbs⟩
  | true =>
  have HLVT := Lib.hid hlv
  clear hlv
  by_cases hk : ¬ k0 = 0
  · have HN := Lib.hid (HNO.out fun e => hk e.1)
    have x1 : (k0 == 0) = false := beq_eq_false_iff_ne.2 hk
    go_upto_region 2 with (fail)
    have hRt : wa.there (w.heap.size + 1 + 1) 0 9 := hRa.there
    have hBr : wa.rangeAt (w.heap.size + 1) 0 (Bd.cells ⟨k0, k1, k2, k3, k4, k5, k6, k7, k8⟩) := hBa.range
    have hRs : (wa.setCells (w.heap.size + 1 + 1) 0 (Bd.cells ⟨k0, k1, k2, k3, k4, k5, k6, k7, k8⟩)).rangeAt (w.heap.size + 1 + 1) 0 (Bd.cells ⟨k0, k1, k2, k3, k4, k5, k6, k7, k8⟩) := (hRa.setAll ⟨k0, k1, k2, k3, k4, k5, k6, k7, k8⟩).range
    have hbs := setCells_below (o := 0) (vs := Bd.cells ⟨k0, k1, k2, k3, k4, k5, k6, k7, k8⟩) hba (show w.heap.size ≤ w.heap.size + 1 + 1 by omega)
    clear c0 c1 c2 c3 c4 c5 c6 c7 c8 f0 f1 f2 f3 f4 f5 f6 f7 f8
    apply wp_region_lit
    refine load_bod (op := ⟨some 29, _, _, _, _, _⟩) rfl _ rfl (w.heap.size + 1) 0 rfl ⟨k0, k1, k2, k3, k4, k5, k6, k7, k8⟩ hBr ?_
    refine store_bod (op := ⟨none, _, _, _, _, _⟩) rfl _ _ rfl (w.heap.size + 1 + 1) 0 rfl ⟨k0, k1, k2, k3, k4, k5, k6, k7, k8⟩ rfl hRt ?_
    generalize hwn : World.setCells _ _ _ _ = wn
    rw [hwn] at hRs hbs
    clear hwn
    repeat go_step
    refine bodyPost_ret (res_bod2 rfl rfl rfl hRs) rfl ?_
    exact ⟨by rw [HN.out], hbs⟩
  replace hk := Classical.not_not.1 hk
  subst hk
  by_cases hlf : k7 < 1
  · have HN := Lib.hid (HNO.out fun e => by have := e.2.1; omega)
    go_upto_region 2 with (fail)
    have hRt : wa.there (w.heap.size + 1 + 1) 0 9 := hRa.there
    have hBr : wa.rangeAt (w.heap.size + 1) 0 (Bd.cells ⟨0, k1, k2, k3, k4, k5, k6, k7, k8⟩) := hBa.range
    have hRs : (wa.setCells (w.heap.size + 1 + 1) 0 (Bd.cells ⟨0, k1, k2, k3, k4, k5, k6, k7, k8⟩)).rangeAt (w.heap.size + 1 + 1) 0 (Bd.cells ⟨0, k1, k2, k3, k4, k5, k6, k7, k8⟩) := (hRa.setAll ⟨0, k1, k2, k3, k4, k5, k6, k7, k8⟩).range
    have hbs := setCells_below (o := 0) (vs := Bd.cells ⟨0, k1, k2, k3, k4, k5, k6, k7, k8⟩) hba (show w.heap.size ≤ w.heap.size + 1 + 1 by omega)
    clear c0 c1 c2 c3 c4 c5 c6 c7 c8 f0 f1 f2 f3 f4 f5 f6 f7 f8
    apply wp_region_lit
    refine load_bod (op := ⟨some 29, _, _, _, _, _⟩) rfl _ rfl (w.heap.size + 1) 0 rfl ⟨0, k1, k2, k3, k4, k5, k6, k7, k8⟩ hBr ?_
    refine store_bod (op := ⟨none, _, _, _, _, _⟩) rfl _ _ rfl (w.heap.size + 1 + 1) 0 rfl ⟨0, k1, k2, k3, k4, k5, k6, k7, k8⟩ rfl hRt ?_
    generalize hwn : World.setCells _ _ _ _ = wn
    rw [hwn] at hRs hbs
    clear hwn
    repeat go_step
    refine bodyPost_ret (res_bod2 rfl rfl rfl hRs) rfl ?_
    exact ⟨by rw [HN.out], hbs⟩
  have x2 : decide (k7 < 1) = false := decide_eq_false hlf
  go_wp2_with fail
  clear x2
  refine (between_any _ _ _ _).mono ?_
  rintro e wx ⟨rfl, rfl⟩
  cases how : inB k1 0 3 with
  | false =>
    have HN := Lib.hid (HNO.out fun e => by rw [inB_yes e.2.2.1.1 e.2.2.1.2] at how; cases how)
    clear how
    go_upto_region 2 with (fail)
    have hRt : wa.there (w.heap.size + 1 + 1) 0 9 := hRa.there
    have hBr : wa.rangeAt (w.heap.size + 1) 0 (Bd.cells ⟨0, k1, k2, k3, k4, k5, k6, k7, k8⟩) := hBa.range
    have hRs : (wa.setCells (w.heap.size + 1 + 1) 0 (Bd.cells ⟨0, k1, k2, k3, k4, k5, k6, k7, k8⟩)).rangeAt (w.heap.size + 1 + 1) 0 (Bd.cells ⟨0, k1, k2, k3, k4, k5, k6, k7, k8⟩) := (hRa.setAll ⟨0, k1, k2, k3, k4, k5, k6, k7, k8⟩).range
    have hbs := setCells_below (o := 0) (vs := Bd.cells ⟨0, k1, k2, k3, k4, k5, k6, k7, k8⟩) hba (show w.heap.size ≤ w.heap.size + 1 + 1 by omega)
    clear c0 c1 c2 c3 c4 c5 c6 c7 c8 f0 f1 f2 f3 f4 f5 f6 f7 f8
    apply wp_region_lit
    refine load_bod (op := ⟨some 29, _, _, _, _, _⟩) rfl _ rfl (w.heap.size + 1) 0 rfl ⟨0, k1, k2, k3, k4, k5, k6, k7, k8⟩ hBr ?_
    refine store_bod (op := ⟨none, _, _, _, _, _⟩) rfl _ _ rfl (w.heap.size + 1 + 1) 0 rfl ⟨0, k1, k2, k3, k4, k5, k6, k7, k8⟩ rfl hRt ?_
    generalize hwn : World.setCells _ _ _ _ = wn
    rw [hwn] at hRs hbs
    clear hwn
    repeat go_step
    refine bodyPost_ret (res_bod2 rfl rfl rfl hRs) rfl ?_
    exact ⟨by rw [HN.out], hbs⟩
  | true =>
  have HOW := Lib.hid how
  have ho := inB_iff.1 how
  clear how
  go_wp2_with fail
  refine (between_any _ _ _ _).mono ?_
  rintro e wx ⟨rfl, rfl⟩
  cases hin : inB i 0 15 with
  | false =>
    have HN := Lib.hid (HNO.out fun e => by rw [inB_yes e.2.2.2.1.1 e.2.2.2.1.2] at hin; cases hin)
    clear hin
    go_upto_region 4 with (fail)
    have hRt : wa.there (w.heap.size + 1 + 1) 0 9 := hRa.there
    have hBr : wa.rangeAt (w.heap.size + 1) 0 (Bd.cells ⟨0, k1, k2, k3, k4, k5, k6, k7, k8⟩) := hBa.range
    have hRs : (wa.setCells (w.heap.size + 1 + 1) 0 (Bd.cells ⟨0, k1, k2, k3, k4, k5, k6, k7, k8⟩)).rangeAt (w.heap.size + 1 + 1) 0 (Bd.cells ⟨0, k1, k2, k3, k4, k5, k6, k7, k8⟩) := (hRa.setAll ⟨0, k1, k2, k3, k4, k5, k6, k7, k8⟩).range
    have hbs := setCells_below (o := 0) (vs := Bd.cells ⟨0, k1, k2, k3, k4, k5, k6, k7, k8⟩) hba (show w.heap.size ≤ w.heap.size + 1 + 1 by omega)
    clear c0 c1 c2 c3 c4 c5 c6 c7 c8 f0 f1 f2 f3 f4 f5 f6 f7 f8
    apply wp_region_lit
    refine load_bod (op := ⟨some 42, _, _, _, _, _⟩) rfl _ rfl (w.heap.size + 1) 0 rfl ⟨0, k1, k2, k3, k4, k5, k6, k7, k8⟩ hBr ?_
    refine store_bod (op := ⟨none, _, _, _, _, _⟩) rfl _ _ rfl (w.heap.size + 1 + 1) 0 rfl ⟨0, k1, k2, k3, k4, k5, k6, k7, k8⟩ rfl hRt ?_
    generalize hwn : World.setCells _ _ _ _ = wn
    rw [hwn] at hRs hbs
    clear hwn
    repeat go_step
    refine bodyPost_ret (res_bod2 rfl rfl rfl hRs) rfl ?_
    exact ⟨by rw [HN.out], hbs⟩
  | true =>
  have hi := inB_iff.1 hin
  clear hin
  go_wp2_with fail
  refine (HBO _ hba).mono ?_
  rintro e wb ⟨rfl, hb⟩
  have hbb := hba.trans (hb.mono hba.size)
  have hBb := hBa.below hb hBa.lt
  have hRb := hRa.below hb hRa.lt
  have hLb : wb.cell? ⟨w.heap.size, 0, none⟩ = some u := (hb.cell (p := ⟨w.heap.size, 0, none⟩) (by show w.heap.size < _; omega)).trans hLa
  clear hba hBa hRa hLa hb c0 c1 c2 c3 c4 c5 c6 c7 c8 f0 f1 f2 f3 f4 f5 f6 f7 f8 HBO
  obtain ⟨hltb, c0, c1, c2, c3, c4, c5, c6, c7, c8, f0, f1, f2, f3, f4, f5, f6, f7, f8⟩ := id hBb
  simp only at c0 c1 c2 c3 c4 c5 c6 c7 c8
  cases hbo : okBd l (k1 + 1) ⟨0, k1, k2, k3, k4, k5, k6, k7, k8⟩ with
  | false =>
    have HN := Lib.hid (HNO.out fun e => by have := e.2.2.2.2; rw [hbo] at this; cases this)
    clear hbo
    go_upto_region 4 with (fail)
    have hRt : wb.there (w.heap.size + 1 + 1) 0 9 := hRb.there
    have hBr : wb.rangeAt (w.heap.size + 1) 0 (Bd.cells ⟨0, k1, k2, k3, k4, k5, k6, k7, k8⟩) := hBb.range
    have hRs : (wb.setCells (w.heap.size + 1 + 1) 0 (Bd.cells ⟨0, k1, k2, k3, k4, k5, k6, k7, k8⟩)).rangeAt (w.heap.size + 1 + 1) 0 (Bd.cells ⟨0, k1, k2, k3, k4, k5, k6, k7, k8⟩) := (hRb.setAll ⟨0, k1, k2, k3, k4, k5, k6, k7, k8⟩).range
    have hbs := setCells_below (o := 0) (vs := Bd.cells ⟨0, k1, k2, k3, k4, k5, k6, k7, k8⟩) hbb (show w.heap.size ≤ w.heap.size + 1 + 1 by omega)
    clear c0 c1 c2 c3 c4 c5 c6 c7 c8 f0 f1 f2 f3 f4 f5 f6 f7 f8
    apply wp_region_lit
    refine load_bod (op := ⟨some 42, _, _, _, _, _⟩) rfl _ rfl (w.heap.size + 1) 0 rfl ⟨0, k1, k2, k3, k4, k5, k6, k7, k8⟩ hBr ?_
    refine store_bod (op := ⟨none, _, _, _, _, _⟩) rfl _ _ rfl (w.heap.size + 1 + 1) 0 rfl ⟨0, k1, k2, k3, k4, k5, k6, k7, k8⟩ rfl hRt ?_
    generalize hwn : World.setCells _ _ _ _ = wn
    rw [hwn] at hRs hbs
    clear hwn
    repeat go_step
    refine bodyPost_ret (res_bod2 rfl rfl rfl hRs) rfl ?_
    exact ⟨by rw [HN.out], hbs⟩
  | true =>
  have HST := Lib.hid (HYES.out ⟨by trivial, by omega, ho, hi, hbo⟩)
  obtain ⟨ht, hy, hx⟩ := HPL.out hbo (by trivial) ho.1
  clear hbo
  have HS : ∀ wx, Below w.heap.size w wx → Calls Try.prog 23 #[.agg #[u], .int .i64 k2, .int .i64 (k3 + 1), .int .i64 12] wx fun e w' => e = .returned (.bool (solT l k2 (k3 + 1) 12)) ∧ Below wx.heap.size wx w' := fun wx hb => HSA k2 (k3 + 1) wx HLVT.out hb hxw (by omega)
  clear HSA
  have hB1 := hBb
  have hR1 := hRb
  have hL1 := hLb
  have hb1 := hbb
  clear hBb hRb hLb hbb
  go_upto_if 45 with (fail)
  go_cut [7] (fun st wx => st = .bool false ∧ Blk wx (w.heap.size + 1) ⟨0, k1, k2, k3, k4, k5, k6, k7, stT k8⟩ ∧ Blk wx (w.heap.size + 2) zB ∧ wx.cell? ⟨w.heap.size, 0, none⟩ = some u ∧ Below w.heap.size w wx)
  case first =>
    by_cases h0 : 0 < k8
    · have HN := Lib.hid (stT_pos h0)
      go_wp2_with fail
      go_meet
      case rel => exact ⟨rfl, by rw [HN.out]; exact hB1.set8 _, hR1.other (by show w.heap.size + 1 ≠ w.heap.size + 2; omega) _, cell_set_ne hL1 (by show w.heap.size + 1 ≠ w.heap.size; omega), hb1.setCell (by show w.heap.size ≤ w.heap.size + 1; omega) _⟩
    · have HN := Lib.hid (stT_neg h0)
      go_wp2_with fail
      go_meet
      case rel => exact ⟨rfl, by rw [HN.out]; exact hB1, hR1, hL1, hb1⟩
  case rest =>
    clear hB1 hR1 hL1 hb1 c0 c1 c2 c3 c4 c5 c6 c7 c8 f0 f1 f2 f3 f4 f5 f6 f7 f8
    obtain ⟨wq, rfl⟩ : ∃ wq : World, wq = wc := ⟨_, rfl⟩
    obtain ⟨rfl, hB1, hR1, hL1, hb1⟩ := hcut
    obtain ⟨_, c0, c1, c2, c3, c4, c5, c6, c7, c8, f0, f1, f2, f3, f4, f5, f6, f7, f8⟩ := id hB1
    simp only at c0 c1 c2 c3 c4 c5 c6 c7 c8
    go_upto_region 7 with (fail)
    go_cut [8] (fun p wx => p = .bool (bitL i) ∧ wx = wq)
    case first =>
      have b1 := bits1 hi
      cases hl : bitL i <;> simp only [hl, if_true, Bool.false_eq_true, if_false] at b1
      all_goals
        go_wp2_with fail
        go_meet
        case rel => exact ⟨by rw [hl], rfl⟩
    case rest =>
    obtain ⟨rfl, rfl⟩ := hcut
    go_upto_region 8 with (fail)
    go_cut [9] (fun p wx => p = .bool (bitR i) ∧ wx = wc)
    case first =>
      have b2 := bits2 hi
      cases hr : bitR i <;> simp only [hr, if_true, Bool.false_eq_true, if_false] at b2
      all_goals
        go_wp2_with fail
        go_meet
        case rel => exact ⟨by rw [hr], rfl⟩
    case rest =>
    obtain ⟨wq, rfl⟩ : ∃ wq : World, wq = wc := ⟨_, rfl⟩
    obtain ⟨rfl, rfl⟩ := hcut
    go_upto_region 10 with (fail)
    have hB2 := hB1.set4 0
    have hR2 := hR1.other (p := ⟨w.heap.size + 1, 4, none⟩) (by show w.heap.size + 1 ≠ w.heap.size + 2; omega) (.int .i64 0)
    have hL2 := cell_set_ne (v := .int .i64 0) (p := ⟨w.heap.size + 1, 4, none⟩) hL1 (by show w.heap.size + 1 ≠ w.heap.size; omega)
    have hb2 := hb1.setCell (p := ⟨w.heap.size + 1, 4, none⟩) (by show w.heap.size ≤ w.heap.size + 1; omega) (.int .i64 0)
    generalize hwn : World.setCell wq _ _ = wn
    rw [hwn] at hB2 hR2 hL2 hb2
    clear hwn hB1 hR1 hL1 hb1 c0 c1 c2 c3 c4 c5 c6 c7 c8 f0 f1 f2 f3 f4 f5 f6 f7 f8
    simp only at hB2
    go_cut [8, 9, 61] (fun p q st wx => p = .bool (bitL i) ∧ q = .bool (bitR i) ∧ st = .bool (bitR i && !bitL i) ∧ wx = wn)
    case first =>
      cases hr : bitR i <;> cases hl : bitL i
      all_goals
        go_wp2_with fail
        go_meet
        case rel => exact ⟨by rw [hl], by rw [hr], by rw [hr, hl]; rfl, rfl⟩
    case rest =>
      obtain ⟨wr, rfl⟩ : ∃ wr : World, wr = wc := ⟨_, rfl⟩
      obtain ⟨rfl, rfl, rfl, rfl⟩ := hcut
      obtain ⟨_, c0, c1, c2, c3, c4, c5, c6, c7, c8, f0, f1, f2, f3, f4, f5, f6, f7, f8⟩ := id hB2
      simp only at c0 c1 c2 c3 c4 c5 c6 c7 c8
      go_upto_if 61 with (fail)
      go_cut [7] (fun st wx => st = .bool false ∧ Blk wx (w.heap.size + 1) ⟨0, k1, k2, k3, (if (bitR i && !bitL i) = true then 3 else 0), k5, (if (bitR i && !bitL i) = true then 1 else k6), k7, stT k8⟩ ∧ Blk wx (w.heap.size + 2) zB ∧ wx.cell? ⟨w.heap.size, 0, none⟩ = some u ∧ Below w.heap.size w wx)
      case first =>
        cases hr : (bitR i && !bitL i)
        all_goals
          go_wp2_with fail
          go_meet
          case rel => simp only [hr, Bool.false_eq_true, if_false, if_true]; first | exact ⟨trivial, hB2, hR2, hL2, hb2⟩ | exact ⟨rfl, hB2, hR2, hL2, hb2⟩ | exact ⟨by trivial, (hB2.set4 3).set6 1, (hR2.other (by show w.heap.size + 1 ≠ w.heap.size + 2; omega) _).other (by show w.heap.size + 1 ≠ w.heap.size + 2; omega) _, cell_set_ne (cell_set_ne hL2 (by show w.heap.size + 1 ≠ w.heap.size; omega)) (by show w.heap.size + 1 ≠ w.heap.size; omega), (hb2.setCell (by show w.heap.size ≤ w.heap.size + 1; omega) _).setCell (by show w.heap.size ≤ w.heap.size + 1; omega) _⟩
      case rest =>
        clear hB2 hR2 hL2 hb2 c0 c1 c2 c3 c4 c5 c6 c7 c8 f0 f1 f2 f3 f4 f5 f6 f7 f8
        obtain ⟨ws, rfl⟩ : ∃ ws : World, ws = wc := ⟨_, rfl⟩
        obtain ⟨rfl, hB2, hR2, hL2, hb2⟩ := hcut
        obtain ⟨X1, hX1⟩ : ∃ X : Int, X = (if (bitR i && !bitL i) = true then 3 else 0) := ⟨_, rfl⟩
        obtain ⟨A1, hA1⟩ : ∃ X : Int, X = (if (bitR i && !bitL i) = true then 1 else k6) := ⟨_, rfl⟩
        rw [← hX1, ← hA1] at hB2
        go_upto_region 13 with (fail)
        go_cut [8, 9, 68] (fun p q st wx => p = .bool (bitL i) ∧ q = .bool (bitR i) ∧ st = .bool (bitL i && !bitR i) ∧ wx = ws)
        case first =>
          clear hX1 hA1
          cases hr : bitR i <;> cases hl : bitL i
          all_goals
            go_wp2_with fail
            go_meet
            case rel => exact ⟨by rw [hl], by rw [hr], by rw [hr, hl]; rfl, rfl⟩
        case rest =>
          obtain ⟨wr, rfl⟩ : ∃ wr : World, wr = wc := ⟨_, rfl⟩
          obtain ⟨rfl, rfl, rfl, rfl⟩ := hcut
          obtain ⟨_, c0, c1, c2, c3, c4, c5, c6, c7, c8, f0, f1, f2, f3, f4, f5, f6, f7, f8⟩ := id hB2
          simp only at c0 c1 c2 c3 c4 c5 c6 c7 c8
          go_upto_if 68 with (fail)
          go_cut [7] (fun st wx => st = .bool false ∧ Blk wx (w.heap.size + 1) ⟨0, k1, k2, k3, (if (bitL i && !bitR i) = true then -3 else X1), k5, (if (bitL i && !bitR i) = true then -1 else A1), k7, stT k8⟩ ∧ Blk wx (w.heap.size + 2) zB ∧ wx.cell? ⟨w.heap.size, 0, none⟩ = some u ∧ Below w.heap.size w wx)
          case first =>
            clear hX1 hA1
            cases hr : (bitL i && !bitR i)
            all_goals
              go_wp2_with fail
              go_meet
              case rel => simp only [hr, Bool.false_eq_true, if_false, if_true]; first | exact ⟨trivial, hB2, hR2, hL2, hb2⟩ | exact ⟨by trivial, (hB2.set4 (-3)).set6 (-1), (hR2.other (by show w.heap.size + 1 ≠ w.heap.size + 2; omega) _).other (by show w.heap.size + 1 ≠ w.heap.size + 2; omega) _, cell_set_ne (cell_set_ne hL2 (by show w.heap.size + 1 ≠ w.heap.size; omega)) (by show w.heap.size + 1 ≠ w.heap.size; omega), (hb2.setCell (by show w.heap.size ≤ w.heap.size + 1; omega) _).setCell (by show w.heap.size ≤ w.heap.size + 1; omega) _⟩
          case rest =>
            clear hB2 hR2 hL2 hb2 c0 c1 c2 c3 c4 c5 c6 c7 c8 f0 f1 f2 f3 f4 f5 f6 f7 f8
            obtain ⟨wt, rfl⟩ : ∃ wt : World, wt = wc := ⟨_, rfl⟩
            obtain ⟨rfl, hB2, hR2, hL2, hb2⟩ := hcut
            obtain ⟨X2, hX2⟩ : ∃ X : Int, X = (if (bitL i && !bitR i) = true then -3 else X1) := ⟨_, rfl⟩
            obtain ⟨A2, hA2⟩ : ∃ X : Int, X = (if (bitL i && !bitR i) = true then -1 else A1) := ⟨_, rfl⟩
            rw [← hX2, ← hA2] at hB2
            obtain ⟨_, c0, c1, c2, c3, c4, c5, c6, c7, c8, f0, f1, f2, f3, f4, f5, f6, f7, f8⟩ := id hB2
            simp only at c0 c1 c2 c3 c4 c5 c6 c7 c8
            go_upto_region 16 with (fail)
            go_cut [83] (fun st wx => st = .bool (bitJ i && solT l k2 (k3 + 1) 12) ∧ Below wt.heap.size wt wx)
            case first =>
              have b4 := bits4 hi
              cases hj : bitJ i <;> simp only [hj, if_true, Bool.false_eq_true, if_false] at b4
              case false =>
                refine wp_region_tailV 11 (by kernel_rfl) (by kernel_rfl) ?_
                intro OPS HOPS
                have g3 : Hid ((OPS[3]?).bind (·.dst) = some 74) := Lib.hid (by rw [HOPS.out]; kernel_rfl)
                simp only [List.take_succ_cons, List.take_zero, List.drop_succ_cons, List.drop_zero]
                still_step
                still_step
                still_step
                still_step
                refine wpStill_skip ((wanted_of (j := 3) (d := 74) (b := true) (v := false) rfl g3.out rfl).trans rfl) ?_
                simp only [Act.put, List.setIfInBounds_toArray, List.set_cons_zero, List.set_cons_succ]
                refine wpStill_skip ((wanted_of (j := 3) (d := 74) (b := true) (v := false) rfl g3.out rfl).trans rfl) ?_
                simp only [Act.put, List.setIfInBounds_toArray, List.set_cons_zero, List.set_cons_succ]
                refine wpStill_skip ((wanted_of (j := 3) (d := 74) (b := true) (v := false) rfl g3.out rfl).trans rfl) ?_
                simp only [Act.put, List.setIfInBounds_toArray, List.set_cons_zero, List.set_cons_succ]
                refine wpStill_skip ((wanted_of (j := 3) (d := 74) (b := true) (v := false) rfl g3.out rfl).trans rfl) ?_
                simp only [Act.put, List.setIfInBounds_toArray, List.set_cons_zero, List.set_cons_succ]
                refine wpStill_skip ((wanted_of (j := 3) (d := 74) (b := true) (v := false) rfl g3.out rfl).trans rfl) ?_
                simp only [Act.put, List.setIfInBounds_toArray, List.set_cons_zero, List.set_cons_succ]
                refine wpStill_skip ((wanted_of (j := 3) (d := 74) (b := true) (v := false) rfl g3.out rfl).trans rfl) ?_
                simp only [Act.put, List.setIfInBounds_toArray, List.set_cons_zero, List.set_cons_succ]
                refine wpStill_skip ((wanted_of (j := 3) (d := 74) (b := true) (v := false) rfl g3.out rfl).trans rfl) ?_
                simp only [Act.put, List.setIfInBounds_toArray, List.set_cons_zero, List.set_cons_succ]
                refine wpStill_nil ?_
                change wpList _ _ _ _ _ wt.drew
                go_wp2_with fail
                go_meet
                case rel => exact ⟨by rw [hj]; rfl, (Below.refl _ _).drew⟩
              case true =>
                refine wp_region_tailV 11 (by kernel_rfl) (by kernel_rfl) ?_
                intro OPS HOPS
                have g3 : Hid ((OPS[3]?).bind (·.dst) = some 74) := Lib.hid (by rw [HOPS.out]; kernel_rfl)
                simp only [List.take_succ_cons, List.take_zero, List.drop_succ_cons, List.drop_zero]
                still_step
                still_step
                still_step
                still_step
                refine wpStill_wantG 3 74 true true rfl g3.out rfl rfl (fun K hK => ?_)
                go_simp
                refine hK _ ?_
                clear hK K
                refine wpStill_wantG 3 74 true true rfl g3.out rfl rfl (fun K hK => ?_)
                go_simp
                refine hK _ ?_
                clear hK K
                refine wpStill_wantG 3 74 true true rfl g3.out rfl rfl (fun K hK => ?_)
                go_simp
                refine hK _ ?_
                clear hK K
                refine wpStill_wantG 3 74 true true rfl g3.out rfl rfl (fun K hK => ?_)
                go_simp
                refine hK _ ?_
                clear hK K
                refine wpStill_wantG 3 74 true true rfl g3.out rfl rfl (fun K hK => ?_)
                go_simp
                refine hK _ ?_
                clear hK K
                refine wpStill_wantG 3 74 true true rfl g3.out rfl rfl (fun K hK => ?_)
                go_simp
                refine hK _ ?_
                clear hK K
                refine wpStill_wantG 3 74 true true rfl g3.out rfl rfl (fun K hK => ?_)
                go_simp
                refine ⟨_, (sz_impl _ _).mono (fun e w' h => ⟨h.1, h.2.symm⟩), hK _ ?_⟩
                clear hK K
                refine wpStill_nil ?_
                change wpList _ _ _ _ _ wt.drew
                rw [show szOf 0 = 12 from rfl]
                go_wp2_with fail
                refine (HS wt.drew hb2.drew).mono ?_
                rintro e wa ⟨rfl, ha⟩
                go_wp2_with fail
                go_meet
                case rel => exact ⟨by rw [hj]; rfl, ((Below.refl wt.heap.size wt).drew).trans (ha.mono (Nat.le_refl _))⟩
            case rest =>
              obtain ⟨wu, rfl⟩ : ∃ wu : World, wu = wc := ⟨_, rfl⟩
              obtain ⟨rfl, hbz⟩ := hcut
              have hB3 := hB2.below hbz hB2.lt
              have hR3 := hR2.below hbz hR2.lt
              have hb3 := hb2.trans (hbz.mono hb2.size)
              clear hB2 hR2 hL2 hb2 hbz c0 c1 c2 c3 c4 c5 c6 c7 c8 f0 f1 f2 f3 f4 f5 f6 f7 f8
              obtain ⟨SJ, hSJ⟩ : ∃ X : Bool, (bitJ i && solT l k2 (k3 + 1) 12) = X := ⟨_, rfl⟩
              rw [hSJ]
              obtain ⟨_, c0, c1, c2, c3, c4, c5, c6, c7, c8, f0, f1, f2, f3, f4, f5, f6, f7, f8⟩ := id hB3
              simp only at c0 c1 c2 c3 c4 c5 c6 c7 c8
              go_upto_if 83 with (fail)
              go_cut [7] (fun st wx => st = .bool false ∧ Blk wx (w.heap.size + 1) ⟨0, k1, k2, k3, X2, (if SJ = true then -9 else min (k5 + 1) 8), A2, k7, stT k8⟩ ∧ Blk wx (w.heap.size + 2) zB ∧ Below w.heap.size w wx)
              case first =>
                clear hX1 hA1 hX2 hA2 hSJ
                cases SJ
                case true =>
                  go_wp2_with fail
                  go_meet
                  case rel => simp only [if_true]; exact ⟨by trivial, hB3.set5 _, hR3.other (by show w.heap.size + 1 ≠ w.heap.size + 2; omega) _, hb3.setCell (by show w.heap.size ≤ w.heap.size + 1; omega) _⟩
                case false =>
                  by_cases hmn : k5 + 1 ≤ 8
                  · have HMN : Hid (min (k5 + 1) 8 = k5 + 1) := Lib.hid (by omega)
                    go_wp2_with fail
                    go_meet
                    case rel => simp only [Bool.false_eq_true, if_false, HMN.out]; exact ⟨by trivial, hB3.set5 _, hR3.other (by show w.heap.size + 1 ≠ w.heap.size + 2; omega) _, hb3.setCell (by show w.heap.size ≤ w.heap.size + 1; omega) _⟩
                  · have HMN : Hid (min (k5 + 1) 8 = 8) := Lib.hid (by omega)
                    go_wp2_with fail
                    go_meet
                    case rel => simp only [Bool.false_eq_true, if_false, HMN.out]; exact ⟨by trivial, hB3.set5 _, hR3.other (by show w.heap.size + 1 ≠ w.heap.size + 2; omega) _, hb3.setCell (by show w.heap.size ≤ w.heap.size + 1; omega) _⟩
              case rest =>
                clear hB3 hR3 hb3 c0 c1 c2 c3 c4 c5 c6 c7 c8 f0 f1 f2 f3 f4 f5 f6 f7 f8
                obtain ⟨wv, rfl⟩ : ∃ wv : World, wv = wc := ⟨_, rfl⟩
                obtain ⟨rfl, hB3, hR3, hb3⟩ := hcut
                have HXE : X2 = stVX i := by rw [hX2, hX1]; unfold stVX; cases bitR i <;> cases bitL i <;> rfl
                have HAE : A2 = stAim i k6 := by rw [hA2, hA1]; unfold stAim; cases bitR i <;> cases bitL i <;> rfl
                have HVE : (if SJ = true then -9 else min (k5 + 1) 8) = stVY l i ⟨0, k1, k2, k3, k4, k5, k6, k7, k8⟩ := by rw [← hSJ]; unfold stVY; simp only [Bool.and_eq_true]
                obtain ⟨V, hV⟩ : ∃ V : Int, (if SJ = true then -9 else min (k5 + 1) 8) = V := ⟨_, rfl⟩
                rw [hV] at HVE hB3
                have HNA : Hid (stFire i k8 = true → steerU l ⟨0, k1, k2, k3, k4, k5, k6, k7, k8⟩ i = (⟨0, k1, k2, k3, X2, V, A2, k7, 12⟩, true)) := Lib.hid fun hf => by unfold steerU; simp only [hf, if_true]; rw [HXE, HAE, HVE]
                have HNB : Hid (stFire i k8 = false → steerU l ⟨0, k1, k2, k3, k4, k5, k6, k7, k8⟩ i = (⟨0, k1, k2, k3, X2, V, A2, k7, stT k8⟩, false)) := Lib.hid fun hf => by unfold steerU; simp only [hf, Bool.false_eq_true, if_false]; rw [HXE, HAE, HVE]
                have HFD : Hid (stFire i k8 = (bitF i && decide (stT k8 = 0))) := Lib.hid rfl
                clear hX1 hX2 hA1 hA2 hSJ hV HXE HAE HVE
                obtain ⟨T, hT⟩ : ∃ T : Int, stT k8 = T := ⟨_, rfl⟩
                rw [hT] at HNB hB3 HFD
                clear hT
                have b8 := bits8 hi
                obtain ⟨_, c0, c1, c2, c3, c4, c5, c6, c7, c8, f0, f1, f2, f3, f4, f5, f6, f7, f8⟩ := id hB3
                simp only at c0 c1 c2 c3 c4 c5 c6 c7 c8
                by_cases hF : bitF i = true ∧ T = 0
                · have HN := Lib.hid (HNA.out (by rw [HFD.out, hF.1, hF.2]; rfl))
                  rw [if_pos hF.1] at b8
                  obtain ⟨_, h0⟩ := hF
                  go_upto_region 21 with (fail)
                  have hB4 := hB3.set8 12
                  have hR4 := hR3.other (p := ⟨w.heap.size + 1, 8, none⟩) (by show w.heap.size + 1 ≠ w.heap.size + 2; omega) (.int .i64 12)
                  have hb4 := hb3.setCell (p := ⟨w.heap.size + 1, 8, none⟩) (by show w.heap.size ≤ w.heap.size + 1; omega) (.int .i64 12)
                  generalize hwn : World.setCell wv _ _ = wy
                  rw [hwn] at hB4 hR4 hb4
                  clear hwn hB3 hR3 hb3 c0 c1 c2 c3 c4 c5 c6 c7 c8 f0 f1 f2 f3 f4 f5 f6 f7 f8
                  obtain ⟨_, c0, c1, c2, c3, c4, c5, c6, c7, c8, f0, f1, f2, f3, f4, f5, f6, f7, f8⟩ := id hB4
                  simp only at c0 c1 c2 c3 c4 c5 c6 c7 c8
                  have hRt : wy.there (w.heap.size + 1 + 1) 0 9 := hR4.there
                  have hBr : wy.rangeAt (w.heap.size + 1) 0 (Bd.cells ⟨0, k1, k2, k3, X2, V, A2, k7, 12⟩) := hB4.range
                  have hRs : (wy.setCells (w.heap.size + 1 + 1) 0 (Bd.cells ⟨0, k1, k2, k3, X2, V, A2, k7, 12⟩)).rangeAt (w.heap.size + 1 + 1) 0 (Bd.cells ⟨0, k1, k2, k3, X2, V, A2, k7, 12⟩) := (hR4.setAll ⟨0, k1, k2, k3, X2, V, A2, k7, 12⟩).range
                  have hbs := setCells_below (o := 0) (vs := Bd.cells ⟨0, k1, k2, k3, X2, V, A2, k7, 12⟩) hb4 (show w.heap.size ≤ w.heap.size + 1 + 1 by omega)
                  clear c0 c1 c2 c3 c4 c5 c6 c7 c8 f0 f1 f2 f3 f4 f5 f6 f7 f8
                  apply wp_region_lit
                  refine load_bod (op := ⟨some 99, _, _, _, _, _⟩) rfl _ rfl (w.heap.size + 1) 0 rfl ⟨0, k1, k2, k3, X2, V, A2, k7, 12⟩ hBr ?_
                  refine store_bod (op := ⟨none, _, _, _, _, _⟩) rfl _ _ rfl (w.heap.size + 1 + 1) 0 rfl ⟨0, k1, k2, k3, X2, V, A2, k7, 12⟩ rfl hRt ?_
                  generalize hwn : World.setCells _ _ _ _ = wn
                  rw [hwn] at hRs hbs
                  clear hwn
                  repeat go_step
                  refine bodyPost_ret (res_bod2 rfl rfl rfl hRs) rfl ?_
                  exact ⟨by rw [HST.out, HN.out], hbs⟩
                · have HN := Lib.hid (HNB.out (by rw [HFD.out]; cases hf : bitF i <;> simp_all))
                  by_cases hf : bitF i = true
                  · rw [if_pos hf] at b8
                    have h0 : T ≠ 0 := fun hh => hF ⟨hf, hh⟩
                    clear hF hf
                    go_upto_region 22 with (fail)
                    have hRt : wv.there (w.heap.size + 1 + 1) 0 9 := hR3.there
                    have hBr : wv.rangeAt (w.heap.size + 1) 0 (Bd.cells ⟨0, k1, k2, k3, X2, V, A2, k7, T⟩) := hB3.range
                    have hRs : (wv.setCells (w.heap.size + 1 + 1) 0 (Bd.cells ⟨0, k1, k2, k3, X2, V, A2, k7, T⟩)).rangeAt (w.heap.size + 1 + 1) 0 (Bd.cells ⟨0, k1, k2, k3, X2, V, A2, k7, T⟩) := (hR3.setAll ⟨0, k1, k2, k3, X2, V, A2, k7, T⟩).range
                    have hbs := setCells_below (o := 0) (vs := Bd.cells ⟨0, k1, k2, k3, X2, V, A2, k7, T⟩) hb3 (show w.heap.size ≤ w.heap.size + 1 + 1 by omega)
                    clear c0 c1 c2 c3 c4 c5 c6 c7 c8 f0 f1 f2 f3 f4 f5 f6 f7 f8
                    apply wp_region_lit
                    refine load_bod (op := ⟨some 100, _, _, _, _, _⟩) rfl _ rfl (w.heap.size + 1) 0 rfl ⟨0, k1, k2, k3, X2, V, A2, k7, T⟩ hBr ?_
                    refine store_bod (op := ⟨none, _, _, _, _, _⟩) rfl _ _ rfl (w.heap.size + 1 + 1) 0 rfl ⟨0, k1, k2, k3, X2, V, A2, k7, T⟩ rfl hRt ?_
                    generalize hwn : World.setCells _ _ _ _ = wn
                    rw [hwn] at hRs hbs
                    clear hwn
                    repeat go_step
                    refine bodyPost_ret (res_bod2 rfl rfl rfl hRs) rfl ?_
                    exact ⟨by rw [HST.out, HN.out], hbs⟩
                  · rw [if_neg hf] at b8
                    clear hF hf
                    go_upto_region 22 with (fail)
                    have hRt : wv.there (w.heap.size + 1 + 1) 0 9 := hR3.there
                    have hBr : wv.rangeAt (w.heap.size + 1) 0 (Bd.cells ⟨0, k1, k2, k3, X2, V, A2, k7, T⟩) := hB3.range
                    have hRs : (wv.setCells (w.heap.size + 1 + 1) 0 (Bd.cells ⟨0, k1, k2, k3, X2, V, A2, k7, T⟩)).rangeAt (w.heap.size + 1 + 1) 0 (Bd.cells ⟨0, k1, k2, k3, X2, V, A2, k7, T⟩) := (hR3.setAll ⟨0, k1, k2, k3, X2, V, A2, k7, T⟩).range
                    have hbs := setCells_below (o := 0) (vs := Bd.cells ⟨0, k1, k2, k3, X2, V, A2, k7, T⟩) hb3 (show w.heap.size ≤ w.heap.size + 1 + 1 by omega)
                    clear c0 c1 c2 c3 c4 c5 c6 c7 c8 f0 f1 f2 f3 f4 f5 f6 f7 f8
                    apply wp_region_lit
                    refine load_bod (op := ⟨some 100, _, _, _, _, _⟩) rfl _ rfl (w.heap.size + 1) 0 rfl ⟨0, k1, k2, k3, X2, V, A2, k7, T⟩ hBr ?_
                    refine store_bod (op := ⟨none, _, _, _, _, _⟩) rfl _ _ rfl (w.heap.size + 1 + 1) 0 rfl ⟨0, k1, k2, k3, X2, V, A2, k7, T⟩ rfl hRt ?_
                    generalize hwn : World.setCells _ _ _ _ = wn
                    rw [hwn] at hRs hbs
                    clear hwn
                    repeat go_step
                    refine bodyPost_ret (res_bod2 rfl rfl rfl hRs) rfl ?_
                    exact ⟨by rw [HST.out, HN.out], hbs⟩
end Go.Proofs.Ytmamihkcikgmcaa
/- stepPlayers: players are steered, and fire. -/
namespace Go.Proofs.Ytmamihkcikgmcaa
open Go.RowKit

theorem PlOk.steer {l : List ByteArray} {k : Nat} {b : Bd} {i : Int} (hl : lvT l = true) (h : PlOk l k b) (hk : k < 4) (h0 : b.life ≠ 0) (hi : 0 ≤ i ∧ i ≤ 15) : steerB l b i = steerU l b i := by
  have hlf := h.life
  have ho := h.owner
  unfold steerB
  rw [if_pos]
  unfold steerOk
  have hok := pl_okBd (n := b.owner + 1) hl h (by omega)
  simp only [Bool.and_eq_true, decide_eq_true_eq]
  exact ⟨h.kind, by omega, by omega, hi, hok⟩
theorem PlOk.bwf {l : List ByteArray} {k : Nat} {b : Bd} (hl : lvT l = true) (h : PlOk l k b) : BWf b := by
  have := free_bd (lvT_lv hl) (by decide : (1 : Int) ≤ 12) (by decide) h.free
  exact ⟨by omega, by omega⟩
theorem pl_dead {l : List ByteArray} {row : List Int} {k : Nat} {bs : List Bd} {b : Bd} (hb : bAt bs k = b) (h0 : b.life = 0) : (b.timer - 1 = 0 → plStep l row k bs = bs.set k (freshB l k)) ∧ (¬ b.timer - 1 = 0 → plStep l row k bs = bs.set k { b with timer := b.timer - 1 }) := by
  subst hb
  unfold plStep
  rw [if_pos h0]
  exact ⟨fun h => by rw [if_pos h], fun h => by rw [if_neg h]⟩
theorem pl_live {l : List ByteArray} {row : List Int} {k : Nat} {bs : List Bd} {b c : Bd} {f : Bool} (hb : bAt bs k = b) (h0 : ¬ b.life = 0) (hs : steerU l b (iAt row k) = (c, f)) : ((f = true ∧ bs.length < 24) → plStep l row k bs = bs.set k c ++ [shotB c]) ∧ (¬ (f = true ∧ bs.length < 24) → plStep l row k bs = bs.set k c) := by
  subst hb
  unfold plStep
  rw [if_neg h0, hs]
  exact ⟨fun h => by rw [if_pos h], fun h => by rw [if_neg h]⟩
/-- the loop's state -/
structure PlI (w wr : World) (B G : Nat) (x xs : Value) (X : Wd) (L : List Bd) : Prop where
  ex : ∃ xb, Hd wr B G x xs xb { X with bodies := L }
  bl : Below B w wr
  sz : w.heap.size ≤ wr.heap.size
/-- behind the steering of a player -/
structure PlC (w wr : World) (B G : Nat) (x xs xb : Value) (X : Wd) (L : List Bd) (bq : Nat) (c : Bd) (f : Bool) (p q : Value) : Prop where
  hd : Hd wr B G x xs xb { X with bodies := L }
  bl : Below B w wr
  sz : w.heap.size ≤ wr.heap.size
  ex : ∃ g, p = .pointer (some ⟨g, 0, none⟩) ∧ bq < g ∧ Blk wr g c
  q : q = .bool f
theorem Hd.there9 {w : World} {B G g n cap k : Nat} {x xs : Value} {X : Wd} (h : Hd w B G x xs (.slice (some ⟨g, 0, none⟩) n cap) X) (hk : k < X.bodies.length) : w.there g (k * 9) 9 := by
  have hn : n = X.bodies.length := by
    obtain ⟨_, ao, c, e, _⟩ := h.own.b.at_
    simp only [Value.slice.injEq] at e
    exact e.2.1
  subst hn
  exact h.own.b.there9 hk
set_option maxRecDepth 100000 in
set_option maxHeartbeats 16000000 in
theorem players_impl {x xs xb rv : Value} {X : Wd} {B G : Nat} {row : List Int} (w : World) (h : Hd w B G x xs xb X) (hl : lvT X.rows = true) (h1 : 1 ≤ X.scores.length) (h4 : X.scores.length ≤ 4) (hB : Bods X.rows X.scores.length X.bodies)
    (hrow : ∀ wx, Below B w wx → At wx 1 rv row.length (ints row)) (hrl : row.length = X.scores.length) (hri : ∀ k, k < X.scores.length → 0 ≤ iAt row k ∧ iAt row k ≤ 15) :
    Calls Try.prog 82 #[.pointer (some ⟨G, 0, none⟩), rv] w fun e w' => e = .returned (.tuple #[]) ∧ (∃ xb', Hd w' B G x xs xb' { X with bodies := plUp X.rows row X.bodies X.scores.length }) ∧ Below B w w' := by
  obtain ⟨hl12, hl20⟩ := lv_sizes hl
  have HST : ∀ (b : Bd) (i : Int) (k : Nat) (yb : Value) (bs : List Bd) (wx : World), Hd wx B G x xs yb { X with bodies := bs } → PlOk X.rows k b → k < 4 → b.life ≠ 0 → (0 ≤ i ∧ i ≤ 15) → Calls Try.prog 31 #[.agg #[x], b.val, .int .i64 i] wx fun e w' => e = .returned (.tuple #[(steerU X.rows b i).1.val, .bool (steerU X.rows b i).2]) ∧ Below wx.heap.size wx w' := fun b i k yb bs wx hx hp hk h0 hi => by
    rw [← hp.steer hl hk h0 hi]
    exact steer_impl b i wx hx.own.at_.r (by show X.rows.length ≤ 1048576; omega) (fun s hs => by have := hl20 s hs; omega) (hp.bwf hl)
  have HFR : ∀ (k : Nat) (yb : Value) (bs : List Bd) (wx : World), Hd wx B G x xs yb { X with bodies := bs } → Calls Try.prog 73 #[.agg #[x], .int .i64 (k : Int)] wx fun e w' => e = .returned (freshB X.rows k).val ∧ Below wx.heap.size wx w' := fun k yb bs wx hx => fresh_impl k wx hx.own.at_.r (by show X.rows.length ≤ 1048576; omega) (fun s hs => by have := hl20 s hs; omega)
  have HUP := Lib.hid (plUp_ok row hl h4 hB)
  have HF0 : Hid (plUp X.rows row X.bodies 0 = X.bodies) := Lib.hid rfl
  have HFS : Hid (∀ k, plUp X.rows row X.bodies (k + 1) = plStep X.rows row k (plUp X.rows row X.bodies k)) := Lib.hid (fun _ => rfl)
  have HDE := Lib.hid (fun k bs b hb h0 => pl_dead (l := X.rows) (row := row) (k := k) (bs := bs) (b := b) hb h0)
  have HLI := Lib.hid (fun k bs b c f hb h0 hs => pl_live (l := X.rows) (row := row) (k := k) (bs := bs) (b := b) (c := c) (f := f) hb h0 hs)
  have hI : PlI w w B G x xs X (plUp X.rows row X.bodies 0) := ⟨⟨xb, h⟩, Below.refl _ _, Nat.le_refl _⟩
  have hsz0 : B ≤ w.heap.size := by have := h.ge; have := h.blk.lt; omega
  have hGlt := h.blk.lt
  have hGge := h.ge
  obtain ⟨gs, scap, hxs, hgs⟩ := h.formS (by omega)
  subst hxs
  have q3 := h.blk.c3
  clear h hB hl hl12 hl20
  generalize plUp X.rows row X.bodies = F at *
  generalize hn : X.scores.length = n at *
  have Hn := Lib.hid hn
  clear hn
  go_enter Try.func82, Try.ntmps82
  go_wp2_with fail
  clear q3
  go_loopw [13] (fun i wr => ∃ k : Nat, k ≤ n ∧ i = .int .i64 k ∧ PlI w wr B G x (.slice (some ⟨gs, 0, none⟩) n scap) X (F k)) (fun i _ => n - (intOf i).toNat)
  case atStart => exact ⟨0, Nat.zero_le _, rfl, hI⟩
  case round =>
    clear hI
    obtain ⟨k, hk, rfl, ⟨⟨yb, hH⟩, hb, hsz⟩⟩ := hrel
    by_cases hlt : k < n
    · have HS := Lib.hid (HFS.out k)
      have hup := HUP.out k hk
      have hpk := hup.pl k hlt
      have hle := hup.le
      have hmo := hup.most
      have hrk := hri k hlt
      clear hup HUP HFS HF0 hri
      generalize F k = L at *
      obtain ⟨gb, cap, hyb, hgb⟩ := hH.formB (by show 0 < L.length; omega)
      subst hyb
      simp only at hH
      obtain ⟨N, hN⟩ : ∃ N, L.length = N := ⟨_, rfl⟩
      rw [hN] at hH hle hmo
      have HN := Lib.hid hN
      clear hN
      have hkL : k < L.length := by rw [HN.out]; omega
      have hE := hH.elemAt (k := k) hkL
      simp only at hE
      have hR := hE.range
      have HDK := Lib.hid (fun b hb h0 => HDE.out k L b hb h0)
      have HLK := Lib.hid (fun b c f hb h0 hs => HLI.out k L b c f hb h0 hs)
      generalize hbe : bAt L k = b at *
      have HBE := Lib.hid hbe
      clear hbe hE HDE HLI
      have c1 : (0 : Int) ≤ (k : Int) := by omega
      have c2 : (k : Int) < (N : Int) := by omega
      have c3 : (k : Int) < (n : Int) := by omega
      have q4 := hH.blk.c4
      go_upto_region 3 with (fail)
      apply wp_region_lit
      iterate 18 go_step
      refine load_bod (op := ⟨some 22, _, _, _, _, _⟩) rfl _ rfl gb (k * 9) rfl b hR ?_
      refine alloc_bod rfl rfl ?_
      have hBk := Blk.new wr 42 zB
      have hk0 : Below wr.heap.size wr (wr.alloc (.cells zB.cells.toArray 42)) := (Below.refl _ _).alloc (Nat.le_refl _) _
      change Blk (wr.alloc (.cells zB.cells.toArray 42)) wr.heap.size zB at hBk
      generalize World.alloc wr _ = w1 at hBk hk0
      refine store_bod (op := ⟨none, _, _, _, _, _⟩) rfl _ _ rfl wr.heap.size 0 rfl b rfl hBk.there ?_
      have hB2 := hBk.setAll b
      have hk1 : Below wr.heap.size wr (w1.setCells wr.heap.size 0 b.cells) := setCells_below hk0 (Nat.le_refl _)
      generalize World.setCells w1 _ _ _ = w2 at hB2 hk1
      have hH2 := hH.below hk1
      have hb2 := hb.trans (hk1.mono (Nat.le_trans hsz0 hsz))
      have hsz2 := Nat.le_trans hsz hk1.size
      have hbq : w.heap.size ≤ wr.heap.size := hsz
      have hlow : ∀ i, blkH G x (.slice (some ⟨gs, 0, none⟩) n scap) (.slice (some ⟨gb, 0, none⟩) N cap) i → B ≤ i ∧ i < wr.heap.size := hH.lt
      clear hBk hk0 hk1 hH hb hsz hR q4 hgb
      generalize wr.heap.size = bq at *
      have c7' := hB2.c7
      by_cases h0 : b.life = 0
      · have htm := hpk.dead h0
        obtain ⟨hD1, hD2⟩ := HDK.out b rfl h0
        have HD1 := Lib.hid hD1
        have HD2 := Lib.hid hD2
        have x1 : (b.life == 0) = true := beq_iff_eq.2 h0
        clear HDK HLK hD1 hD2 h0 hpk HST
        have c8' := hB2.c8
        have f8' := hB2.f8
        go_upto_region 5 with (fail)
        apply wp_region_lit
        iterate 12 go_step
        refine store_cell (o := ⟨none, _, _, _, _, _⟩) rfl _ _ _ rfl bq 8 rfl (.int .i64 (b.timer - 1)) rfl rfl size_int c8' f8' ?_
        have hB3 := hB2.set8 (b.timer - 1)
        have hg3 := setCell_grown w2 bq 8 (.int .i64 (b.timer - 1))
        generalize World.setCell w2 _ _ = w3 at hB3 hg3
        have hH3 := hH2.tch (Tch.of_grown1 (S := fun i => i = bq) hg3 rfl) (fun i hi e => by have := (hlow i hi).2; omega)
        have hb3 := hb2.grown hg3 (Nat.le_trans hsz0 hsz2) (fun j h => by simp only [Option.some.injEq] at h; omega)
        have hsz3 := Nat.le_trans hsz2 hg3.size
        clear hH2 hb2 hB2 hsz2 hg3 c7' c8' f8' x1
        have c8' := hB3.c8
        simp only at c8'
        by_cases ht0 : b.timer - 1 = 0
        · have HS1 := Lib.hid (HS.out.trans (HD1.out ht0))
          have x2 : (b.timer - 1 == 0) = true := by simp; omega
          clear HD1 HD2 ht0 HS
          have HFk := HFR k _ L w3 hH3
          generalize freshB X.rows k = fb at *
          have q0 := hH3.blk.c0
          go_upto_region 7 with (fail)
          apply wp_region_lit
          iterate 15 go_step
          refine wpList_callC rfl 73 _ _ rfl Try.func73 (by kernel_rfl) (by kernel_rfl) #[.agg #[x], .int .i64 (k : Int)] (by kernel_rfl) HFk ?_
          rintro e w4 ⟨rfl, hk4⟩
          refine ⟨_, rfl, ?_⟩
          have hH4 := hH3.below hk4
          have hb4 := hb3.trans (hk4.mono (Nat.le_trans hsz0 hsz3))
          have hB4 := hB3.below hk4 hB3.lt
          have hsz4 := Nat.le_trans hsz3 hk4.size
          clear hH3 hb3 hB3 hsz3 hk4 c8' x2 q0 HFk HFR
          simp only [Act.put, List.setIfInBounds_toArray, List.set_cons_zero, List.set_cons_succ]
          refine store_bod (op := ⟨none, _, _, _, _, _⟩) rfl _ _ rfl bq 0 rfl fb rfl hB4.there ?_
          have hB5 := hB4.setAll fb
          have hg5 := setCells_grown w4 bq 0 fb.cells
          generalize World.setCells w4 _ _ _ = w5 at hB5 hg5
          have hH5 := hH4.tch (Tch.of_grown1 (S := fun i => i = bq) hg5 rfl) (fun i hi e => by have := (hlow i hi).2; omega)
          have hb5 := hb4.grown hg5 (Nat.le_trans hsz0 hsz4) (fun j h => by simp only [Option.some.injEq] at h; omega)
          have hsz5 := Nat.le_trans hsz4 hg5.size
          clear hH4 hb4 hB4 hsz4 hg5
          go_upto_region 8 with (fail)
          have hHd := hH5.drew
          have hbD := hb5.drew
          have hBd := hB5.drew
          have hszD : w.heap.size ≤ w5.drew.heap.size := hsz5
          have e4 := hHd.blk.c4
          have rB := hBd.range
          clear hH5 hb5 hB5 hsz5
          refine wp_region_sch (fun wx => wx.cell? ⟨G, 4, none⟩ = some (.slice (some ⟨gb, 0, none⟩) N cap) ∧ wx.rangeAt bq 0 (fb : Bd).cells) 7 9 (.st 0 (.st 1 (.st 2 (.st 3 (.st 4 (.st 5 (.st 6 (.fin [7])))))))) (by kernel_rfl) (by kernel_rfl) (fun _ _ d _ _ h => by cases d <;> exact h) ⟨e4, rB⟩ ?_
          refine sch_still (o := ⟨some 39, _, _, _, _, _⟩) (v := .pointer (some ⟨G, 0, none⟩)) rfl rfl ?_ ?_
          · intro wx hSx
            go_simp
          simp only [Act.put, List.setIfInBounds_toArray, List.set_cons_zero, List.set_cons_succ]
          refine sch_still (o := ⟨some 40, _, _, _, _, _⟩) (v := .pointer (some ⟨G, 0, none⟩)) rfl rfl ?_ ?_
          · intro wx hSx
            go_simp
          simp only [Act.put, List.setIfInBounds_toArray, List.set_cons_zero, List.set_cons_succ]
          refine sch_still (o := ⟨some 41, _, _, _, _, _⟩) (v := .pointer (some ⟨G, 4, none⟩)) rfl rfl ?_ ?_
          · intro wx hSx
            go_simp
          simp only [Act.put, List.setIfInBounds_toArray, List.set_cons_zero, List.set_cons_succ]
          refine sch_still (o := ⟨some 42, _, _, _, _, _⟩) (v := .slice (some ⟨gb, 0, none⟩) N cap) rfl rfl ?_ ?_
          · intro wx hSx
            obtain ⟨s1, s2⟩ := hSx; go_simp
          simp only [Act.put, List.setIfInBounds_toArray, List.set_cons_zero, List.set_cons_succ]
          refine sch_still (o := ⟨some 43, _, _, _, _, _⟩) (v := .int .i64 (k : Int)) rfl rfl ?_ ?_
          · intro wx hSx
            go_simp
          simp only [Act.put, List.setIfInBounds_toArray, List.set_cons_zero, List.set_cons_succ]
          refine sch_still (o := ⟨some 44, _, _, _, _, _⟩) (v := (fb : Bd).val) rfl rfl ?_ ?_
          · intro wx hSx
            exact still_bodL _ rfl bq 0 rfl fb hSx.2
          simp only [Act.put, List.setIfInBounds_toArray, List.set_cons_zero, List.set_cons_succ]
          refine sch_still (o := ⟨some 45, _, _, _, _, _⟩) (v := .pointer (some ⟨gb, k * 9, none⟩)) rfl rfl ?_ ?_
          · intro wx hSx
            go_simp
          simp only [Act.put, List.setIfInBounds_toArray, List.set_cons_zero, List.set_cons_succ]
          refine sch_end (.cons (o := ⟨none, _, _, _, _, _⟩) rfl .nil) ?_
          generalize w5.drew = wq at *
          refine store_bod (op := ⟨none, _, _, _, _, _⟩) rfl _ _ rfl gb (k * 9) rfl fb rfl (hHd.there9 hkL) ?_
          have hq := hHd.elemB hkL fb
          have hB9 := hBd.grown hq.2 (by simp only [ne_eq, Option.some.injEq]; have := (hlow gb (.inr (.inr (.inr rfl)))).2; omega)
          generalize World.setCells wq _ _ _ = w9 at hq hB9
          obtain ⟨hH9, hg9⟩ := hq
          have hb9 := hbD.grown hg9 (Nat.le_trans hsz0 hszD) (fun j h => by simp only [Option.some.injEq] at h; have := (hlow gb (.inr (.inr (.inr rfl)))).1; omega)
          have hsz9 := Nat.le_trans hszD hg9.size
          clear hHd hbD hBd hszD e4 rB hg9
          simp only at hH9
          go_wp2_with fail
          go_roundw
          case rel => exact ⟨k + 1, by omega, by go_num, by rw [HS1.out]; exact ⟨⟨_, hH9⟩, hb9, hsz9⟩⟩
          case measure => simp [intOf]; omega
        · have HS1 := Lib.hid (HS.out.trans (HD2.out ht0))
          have x2 : (b.timer - 1 == 0) = false := by simp; omega
          clear HD1 HD2 ht0 HS HFR
          go_upto_region 8 with (fail)
          have hHd := hH3.drew
          have hbD := hb3.drew
          have hBd := hB3.drew
          have hszD : w.heap.size ≤ w3.drew.heap.size := hsz3
          have e4 := hHd.blk.c4
          have rB := hBd.range
          clear hH3 hb3 hB3 hsz3
          refine wp_region_sch (fun wx => wx.cell? ⟨G, 4, none⟩ = some (.slice (some ⟨gb, 0, none⟩) N cap) ∧ wx.rangeAt bq 0 ({ b with timer := b.timer - 1 } : Bd).cells) 7 9 (.st 0 (.st 1 (.st 2 (.st 3 (.st 4 (.st 5 (.st 6 (.fin [7])))))))) (by kernel_rfl) (by kernel_rfl) (fun _ _ d _ _ h => by cases d <;> exact h) ⟨e4, rB⟩ ?_
          refine sch_still (o := ⟨some 39, _, _, _, _, _⟩) (v := .pointer (some ⟨G, 0, none⟩)) rfl rfl ?_ ?_
          · intro wx hSx
            go_simp
          simp only [Act.put, List.setIfInBounds_toArray, List.set_cons_zero, List.set_cons_succ]
          refine sch_still (o := ⟨some 40, _, _, _, _, _⟩) (v := .pointer (some ⟨G, 0, none⟩)) rfl rfl ?_ ?_
          · intro wx hSx
            go_simp
          simp only [Act.put, List.setIfInBounds_toArray, List.set_cons_zero, List.set_cons_succ]
          refine sch_still (o := ⟨some 41, _, _, _, _, _⟩) (v := .pointer (some ⟨G, 4, none⟩)) rfl rfl ?_ ?_
          · intro wx hSx
            go_simp
          simp only [Act.put, List.setIfInBounds_toArray, List.set_cons_zero, List.set_cons_succ]
          refine sch_still (o := ⟨some 42, _, _, _, _, _⟩) (v := .slice (some ⟨gb, 0, none⟩) N cap) rfl rfl ?_ ?_
          · intro wx hSx
            obtain ⟨s1, s2⟩ := hSx; go_simp
          simp only [Act.put, List.setIfInBounds_toArray, List.set_cons_zero, List.set_cons_succ]
          refine sch_still (o := ⟨some 43, _, _, _, _, _⟩) (v := .int .i64 (k : Int)) rfl rfl ?_ ?_
          · intro wx hSx
            go_simp
          simp only [Act.put, List.setIfInBounds_toArray, List.set_cons_zero, List.set_cons_succ]
          refine sch_still (o := ⟨some 44, _, _, _, _, _⟩) (v := ({ b with timer := b.timer - 1 } : Bd).val) rfl rfl ?_ ?_
          · intro wx hSx
            exact still_bodL _ rfl bq 0 rfl { b with timer := b.timer - 1 } hSx.2
          simp only [Act.put, List.setIfInBounds_toArray, List.set_cons_zero, List.set_cons_succ]
          refine sch_still (o := ⟨some 45, _, _, _, _, _⟩) (v := .pointer (some ⟨gb, k * 9, none⟩)) rfl rfl ?_ ?_
          · intro wx hSx
            go_simp
          simp only [Act.put, List.setIfInBounds_toArray, List.set_cons_zero, List.set_cons_succ]
          refine sch_end (.cons (o := ⟨none, _, _, _, _, _⟩) rfl .nil) ?_
          generalize w3.drew = wq at *
          refine store_bod (op := ⟨none, _, _, _, _, _⟩) rfl _ _ rfl gb (k * 9) rfl { b with timer := b.timer - 1 } rfl (hHd.there9 hkL) ?_
          have hq := hHd.elemB hkL { b with timer := b.timer - 1 }
          have hB9 := hBd.grown hq.2 (by simp only [ne_eq, Option.some.injEq]; have := (hlow gb (.inr (.inr (.inr rfl)))).2; omega)
          generalize World.setCells wq _ _ _ = w9 at hq hB9
          obtain ⟨hH9, hg9⟩ := hq
          have hb9 := hbD.grown hg9 (Nat.le_trans hsz0 hszD) (fun j h => by simp only [Option.some.injEq] at h; have := (hlow gb (.inr (.inr (.inr rfl)))).1; omega)
          have hsz9 := Nat.le_trans hszD hg9.size
          clear hHd hbD hBd hszD e4 rB hg9
          simp only at hH9
          go_wp2_with fail
          go_roundw
          case rel => exact ⟨k + 1, by omega, by go_num, by rw [HS1.out]; exact ⟨⟨_, hH9⟩, hb9, hsz9⟩⟩
          case measure => simp [intOf]; omega
      · obtain ⟨⟨c, f⟩, hcf⟩ : ∃ q, steerU X.rows b (iAt row k) = q := ⟨_, rfl⟩
        obtain ⟨hD1, hD2⟩ := HLK.out b c f rfl h0 hcf
        rw [HN.out] at hD1 hD2
        have HD1 := Lib.hid (fun q => HS.out.trans (hD1 q))
        have HD2 := Lib.hid (fun q => HS.out.trans (hD2 q))
        have HSTk := fun yb bs wx hx => HST b (iAt row k) k yb bs wx hx hpk (by omega) h0 hrk
        rw [hcf] at HSTk
        have x1 : (b.life == 0) = false := by simp [h0]
        clear HDK HLK hD1 hD2 h0 hpk HST HFR HS hcf
        go_upto_region 9 with (fail)
        clear c7' x1
        have hHd := hH2.drew
        have hbD := hb2.drew
        have hBd := hB2.drew
        have hszD : w.heap.size ≤ w2.drew.heap.size := hsz2
        have hrA := hrow _ hbD
        obtain ⟨ro, rcap, hrv, hrc⟩ := hrA.cell
        obtain ⟨gr, off, hro, hgr, hrcell⟩ := hrc (by omega)
        subst hro
        have hck := hrcell k (by omega)
        rw [← iAt_eq (l := row) (by omega)] at hck
        rw [hrl] at hrv
        clear hrc hrcell hrA
        subst hrv
        have e0 := hHd.blk.c0
        have rB := hBd.range
        generalize iAt row k = z at *
        clear hH2 hb2 hB2 hsz2
        go_cut [6, 7] (fun p q wx => PlC w wx B G x (.slice (some ⟨gs, 0, none⟩) n scap) (.slice (some ⟨gb, 0, none⟩) N cap) X L bq c f p q)
        case first =>
          refine wp_region_sch (fun wx => wx.cell? ⟨G, 0, none⟩ = some x ∧ wx.rangeAt bq 0 b.cells ∧ wx.cell? ⟨gr, off + k, none⟩ = some (.int .i64 z)) 14 16 (.st 0 (.st 1 (.st 2 (.st 3 (.st 4 (.st 5 (.st 6 (.st 7 (.st 8 (.two 9 (.st 10 (.st 11 (.sw 12 (.ef 13 (.fin [14, 15]))))) 13 (.ef 9 (.st 10 (.st 11 (.sw 12 (.fin [14, 15]))))))))))))))) (by kernel_rfl) (by kernel_rfl) (fun _ _ d _ _ h => by cases d <;> exact h) ⟨e0, rB, hck⟩ ?_
          refine sch_still (o := ⟨some 47, _, _, _, _, _⟩) (v := .pointer (some ⟨G, 0, none⟩)) rfl rfl ?_ ?_
          · intro wx hSx
            go_simp
          simp only [Act.put, List.setIfInBounds_toArray, List.set_cons_zero, List.set_cons_succ]
          refine sch_still (o := ⟨some 48, _, _, _, _, _⟩) (v := .pointer (some ⟨G, 0, none⟩)) rfl rfl ?_ ?_
          · intro wx hSx
            go_simp
          simp only [Act.put, List.setIfInBounds_toArray, List.set_cons_zero, List.set_cons_succ]
          refine sch_still (o := ⟨some 49, _, _, _, _, _⟩) (v := .pointer (some ⟨G, 0, none⟩)) rfl rfl ?_ ?_
          · intro wx hSx
            go_simp
          simp only [Act.put, List.setIfInBounds_toArray, List.set_cons_zero, List.set_cons_succ]
          refine sch_still (o := ⟨some 50, _, _, _, _, _⟩) (v := .agg #[x]) rfl rfl ?_ ?_
          · intro wx hSx
            obtain ⟨s1, s2, s3⟩ := hSx; go_simp
          simp only [Act.put, List.setIfInBounds_toArray, List.set_cons_zero, List.set_cons_succ]
          refine sch_still (o := ⟨some 51, _, _, _, _, _⟩) (v := b.val) rfl rfl ?_ ?_
          · intro wx hSx
            exact still_bodL _ rfl bq 0 rfl b hSx.2.1
          simp only [Act.put, List.setIfInBounds_toArray, List.set_cons_zero, List.set_cons_succ]
          refine sch_still (o := ⟨some 52, _, _, _, _, _⟩) (v := .slice (some ⟨gr, off, none⟩) n rcap) rfl rfl ?_ ?_
          · intro wx hSx
            go_simp
          simp only [Act.put, List.setIfInBounds_toArray, List.set_cons_zero, List.set_cons_succ]
          refine sch_still (o := ⟨some 53, _, _, _, _, _⟩) (v := .int .i64 (k : Int)) rfl rfl ?_ ?_
          · intro wx hSx
            go_simp
          simp only [Act.put, List.setIfInBounds_toArray, List.set_cons_zero, List.set_cons_succ]
          refine sch_still (o := ⟨some 54, _, _, _, _, _⟩) (v := .pointer (some ⟨gr, off + k, none⟩)) rfl rfl ?_ ?_
          · intro wx hSx
            go_simp
          simp only [Act.put, List.setIfInBounds_toArray, List.set_cons_zero, List.set_cons_succ]
          refine sch_still (o := ⟨some 55, _, _, _, _, _⟩) (v := .int .i64 z) rfl rfl ?_ ?_
          · intro wx hSx
            obtain ⟨s1, s2, s3⟩ := hSx; go_simp
          simp only [Act.put, List.setIfInBounds_toArray, List.set_cons_zero, List.set_cons_succ]
          generalize w2.drew = wq at *
          refine sch_2 (o := ⟨some 56, _, _, _, _, _⟩) (p := ⟨some 6, _, _, _, _, _⟩) rfl rfl ?_ ?_
          · refine wpList_callC rfl 31 _ _ rfl Try.func31 (by kernel_rfl) (by kernel_rfl) #[.agg #[x], b.val, .int .i64 z] (by kernel_rfl) (HSTk _ _ _ hHd) ?_
            rintro e w3 ⟨rfl, hk3⟩
            refine ⟨_, rfl, ?_⟩
            have hH3 := hHd.below hk3
            have hb3 := hbD.trans (hk3.mono (Nat.le_trans hsz0 hszD))
            have hB3 := hBd.below hk3 hBd.lt
            have hsz3 := Nat.le_trans hszD hk3.size
            have hck3 := (hk3.cell (p := ⟨gr, off + k, none⟩) (by show gr < _; omega)).trans hck
            have hzz3 := hk3.size
            refine sch_next ⟨hH3.blk.c0, hB3.range, hck3⟩ ?_
            simp only [Act.put, List.setIfInBounds_toArray, List.set_cons_zero, List.set_cons_succ]
            refine sch_still (o := ⟨some 46, _, _, _, _, _⟩) (v := .tuple #[c.val, .bool f]) rfl rfl ?_ ?_
            · intro wx hSx
              go_simp
            simp only [Act.put, List.setIfInBounds_toArray, List.set_cons_zero, List.set_cons_succ]
            refine sch_still (o := ⟨some 57, _, _, _, _, _⟩) (v := c.val) rfl rfl ?_ ?_
            · intro wx hSx
              go_simp
            simp only [Act.put, List.setIfInBounds_toArray, List.set_cons_zero, List.set_cons_succ]
            refine sch_sw (o := ⟨some 58, _, _, _, _, _⟩) (v := .bool f) rfl rfl ?_ ?_
            · intro wx
              go_simp
            simp only [Act.put, List.setIfInBounds_toArray, List.set_cons_zero, List.set_cons_succ]
            refine sch_ef (o := ⟨some 6, _, _, _, _, _⟩) rfl ?_
            refine alloc_bod rfl rfl ?_
            have hC := Blk.new w3 42 zB
            change Blk (w3.alloc (.cells zB.cells.toArray 42)) w3.heap.size zB at hC
            have hk4 : Below w3.heap.size w3 (w3.alloc (.cells zB.cells.toArray 42)) := (Below.refl _ _).alloc (Nat.le_refl _) _
            generalize World.alloc w3 _ = w4 at hC hk4
            have hgl : bq < w3.heap.size := hB3.lt
            have hH4 := hH3.below hk4
            have hb4 := hb3.trans (hk4.mono (Nat.le_trans hsz0 hsz3))
            have hB4 := hB3.below hk4 hB3.lt
            have hsz4 := Nat.le_trans hsz3 hk4.size
            have hck4 := (hk4.cell (p := ⟨gr, off + k, none⟩) (by show gr < _; omega)).trans hck3
            have hzz4 := hk4.size
            have hg5l : ∀ i, blkH G x (.slice (some ⟨gs, 0, none⟩) n scap) (.slice (some ⟨gb, 0, none⟩) N cap) i → i ≠ w3.heap.size := fun i hi e => by have := (hH3.lt i hi).2; omega
            generalize hge : w3.heap.size = g5 at *
            clear hge
            refine sch_next ⟨hH4.blk.c0, hB4.range, hck4⟩ ?_
            simp only [Act.put, List.setIfInBounds_toArray, List.set_cons_zero, List.set_cons_succ]
            refine sch_end (.cons (o := ⟨none, _, _, _, _, _⟩) rfl (.cons (o := ⟨some 7, _, _, _, _, _⟩) rfl .nil)) ?_
            refine store_bod (op := ⟨none, _, _, _, _, _⟩) rfl _ _ rfl g5 0 rfl c rfl hC.there ?_
            have hC4 := hC.setAll c
            have hg4 := setCells_grown w4 g5 0 c.cells
            generalize World.setCells w4 _ _ _ = w9 at hC4 hg4
            have hH9 := hH4.tch (Tch.of_grown1 (S := fun i => i = g5) hg4 rfl) (fun i hi e => hg5l i hi e)
            have hb9 := hb4.grown hg4 (Nat.le_trans hsz0 hsz4) (fun j h => by simp only [Option.some.injEq] at h; omega)
            have hsz9 := Nat.le_trans hsz4 hg4.size
            go_wp2_with fail
            go_meet
            case rel => exact ⟨hH9, hb9, hsz9, ⟨g5, rfl, hgl, hC4⟩, rfl⟩
          · refine alloc_bod rfl rfl ?_
            have hC := Blk.new wq 42 zB
            change Blk (wq.alloc (.cells zB.cells.toArray 42)) wq.heap.size zB at hC
            have hk4 : Below wq.heap.size wq (wq.alloc (.cells zB.cells.toArray 42)) := (Below.refl _ _).alloc (Nat.le_refl _) _
            generalize World.alloc wq _ = w3 at hC hk4
            have hgl : bq < wq.heap.size := hBd.lt
            have hH3 := hHd.below hk4
            have hb3 := hbD.trans (hk4.mono (Nat.le_trans hsz0 hszD))
            have hB3 := hBd.below hk4 hBd.lt
            have hsz3 := Nat.le_trans hszD hk4.size
            have hck3 := (hk4.cell (p := ⟨gr, off + k, none⟩) (by show gr < _; omega)).trans hck
            have hzz3 := hk4.size
            have hg5l : ∀ i, blkH G x (.slice (some ⟨gs, 0, none⟩) n scap) (.slice (some ⟨gb, 0, none⟩) N cap) i → i ≠ wq.heap.size := fun i hi e => by have := (hHd.lt i hi).2; omega
            generalize hge : wq.heap.size = g5 at *
            clear hge
            refine sch_next ⟨hH3.blk.c0, hB3.range, hck3⟩ ?_
            simp only [Act.put, List.setIfInBounds_toArray, List.set_cons_zero, List.set_cons_succ]
            refine sch_ef (o := ⟨some 56, _, _, _, _, _⟩) rfl ?_
            refine wpList_callC rfl 31 _ _ rfl Try.func31 (by kernel_rfl) (by kernel_rfl) #[.agg #[x], b.val, .int .i64 z] (by kernel_rfl) (HSTk _ _ _ hH3) ?_
            rintro e w4 ⟨rfl, hk3⟩
            refine ⟨_, rfl, ?_⟩
            have hH4 := hH3.below hk3
            have hb4 := hb3.trans (hk3.mono (Nat.le_trans hsz0 hsz3))
            have hB4 := hB3.below hk3 hB3.lt
            have hsz4 := Nat.le_trans hsz3 hk3.size
            have hck4 := (hk3.cell (p := ⟨gr, off + k, none⟩) (by show gr < _; omega)).trans hck3
            have hzz4 := hk3.size
            have hC' := hC.below hk3 hC.lt
            clear hC
            have hC := hC'
            refine sch_next ⟨hH4.blk.c0, hB4.range, hck4⟩ ?_
            simp only [Act.put, List.setIfInBounds_toArray, List.set_cons_zero, List.set_cons_succ]
            refine sch_still (o := ⟨some 46, _, _, _, _, _⟩) (v := .tuple #[c.val, .bool f]) rfl rfl ?_ ?_
            · intro wx hSx
              go_simp
            simp only [Act.put, List.setIfInBounds_toArray, List.set_cons_zero, List.set_cons_succ]
            refine sch_still (o := ⟨some 57, _, _, _, _, _⟩) (v := c.val) rfl rfl ?_ ?_
            · intro wx hSx
              go_simp
            simp only [Act.put, List.setIfInBounds_toArray, List.set_cons_zero, List.set_cons_succ]
            refine sch_sw (o := ⟨some 58, _, _, _, _, _⟩) (v := .bool f) rfl rfl ?_ ?_
            · intro wx
              go_simp
            simp only [Act.put, List.setIfInBounds_toArray, List.set_cons_zero, List.set_cons_succ]
            refine sch_end (.cons (o := ⟨none, _, _, _, _, _⟩) rfl (.cons (o := ⟨some 7, _, _, _, _, _⟩) rfl .nil)) ?_
            refine store_bod (op := ⟨none, _, _, _, _, _⟩) rfl _ _ rfl g5 0 rfl c rfl hC.there ?_
            have hC4 := hC.setAll c
            have hg4 := setCells_grown w4 g5 0 c.cells
            generalize World.setCells w4 _ _ _ = w9 at hC4 hg4
            have hH9 := hH4.tch (Tch.of_grown1 (S := fun i => i = g5) hg4 rfl) (fun i hi e => hg5l i hi e)
            have hb9 := hb4.grown hg4 (Nat.le_trans hsz0 hsz4) (fun j h => by simp only [Option.some.injEq] at h; omega)
            have hsz9 := Nat.le_trans hsz4 hg4.size
            go_wp2_with fail
            go_meet
            case rel => exact ⟨hH9, hb9, hsz9, ⟨g5, rfl, hgl, hC4⟩, rfl⟩
        case rest =>
        clear hHd hbD hBd hszD e0 rB HSTk hrow hck
        obtain ⟨hH3, hb3, hsz3, ⟨g6, rfl, hg6, hB3⟩, rfl⟩ := hcut
        obtain ⟨w3, rfl⟩ : ∃ w3 : World, w3 = wc := ⟨_, rfl⟩
        go_upto_region 10 with (fail)
        have hHd := hH3.drew
        have hbD := hb3.drew
        have hBd := hB3.drew
        have hszD : w.heap.size ≤ w3.drew.heap.size := hsz3
        have e4 := hHd.blk.c4
        have rB := hBd.range
        clear hH3 hb3 hB3 hsz3
        refine wp_region_sch (fun wx => wx.cell? ⟨G, 4, none⟩ = some (.slice (some ⟨gb, 0, none⟩) N cap) ∧ wx.rangeAt g6 0 (c : Bd).cells) 7 9 (.st 0 (.st 1 (.st 2 (.st 3 (.st 4 (.st 5 (.st 6 (.fin [7])))))))) (by kernel_rfl) (by kernel_rfl) (fun _ _ d _ _ h => by cases d <;> exact h) ⟨e4, rB⟩ ?_
        refine sch_still (o := ⟨some 59, _, _, _, _, _⟩) (v := .pointer (some ⟨G, 0, none⟩)) rfl rfl ?_ ?_
        · intro wx hSx
          go_simp
        simp only [Act.put, List.setIfInBounds_toArray, List.set_cons_zero, List.set_cons_succ]
        refine sch_still (o := ⟨some 60, _, _, _, _, _⟩) (v := .pointer (some ⟨G, 0, none⟩)) rfl rfl ?_ ?_
        · intro wx hSx
          go_simp
        simp only [Act.put, List.setIfInBounds_toArray, List.set_cons_zero, List.set_cons_succ]
        refine sch_still (o := ⟨some 61, _, _, _, _, _⟩) (v := .pointer (some ⟨G, 4, none⟩)) rfl rfl ?_ ?_
        · intro wx hSx
          go_simp
        simp only [Act.put, List.setIfInBounds_toArray, List.set_cons_zero, List.set_cons_succ]
        refine sch_still (o := ⟨some 62, _, _, _, _, _⟩) (v := .slice (some ⟨gb, 0, none⟩) N cap) rfl rfl ?_ ?_
        · intro wx hSx
          obtain ⟨s1, s2⟩ := hSx; go_simp
        simp only [Act.put, List.setIfInBounds_toArray, List.set_cons_zero, List.set_cons_succ]
        refine sch_still (o := ⟨some 63, _, _, _, _, _⟩) (v := .int .i64 (k : Int)) rfl rfl ?_ ?_
        · intro wx hSx
          go_simp
        simp only [Act.put, List.setIfInBounds_toArray, List.set_cons_zero, List.set_cons_succ]
        refine sch_still (o := ⟨some 64, _, _, _, _, _⟩) (v := (c : Bd).val) rfl rfl ?_ ?_
        · intro wx hSx
          exact still_bodL _ rfl g6 0 rfl c hSx.2
        simp only [Act.put, List.setIfInBounds_toArray, List.set_cons_zero, List.set_cons_succ]
        refine sch_still (o := ⟨some 65, _, _, _, _, _⟩) (v := .pointer (some ⟨gb, k * 9, none⟩)) rfl rfl ?_ ?_
        · intro wx hSx
          go_simp
        simp only [Act.put, List.setIfInBounds_toArray, List.set_cons_zero, List.set_cons_succ]
        refine sch_end (.cons (o := ⟨none, _, _, _, _, _⟩) rfl .nil) ?_
        generalize w3.drew = wq at *
        refine store_bod (op := ⟨none, _, _, _, _, _⟩) rfl _ _ rfl gb (k * 9) rfl c rfl (hHd.there9 hkL) ?_
        have hq := hHd.elemB hkL c
        have hB9 := hBd.grown hq.2 (by simp only [ne_eq, Option.some.injEq]; have := (hlow gb (.inr (.inr (.inr rfl)))).2; omega)
        generalize World.setCells wq _ _ _ = w9 at hq hB9
        obtain ⟨hH9, hg9⟩ := hq
        have hb9 := hbD.grown hg9 (Nat.le_trans hsz0 hszD) (fun j h => by simp only [Option.some.injEq] at h; have := (hlow gb (.inr (.inr (.inr rfl)))).1; omega)
        have hsz9 := Nat.le_trans hszD hg9.size
        clear hHd hbD hBd hszD e4 rB hg9
        simp only at hH9
        have hlen : (L.set k c).length = N := by rw [List.length_set]; exact HN.out
        have HLEN := Lib.hid hlen
        clear hlen
        have q4 := hH9.blk.c4
        cases f with
        | false =>
          have HS1 := Lib.hid (HD2.out (fun e => by cases e.1))
          clear HD1 HD2
          go_wp2_with fail
          go_roundw
          case rel => exact ⟨k + 1, by omega, by go_num, by rw [HS1.out]; exact ⟨⟨_, hH9⟩, hb9, hsz9⟩⟩
          case measure => simp [intOf]; omega
        | true =>
          by_cases h24 : N < 24
          · have HS1 := Lib.hid (HD1.out ⟨rfl, h24⟩)
            have x2 : decide ((N : Int) < 24) = true := decide_eq_true (by omega)
            clear HD1 HD2
            go_upto_region 12 with (fail)
            clear x2 q4
            have hHd := hH9.drew
            have hbD := hb9.drew
            have hBd := hB9.drew
            have hszD : w.heap.size ≤ w9.drew.heap.size := hsz9
            have e4 := hHd.blk.c4
            have rB := hBd.range
            clear hH9 hb9 hB9 hsz9
            refine wp_region_sch (fun wx => wx.cell? ⟨G, 4, none⟩ = some (.slice (some ⟨gb, 0, none⟩) N cap) ∧ wx.rangeAt g6 0 c.cells) 11 13 (.st 0 (.st 1 (.st 2 (.st 3 (.st 4 (.st 5 (.ef 6 (.ef 7 (.ef 8 (.st 9 (.st 10 (.fin [11])))))))))))) (by kernel_rfl) (by kernel_rfl) (fun _ _ d _ _ h => by cases d <;> exact h) ⟨e4, rB⟩ ?_
            refine sch_still (o := ⟨some 75, _, _, _, _, _⟩) (v := .pointer (some ⟨G, 0, none⟩)) rfl rfl ?_ ?_
            · intro wx hSx
              go_simp
            simp only [Act.put, List.setIfInBounds_toArray, List.set_cons_zero, List.set_cons_succ]
            refine sch_still (o := ⟨some 76, _, _, _, _, _⟩) (v := .pointer (some ⟨G, 0, none⟩)) rfl rfl ?_ ?_
            · intro wx hSx
              go_simp
            simp only [Act.put, List.setIfInBounds_toArray, List.set_cons_zero, List.set_cons_succ]
            refine sch_still (o := ⟨some 77, _, _, _, _, _⟩) (v := .pointer (some ⟨G, 0, none⟩)) rfl rfl ?_ ?_
            · intro wx hSx
              go_simp
            simp only [Act.put, List.setIfInBounds_toArray, List.set_cons_zero, List.set_cons_succ]
            refine sch_still (o := ⟨some 78, _, _, _, _, _⟩) (v := .pointer (some ⟨G, 4, none⟩)) rfl rfl ?_ ?_
            · intro wx hSx
              go_simp
            simp only [Act.put, List.setIfInBounds_toArray, List.set_cons_zero, List.set_cons_succ]
            refine sch_still (o := ⟨some 79, _, _, _, _, _⟩) (v := .slice (some ⟨gb, 0, none⟩) N cap) rfl rfl ?_ ?_
            · intro wx hSx
              obtain ⟨s1, s2⟩ := hSx; go_simp
            simp only [Act.put, List.setIfInBounds_toArray, List.set_cons_zero, List.set_cons_succ]
            refine sch_still (o := ⟨some 80, _, _, _, _, _⟩) (v := c.val) rfl rfl ?_ ?_
            · intro wx hSx
              exact still_bodL _ rfl g6 0 rfl c hSx.2
            simp only [Act.put, List.setIfInBounds_toArray, List.set_cons_zero, List.set_cons_succ]
            generalize w9.drew = wq at *
            refine sch_ef (o := ⟨some 81, _, _, _, _, _⟩) rfl ?_
            refine wpList_callC rfl 32 _ _ rfl Try.func32 (by kernel_rfl) (by kernel_rfl) #[c.val] (by kernel_rfl) (shotV_impl c wq) ?_
            rintro e wa ⟨rfl, hk5⟩
            refine ⟨_, rfl, ?_⟩
            have hHa := hHd.below hk5
            have hba := hbD.trans (hk5.mono (Nat.le_trans hsz0 hszD))
            have hBa := hBd.below hk5 hBd.lt
            have hsza := Nat.le_trans hszD hk5.size
            clear hHd hbD hBd hszD hk5 e4 rB
            generalize shotB c = sb at *
            refine sch_next ⟨hHa.blk.c4, hBa.range⟩ ?_
            simp only [Act.put, List.setIfInBounds_toArray, List.set_cons_zero, List.set_cons_succ]
            refine sch_ef (o := ⟨some 82, _, _, _, _, _⟩) rfl ?_
            refine lit_bod (o := ⟨some 82, _, _, _, _, _⟩) rfl _ rfl sb rfl ?_
            have hq := own_lit wa sb
            have hk6 : Below wa.heap.size wa (wa.alloc (.cells sb.cells.toArray 42)) := (Below.refl _ _).alloc (Nat.le_refl _) _
            generalize World.alloc wa _ = wb at hq hk6
            have hHb := hHa.below hk6
            have hbb := hba.trans (hk6.mono (Nat.le_trans hsz0 hsza))
            have hBb := hBa.below hk6 hBa.lt
            have hszb := Nat.le_trans hsza hk6.size
            clear hHa hba hBa hsza hk6
            refine sch_next ⟨hHb.blk.c4, hBb.range⟩ ?_
            simp only [Act.put, List.setIfInBounds_toArray, List.set_cons_zero, List.set_cons_succ]
            refine sch_ef (o := ⟨some 83, _, _, _, _, _⟩) rfl ?_
            have hob := hHb.own.b
            simp only at hob
            rw [HLEN.out] at hob
            refine app_bods (o := ⟨some 83, _, _, _, _, _⟩) wb rfl _ _ rfl B hob rfl hq.at_ rfl (by omega) (Nat.le_trans hsz0 hszb) ?_
            intro v5 wd hv hg hvb
            have hHe := hHb.appB hv hg hvb
            have g4 := (hHb.blk.grown hg hHb.n3).c4
            have p4 := (hHb.blk.grown hg hHb.n3).f4
            have ov := slice_one hv.at_
            have hBd2 := hBb.grown hg (fun e => by simp only [Value.ownBlock, Option.some.injEq] at e; have := (hlow gb (.inr (.inr (.inr rfl)))).2; omega)
            clear hv hg hvb hq hob
            refine sch_next ⟨g4, hBd2.range⟩ ?_
            simp only [Act.put, List.setIfInBounds_toArray, List.set_cons_zero, List.set_cons_succ]
            refine sch_still (o := ⟨some 84, _, _, _, _, _⟩) (v := .pointer (some ⟨G, 0, none⟩)) rfl rfl ?_ ?_
            · intro wx hSx
              go_simp
            simp only [Act.put, List.setIfInBounds_toArray, List.set_cons_zero, List.set_cons_succ]
            refine sch_still (o := ⟨some 85, _, _, _, _, _⟩) (v := .pointer (some ⟨G, 4, none⟩)) rfl rfl ?_ ?_
            · intro wx hSx
              go_simp
            simp only [Act.put, List.setIfInBounds_toArray, List.set_cons_zero, List.set_cons_succ]
            refine sch_end (.cons (o := ⟨none, _, _, _, _, _⟩) rfl .nil) ?_
            refine store_cell (o := ⟨none, _, _, _, _, _⟩) rfl _ _ _ rfl G 4 rfl v5 rfl ov size_bods g4 p4 ?_
            generalize World.setCell wd _ _ = wf at hHe
            obtain ⟨hHf, ht⟩ := hHe
            have hbf := hbb.trans (hHb.tchBelow ht (fun i hi => hi.imp id fun e => .inr (.inr e)))
            have hszf := Nat.le_trans hszb ht.size
            clear hHb hbb hBb hszb ht g4 p4 ov hBd2
            go_wp2_with fail
            go_roundw
            case rel => exact ⟨k + 1, by omega, by go_num, by rw [HS1.out]; exact ⟨⟨_, hHf⟩, hbf, hszf⟩⟩
            case measure => simp [intOf]; omega
          · have HS1 := Lib.hid (HD2.out (fun e => h24 e.2))
            have x2 : decide ((N : Int) < 24) = false := decide_eq_false (by omega)
            clear HD1 HD2
            go_wp2_with fail
            go_roundw
            case rel => exact ⟨k + 1, by omega, by go_num, by rw [HS1.out]; exact ⟨⟨_, hH9⟩, hb9, hsz9⟩⟩
            case measure => simp [intOf]; omega
    · obtain rfl : k = n := by omega
      go_wp2_with fail
      exact Great.bodyPost_end0 rfl rfl ⟨rfl, ⟨yb, hH⟩, hb⟩
end Go.Proofs.Ytmamihkcikgmcaa
