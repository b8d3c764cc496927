/- Texts Mvs, Mvi, Mvr, Mvm in one. -/
import Derived.Test.YtmamihkcikgmcaaKB
import Derived.Test.YtmamihkcikgmcaaKD
import Derived.Test.YtmamihkcikgmcaaKE
import Derived.Test.YtmamihkcikgmcaaKF
import Derived.Test.YtmamihkcikgmcaaKL
import Derived.Deep.CutBlock
import Derived.Deep.DeepCutAuto
import Derived.Handy
/- l02Move: the reference's move. -/
namespace Go.Proofs.Ytmamihkcikgmcaa
open Go.RowKit

theorem mv_step_bd {l : List ByteArray} {W : Nat} {x y s : Int} (hl : Lv l W) (h1 : 1 ≤ s) (h2 : s ≤ 16) (h : solT l x y s = false) : 0 ≤ x ∧ x ≤ 320 ∧ 0 ≤ y ∧ y ≤ 320 := by
  have := free_bd hl h1 h2 h; omega
theorem dirOf_cases (v : Int) : dirOf v = 1 ∨ dirOf v = -1 := by unfold dirOf; split <;> omega
set_option maxRecDepth 100000 in
set_option maxHeartbeats 16000000 in
theorem l02move_ret {u : Value} {l : List ByteArray} (b : Bd) (w : World) (h : At w 1 u l.length (l.map Value.string)) (hm : l.length ≤ 1048576) (hz : ∀ s ∈ l, s.size ≤ 1048576) (hv : lvT l = true) (hk : 0 ≤ b.kind ∧ b.kind ≤ 2) (hf : solT l b.x b.y (szOf b.kind) = false) (hx : -15 ≤ b.vx ∧ b.vx ≤ 15) (hy : -15 ≤ b.vy ∧ b.vy ≤ 15) :
    Calls Try.prog 130 #[.agg #[u], b.val] w fun e w' => e = .returned (.tuple #[(moveU l b).1.val, .bool (moveU l b).2]) ∧ Below w.heap.size w w' := by
  have hsz := szOf_pos hk.1 hk.2
  have HLv := Lib.hid (lvT_lv hv)
  obtain ⟨k0, k1, k2, k3, k4, k5, k6, k7, k8⟩ := b
  simp only at hk hf hx hy hsz
  obtain ⟨S, hS⟩ : ∃ S, szOf k0 = S := ⟨_, rfl⟩
  rw [hS] at hf hsz
  have HSZ := Lib.hid hS; clear hS hk hv
  have HF := Lib.hid hf; clear hf
  have HS : ∀ a c wx, Below w.heap.size w wx → Calls Try.prog 139 #[.agg #[u], .int .i64 a, .int .i64 c, .int .i64 S] wx fun e w' => e = .returned (.bool (solT l a c S)) ∧ Below wx.heap.size wx w' := fun a c wx hb => solid_spec a c S wx (h.below hb) hm hz hsz.1 hsz.2
  rw [show (Bd.mk k0 k1 k2 k3 k4 k5 k6 k7 k8).val = .agg #[.int .i64 k0, .int .i64 k1, .int .i64 k2, .int .i64 k3, .int .i64 k4, .int .i64 k5, .int .i64 k6, .int .i64 k7, .int .i64 k8] from rfl]
  go_enter Try.func130, Try.ntmps130
  go_wp2_with fail
  generalize hw1 : ((w.alloc _).alloc _).alloc _ = w1
  have hb1 : Below w.heap.size w w1 := by rw [← hw1]; exact (((Below.refl _ _).alloc (Nat.le_refl _) _).alloc (by simp) _).alloc (by simp; omega) _
  have hL1 : w1.cell? ⟨w.heap.size, 0, none⟩ = some u := by rw [← hw1]; exact cell_alloc_lt (cell_alloc_lt (World.cell?_alloc_new w _ _ 0) _ (by simp)) _ (by simp; omega)
  have hB1 : Blk w1 (w.heap.size + 1) ⟨k0, k1, k2, k3, k4, k5, k6, k7, k8⟩ := by
    rw [← hw1]
    have := (Blk.new (w.alloc (.cells #[u] 27)) 42 ⟨k0, k1, k2, k3, k4, k5, k6, k7, k8⟩).alloc (.cells #[.int .i64 0, .int .i64 0, .int .i64 0, .int .i64 0, .int .i64 0, .int .i64 0, .int .i64 0, .int .i64 0, .int .i64 0] 42)
    rwa [show (w.alloc (.cells #[u] 27)).heap.size = w.heap.size + 1 by simp] at this
  have hR1 : Blk w1 (w.heap.size + 2) zB := by
    rw [← hw1]
    have := Blk.new ((w.alloc (.cells #[u] 27)).alloc (.cells #[.int .i64 k0, .int .i64 k1, .int .i64 k2, .int .i64 k3, .int .i64 k4, .int .i64 k5, .int .i64 k6, .int .i64 k7, .int .i64 k8] 42)) 42 zB
    rwa [show ((w.alloc (.cells #[u] 27)).alloc (.cells #[.int .i64 k0, .int .i64 k1, .int .i64 k2, .int .i64 k3, .int .i64 k4, .int .i64 k5, .int .i64 k6, .int .i64 k7, .int .i64 k8] 42)).heap.size = w.heap.size + 2 by simp] at this
  clear hw1
  obtain ⟨hlt, c0, c1, c2, c3, c4, c5, c6, c7, c8, _⟩ := id hB1
  simp only at c0 c1 c2 c3 c4 c5 c6 c7 c8
  refine (sz_spec _ _).mono ?_
  rintro e wx ⟨rfl, rfl⟩
  rw [HSZ.out]
  go_upto_if 16 with (fail)
  go_cut [8, 9] (fun s n wx => s = .int .i64 (dirOf k4) ∧ n = .int .i64 ((cntOf k4 : Nat) : Int) ∧ w1 = wx)
  case first =>
    by_cases h4 : k4 < 0
    · have HD := Lib.hid (dir_neg h4)
      have HC : Hid (((cntOf k4 : Nat) : Int) = -k4) := Lib.hid (by unfold cntOf; omega)
      go_wp2_with fail
      go_meet
      case rel => exact ⟨by rw [HD.out], by rw [HC.out], rfl⟩
    · have HD := Lib.hid (dir_pos (v := k4) (by omega))
      have HC : Hid (((cntOf k4 : Nat) : Int) = k4) := Lib.hid (by unfold cntOf; omega)
      go_wp2_with fail
      go_meet
      case rel => exact ⟨by rw [HD.out], by rw [HC.out], rfl⟩
  case rest =>
    obtain ⟨rfl, rfl, rfl⟩ := hcut
    go_upto_block 0 with (fail)
    go_cut [7] (fun st wx => ∃ (x1 : Int) (s1 : Bool), st = .bool (false || s1) ∧ Hid (mvGo (fun a => solT l a k3 S) (dirOf k4) (cntOf k4) k2 = (x1, s1)) ∧ Hid (solT l x1 k3 S = false) ∧ Blk wx (w.heap.size + 1) ⟨k0, k1, x1, k3, if s1 = true then 0 else k4, k5, k6, k7, k8⟩ ∧ Blk wx (w.heap.size + 2) zB ∧ wx.cell? ⟨w.heap.size, 0, none⟩ = some u ∧ Below w.heap.size w wx)
    case first =>
      go_wp2_with fail
      go_loopw [7, 9] (fun st n wx => ∃ (m : Nat) (x1 : Int), st = .bool false ∧ n = .int .i64 m ∧ m ≤ 15 ∧ Hid (mvGo (fun a => solT l a k3 S) (dirOf k4) (cntOf k4) k2 = mvGo (fun a => solT l a k3 S) (dirOf k4) m x1) ∧ Hid (solT l x1 k3 S = false) ∧ Blk wx (w.heap.size + 1) ⟨k0, k1, x1, k3, k4, k5, k6, k7, k8⟩ ∧ Blk wx (w.heap.size + 2) zB ∧ wx.cell? ⟨w.heap.size, 0, none⟩ = some u ∧ Below w.heap.size w wx) (fun _ n _ => (intOf n).toNat)
      case atStart => exact ⟨cntOf k4, k2, rfl, rfl, by unfold cntOf; omega, Lib.hid rfl, HF, hB1, hR1, hL1, hb1⟩
      case round =>
        clear c0 c1 c2 c3 c4 c5 c6 c7 c8
        obtain ⟨m, x1, rfl, rfl, hm15, HG, HFr, hB, hR, hL, hb⟩ := hrel
        obtain ⟨hlt, c0, c1, c2, c3, c4, c5, c6, c7, c8, f0, f1, f2, f3, f4, f5, f6, f7, f8⟩ := id hB
        simp only at c0 c1 c2 c3 c4 c5 c6 c7 c8
        have hbd := mv_step_bd HLv.out hsz.1 hsz.2 HFr.out
        have hd := dirOf_cases k4
        by_cases h0 : ¬ 0 < m
        · obtain rfl : m = 0 := by omega
          have HN : Hid (mvGo (fun a => solT l a k3 S) (dirOf k4) (cntOf k4) k2 = (x1, false)) := HG
          go_wp2_with fail
          go_meet
          case rel => exact ⟨x1, false, by simp, HN, HFr, hB, hR, hL, hb⟩
        · obtain ⟨m', rfl⟩ : ∃ m', m = m' + 1 := ⟨m - 1, by omega⟩
          clear h0
          have hd2 : -1 ≤ dirOf k4 ∧ dirOf k4 ≤ 1 := by omega
          clear hd
          go_wp2_with fail
          refine (HS (x1 + dirOf k4) k3 _ hb).mono ?_
          rintro e wa ⟨rfl, ha⟩
          have hba := hb.trans (ha.mono hb.size)
          have hBa := hB.below ha hB.lt
          have hRa := hR.below ha hR.lt
          have hLa : wa.cell? ⟨w.heap.size, 0, none⟩ = some u := (ha.cell (p := ⟨w.heap.size, 0, none⟩) (by show w.heap.size < _; omega)).trans hL
          clear hb hB hR hL ha c0 c1 c2 c3 c4 c5 c6 c7 c8 f0 f1 f2 f3 f4 f5 f6 f7 f8
          obtain ⟨hlta, c0, c1, c2, c3, c4, c5, c6, c7, c8, f0, f1, f2, f3, f4, f5, f6, f7, f8⟩ := id hBa
          simp only at c0 c1 c2 c3 c4 c5 c6 c7 c8
          cases hs : solT l (x1 + dirOf k4) k3 S with
          | true =>
            have HN := Lib.hid (HG.out.trans (mvGo_stop hs))
            clear hs
            go_wp2_with fail
            go_meet
            case rel => exact ⟨x1, true, by simp, HN, HFr, hBa.set4 0, hRa.other (by show w.heap.size + 1 ≠ w.heap.size + 2; omega) _, cell_set_ne hLa (by show w.heap.size + 1 ≠ w.heap.size; omega), hba.setCell (by show w.heap.size ≤ w.heap.size + 1; omega) _⟩
          | false =>
            have HN := Lib.hid (HG.out.trans (mvGo_more hs))
            have HF2 := Lib.hid hs
            clear hs
            go_wp2_with fail
            go_roundw
            case rel => exact ⟨m', x1 + dirOf k4, rfl, by go_num, by omega, HN, HF2, hBa.set2 (x1 + dirOf k4), hRa.other (by show w.heap.size + 1 ≠ w.heap.size + 2; omega) _, cell_set_ne hLa (by show w.heap.size + 1 ≠ w.heap.size; omega), hba.setCell (by show w.heap.size ≤ w.heap.size + 1; omega) _⟩
            case measure => simp [intOf]
    case rest =>
      obtain ⟨wq, rfl⟩ : ∃ wq : World, wq = wc := ⟨_, rfl⟩
      obtain ⟨X1, S1, rfl, HG1, HF1, hB1', hR1', hL1', hb1'⟩ := hcut
      clear c0 c1 c2 c3 c4 c5 c6 c7 c8 hB1 hR1 hL1 hb1 HF
      obtain ⟨V1, hV1⟩ : ∃ V1, (if S1 = true then 0 else k4) = V1 := ⟨_, rfl⟩
      rw [hV1] at hB1'
      have HV1 := Lib.hid hV1; clear hV1
      have hB1 := hB1'
      have hR1 := hR1'
      have hL1 := hL1'
      have hb1 := hb1'
      have HF := HF1
      clear hB1' hR1' hL1' hb1' HF1
      obtain ⟨hlt, c0, c1, c2, c3, c4, c5, c6, c7, c8, _⟩ := id hB1
      simp only at c0 c1 c2 c3 c4 c5 c6 c7 c8
      go_upto_if 41 with (fail)
      go_cut [8, 9] (fun s n wx => s = .int .i64 (dirOf k5) ∧ n = .int .i64 ((cntOf k5 : Nat) : Int) ∧ wq = wx)
      case first =>
        by_cases h4 : k5 < 0
        · have HD := Lib.hid (dir_neg h4)
          have HC : Hid (((cntOf k5 : Nat) : Int) = -k5) := Lib.hid (by unfold cntOf; omega)
          go_wp2_with fail
          go_meet
          case rel => exact ⟨by rw [HD.out], by rw [HC.out], rfl⟩
        · have HD := Lib.hid (dir_pos (v := k5) (by omega))
          have HC : Hid (((cntOf k5 : Nat) : Int) = k5) := Lib.hid (by unfold cntOf; omega)
          go_wp2_with fail
          go_meet
          case rel => exact ⟨by rw [HD.out], by rw [HC.out], rfl⟩
      case rest =>
        obtain ⟨rfl, rfl, rfl⟩ := hcut
        go_upto_block 2 with (fail)
        go_cut [7] (fun st wx => ∃ (x1 : Int) (s1 : Bool), st = .bool (S1 || s1) ∧ Hid (mvGo (fun a => solT l X1 a S) (dirOf k5) (cntOf k5) k3 = (x1, s1)) ∧ Hid (solT l X1 x1 S = false) ∧ Blk wx (w.heap.size + 1) ⟨k0, k1, X1, x1, V1, if s1 = true then 0 else k5, k6, k7, k8⟩ ∧ Blk wx (w.heap.size + 2) zB ∧ wx.cell? ⟨w.heap.size, 0, none⟩ = some u ∧ Below w.heap.size w wx)
        case first =>
          go_wp2_with fail
          go_loopw [7, 9] (fun st n wx => ∃ (m : Nat) (x1 : Int), st = .bool S1 ∧ n = .int .i64 m ∧ m ≤ 15 ∧ Hid (mvGo (fun a => solT l X1 a S) (dirOf k5) (cntOf k5) k3 = mvGo (fun a => solT l X1 a S) (dirOf k5) m x1) ∧ Hid (solT l X1 x1 S = false) ∧ Blk wx (w.heap.size + 1) ⟨k0, k1, X1, x1, V1, k5, k6, k7, k8⟩ ∧ Blk wx (w.heap.size + 2) zB ∧ wx.cell? ⟨w.heap.size, 0, none⟩ = some u ∧ Below w.heap.size w wx) (fun _ n _ => (intOf n).toNat)
          case atStart => exact ⟨cntOf k5, k3, rfl, rfl, by unfold cntOf; omega, Lib.hid rfl, HF, hB1, hR1, hL1, hb1⟩
          case round =>
            clear c0 c1 c2 c3 c4 c5 c6 c7 c8
            obtain ⟨m, x1, rfl, rfl, hm15, HG, HFr, hB, hR, hL, hb⟩ := hrel
            obtain ⟨hlt, c0, c1, c2, c3, c4, c5, c6, c7, c8, f0, f1, f2, f3, f4, f5, f6, f7, f8⟩ := id hB
            simp only at c0 c1 c2 c3 c4 c5 c6 c7 c8
            have hbd := mv_step_bd HLv.out hsz.1 hsz.2 HFr.out
            have hd := dirOf_cases k5
            by_cases h0 : ¬ 0 < m
            · obtain rfl : m = 0 := by omega
              have HN : Hid (mvGo (fun a => solT l X1 a S) (dirOf k5) (cntOf k5) k3 = (x1, false)) := HG
              go_wp2_with fail
              go_meet
              case rel => exact ⟨x1, false, by simp, HN, HFr, hB, hR, hL, hb⟩
            · obtain ⟨m', rfl⟩ : ∃ m', m = m' + 1 := ⟨m - 1, by omega⟩
              clear h0
              have hd2 : -1 ≤ dirOf k5 ∧ dirOf k5 ≤ 1 := by omega
              clear hd
              go_wp2_with fail
              refine (HS X1 (x1 + dirOf k5) _ hb).mono ?_
              rintro e wa ⟨rfl, ha⟩
              have hba := hb.trans (ha.mono hb.size)
              have hBa := hB.below ha hB.lt
              have hRa := hR.below ha hR.lt
              have hLa : wa.cell? ⟨w.heap.size, 0, none⟩ = some u := (ha.cell (p := ⟨w.heap.size, 0, none⟩) (by show w.heap.size < _; omega)).trans hL
              clear hb hB hR hL ha c0 c1 c2 c3 c4 c5 c6 c7 c8 f0 f1 f2 f3 f4 f5 f6 f7 f8
              obtain ⟨hlta, c0, c1, c2, c3, c4, c5, c6, c7, c8, f0, f1, f2, f3, f4, f5, f6, f7, f8⟩ := id hBa
              simp only at c0 c1 c2 c3 c4 c5 c6 c7 c8
              cases hs : solT l X1 (x1 + dirOf k5) S with
              | true =>
                have HN := Lib.hid (HG.out.trans (mvGo_stop hs))
                clear hs
                go_wp2_with fail
                go_meet
                case rel => exact ⟨x1, true, by simp, HN, HFr, hBa.set5 0, hRa.other (by show w.heap.size + 1 ≠ w.heap.size + 2; omega) _, cell_set_ne hLa (by show w.heap.size + 1 ≠ w.heap.size; omega), hba.setCell (by show w.heap.size ≤ w.heap.size + 1; omega) _⟩
              | false =>
                have HN := Lib.hid (HG.out.trans (mvGo_more hs))
                have HF2 := Lib.hid hs
                clear hs
                go_wp2_with fail
                go_roundw
                case rel => exact ⟨m', x1 + dirOf k5, rfl, by go_num, by omega, HN, HF2, hBa.set3 (x1 + dirOf k5), hRa.other (by show w.heap.size + 1 ≠ w.heap.size + 2; omega) _, cell_set_ne hLa (by show w.heap.size + 1 ≠ w.heap.size; omega), hba.setCell (by show w.heap.size ≤ w.heap.size + 1; omega) _⟩
                case measure => simp [intOf]
        case rest =>
          obtain ⟨y1, s2, rfl, HG2, HF2, hB, hR, hL, hb⟩ := hcut
          clear c0 c1 c2 c3 c4 c5 c6 c7 c8
          obtain ⟨V2, hV2⟩ : ∃ V2, (if s2 = true then 0 else k5) = V2 := ⟨_, rfl⟩
          rw [hV2] at hB
          have HV2 := Lib.hid hV2; clear hV2
          obtain ⟨hlt3, c0, c1, c2, c3, c4, c5, c6, c7, c8, _⟩ := id hB
          simp only at c0 c1 c2 c3 c4 c5 c6 c7 c8
          obtain ⟨hltr, r0, r1, r2, r3, r4, r5, r6, r7, r8, q0, q1, q2, q3, q4, q5, q6, q7, q8⟩ := id hR
          go_wp2_with fail
          have hE : moveU l ⟨k0, k1, k2, k3, k4, k5, k6, k7, k8⟩ = (⟨k0, k1, X1, y1, V1, V2, k6, k7, k8⟩, S1 || s2) := by
            have hm1 : mvT l (szOf k0) k2 k3 k4 k5 = ⟨X1, y1, V1, V2, S1 || s2⟩ := by
              rw [HSZ.out, mvT_eq HG1.out HG2.out, HV1.out, HV2.out]
            unfold moveU
            simp only [hm1]
          have hb2 := below_put9 hb (show w.heap.size ≤ w.heap.size + 1 + 1 by omega) ⟨k0, k1, X1, y1, V1, V2, k6, k7, k8⟩
          have hB2 := Blk.put9 (g := w.heap.size + 1 + 1) hR ⟨k0, k1, X1, y1, V1, V2, k6, k7, k8⟩
          change bodyPost _ _ _ _ _ (put9 wc (w.heap.size + 1 + 1) ⟨k0, k1, X1, y1, V1, V2, k6, k7, k8⟩)
          generalize put9 wc (w.heap.size + 1 + 1) ⟨k0, k1, X1, y1, V1, V2, k6, k7, k8⟩ = wn at hb2 hB2 ⊢
          obtain ⟨_, e0, e1, e2, e3, e4, e5, e6, e7, e8, _⟩ := hB2
          simp only at e0 e1 e2 e3 e4 e5 e6 e7 e8
          refine bodyPost_ret (v := .tuple #[.agg #[.int .i64 k0, .int .i64 k1, .int .i64 X1, .int .i64 y1, .int .i64 V1, .int .i64 V2, .int .i64 k6, .int .i64 k7, .int .i64 k8], .bool (S1 || s2)]) (by simp [results, Try.results130, go_sem, e0, e1, e2, e3, e4, e5, e6, e7, e8]) rfl ?_
          exact ⟨by rw [hE]; rfl, hb2⟩
end Go.Proofs.Ytmamihkcikgmcaa
/- MoveBody, the program's and the reference's. -/
namespace Go.Proofs.Ytmamihkcikgmcaa
open Go.RowKit

theorem direction_ret (v : Int) (w : World) (h1 : -9223372036854775807 ≤ v) : Calls Try.prog 67 #[.int .i64 v] w fun e w' => e = .returned (.tuple #[.int .i64 (dirOf v), .int .i64 ((cntOf v : Nat) : Int)]) ∧ w = w' := by
  by_cases h : v < 0
  · have HD := Lib.hid (dir_neg h)
    have HC : Hid (((cntOf v : Nat) : Int) = -v) := Lib.hid (by unfold cntOf; omega)
    go_enter Try.func67, Try.ntmps67
    go_wp2
    go_ret2
    exact ⟨by rw [HD.out, HC.out]; rfl, rfl⟩
  · have HD := Lib.hid (dir_pos (v := v) (by omega))
    have HC : Hid (((cntOf v : Nat) : Int) = v) := Lib.hid (by unfold cntOf; omega)
    go_enter Try.func67, Try.ntmps67
    go_wp2
    go_ret2
    exact ⟨by rw [HD.out, HC.out]; rfl, rfl⟩
theorem moveB_no {l : List ByteArray} {b : Bd} (h : solA l b.x b.y (szOf b.kind) = true ∨ inB b.vx (-15) 15 = false ∨ inB b.vy (-15) 15 = false) : moveB l b = (b, false) := by
  unfold moveB
  rw [if_pos]
  rcases h with h | h | h
  · exact .inl h
  · right; intro hh; rw [inB_yes hh.1 hh.2.1] at h; cases h
  · right; intro hh; rw [inB_yes hh.2.2.1 hh.2.2.2] at h; cases h
theorem moveB_yes {l : List ByteArray} {b : Bd} (h : solA l b.x b.y (szOf b.kind) = false) (h1 : inB b.vx (-15) 15 = true) (h2 : inB b.vy (-15) 15 = true) : moveB l b = moveU l b := by
  have h1 := inB_iff.1 h1
  have h2 := inB_iff.1 h2
  unfold moveB
  rw [if_neg]
  rintro (h' | h')
  · rw [h] at h'; cases h'
  · exact h' ⟨h1.1, h1.2, h2.1, h2.2⟩
theorem solA_false {l : List ByteArray} {x y s : Int} (h : solA l x y s = false) : 1 ≤ s ∧ s ≤ 16 ∧ lvT l = true ∧ solT l x y s = false := by
  unfold solA at h
  split at h
  · rename_i hh; exact ⟨hh.1, hh.2.1, hh.2.2, h⟩
  · cases h
set_option maxRecDepth 100000 in
set_option maxHeartbeats 16000000 in
theorem move_impl {u : Value} {l : List ByteArray} (b : Bd) (w : World) (h : At w 1 u l.length (l.map Value.string)) (hm : l.length ≤ 1048576) (hz : ∀ s ∈ l, s.size ≤ 1048576) (hw : BWf b) :
    Calls Try.prog 22 #[.agg #[u], b.val] w fun e w' => e = .returned (.tuple #[(moveB l b).1.val, .bool (moveB l b).2]) ∧ Below w.heap.size w w' := by
  obtain ⟨hx9, hy9⟩ := hw
  obtain ⟨k0, k1, k2, k3, k4, k5, k6, k7, k8⟩ := b
  simp only at hx9 hy9
  obtain ⟨S, hS⟩ : ∃ S, szOf k0 = S := ⟨_, rfl⟩
  have HA : ∀ wx, Below w.heap.size w wx → Calls Try.prog 23 #[.agg #[u], .int .i64 k2, .int .i64 k3, .int .i64 S] wx fun e w' => e = .returned (.bool (solA l k2 k3 S)) ∧ Below wx.heap.size wx w' := fun wx hb => solat_impl k2 k3 S wx (h.below hb) hm hz hx9 hy9
  have HNO : Hid ((solA l k2 k3 S = true ∨ inB k4 (-15) 15 = false ∨ inB k5 (-15) 15 = false) → moveB l ⟨k0, k1, k2, k3, k4, k5, k6, k7, k8⟩ = (⟨k0, k1, k2, k3, k4, k5, k6, k7, k8⟩, false)) := Lib.hid fun hh => moveB_no (by rw [hS]; exact hh)
  have HYES : Hid (solA l k2 k3 S = false → inB k4 (-15) 15 = true → inB k5 (-15) 15 = true → moveB l ⟨k0, k1, k2, k3, k4, k5, k6, k7, k8⟩ = moveU l ⟨k0, k1, k2, k3, k4, k5, k6, k7, k8⟩) := Lib.hid fun h1 h2 h3 => moveB_yes (by rw [hS]; exact h1) h2 h3
  have HSZ := Lib.hid hS; clear hS
  rw [show (Bd.mk k0 k1 k2 k3 k4 k5 k6 k7 k8).val = .agg #[.int .i64 k0, .int .i64 k1, .int .i64 k2, .int .i64 k3, .int .i64 k4, .int .i64 k5, .int .i64 k6, .int .i64 k7, .int .i64 k8] from rfl]
  go_enter Try.func22, Try.ntmps22
  go_wp2_with fail
  generalize hw1 : ((w.alloc _).alloc _).alloc _ = w1
  have hb1 : Below w.heap.size w w1 := by rw [← hw1]; exact (((Below.refl _ _).alloc (Nat.le_refl _) _).alloc (by simp) _).alloc (by simp; omega) _
  have hL1 : w1.cell? ⟨w.heap.size, 0, none⟩ = some u := by rw [← hw1]; exact cell_alloc_lt (cell_alloc_lt (World.cell?_alloc_new w _ _ 0) _ (by simp)) _ (by simp; omega)
  have hB1 : Blk w1 (w.heap.size + 1) ⟨k0, k1, k2, k3, k4, k5, k6, k7, k8⟩ := by
    rw [← hw1]
    have := (Blk.new (w.alloc (.cells #[u] 27)) 42 ⟨k0, k1, k2, k3, k4, k5, k6, k7, k8⟩).alloc (.cells #[.int .i64 0, .int .i64 0, .int .i64 0, .int .i64 0, .int .i64 0, .int .i64 0, .int .i64 0, .int .i64 0, .int .i64 0] 42)
    rwa [show (w.alloc (.cells #[u] 27)).heap.size = w.heap.size + 1 by simp] at this
  have hR1 : Blk w1 (w.heap.size + 2) zB := by
    rw [← hw1]
    have := Blk.new ((w.alloc (.cells #[u] 27)).alloc (.cells #[.int .i64 k0, .int .i64 k1, .int .i64 k2, .int .i64 k3, .int .i64 k4, .int .i64 k5, .int .i64 k6, .int .i64 k7, .int .i64 k8] 42)) 42 zB
    rwa [show ((w.alloc (.cells #[u] 27)).alloc (.cells #[.int .i64 k0, .int .i64 k1, .int .i64 k2, .int .i64 k3, .int .i64 k4, .int .i64 k5, .int .i64 k6, .int .i64 k7, .int .i64 k8] 42)).heap.size = w.heap.size + 2 by simp] at this
  clear hw1
  obtain ⟨hlt, c0, c1, c2, c3, c4, c5, c6, c7, c8, _⟩ := id hB1
  simp only at c0 c1 c2 c3 c4 c5 c6 c7 c8
  refine (sz_impl _ _).mono ?_
  rintro e wx ⟨rfl, rfl⟩
  rw [HSZ.out]
  go_wp2_with fail
  refine (HA _ hb1).mono ?_
  rintro e wa ⟨rfl, ha⟩
  have hba := hb1.trans (ha.mono hb1.size)
  have hBa := hB1.below ha hB1.lt
  have hRa := hR1.below ha hR1.lt
  have hLa : wa.cell? ⟨w.heap.size, 0, none⟩ = some u := (ha.cell (p := ⟨w.heap.size, 0, none⟩) (by show w.heap.size < _; omega)).trans hL1
  clear hb1 hB1 hR1 hL1 ha c0 c1 c2 c3 c4 c5 c6 c7 c8 HA
  obtain ⟨hlta, c0, c1, c2, c3, c4, c5, c6, c7, c8, _⟩ := id hBa
  simp only at c0 c1 c2 c3 c4 c5 c6 c7 c8
  cases hsa : solA l k2 k3 S with
  | true =>
    have HN := Lib.hid (HNO.out (.inl hsa))
    clear hsa
    obtain ⟨hltr, r0, r1, r2, r3, r4, r5, r6, r7, r8, q0, q1, q2, q3, q4, q5, q6, q7, q8⟩ := id hRa
    go_wp2_with fail
    have hb2 := below_put9 hba (show w.heap.size ≤ w.heap.size + 1 + 1 by omega) ⟨k0, k1, k2, k3, k4, k5, k6, k7, k8⟩
    have hB2 := Blk.put9 (g := w.heap.size + 1 + 1) hRa ⟨k0, k1, k2, k3, k4, k5, k6, k7, k8⟩
    change bodyPost _ _ _ _ _ (put9 wa (w.heap.size + 1 + 1) ⟨k0, k1, k2, k3, k4, k5, k6, k7, k8⟩)
    generalize put9 wa (w.heap.size + 1 + 1) ⟨k0, k1, k2, k3, k4, k5, k6, k7, k8⟩ = wn at hb2 hB2 ⊢
    obtain ⟨_, e0, e1, e2, e3, e4, e5, e6, e7, e8, _⟩ := hB2
    simp only at e0 e1 e2 e3 e4 e5 e6 e7 e8
    refine bodyPost_ret (v := .tuple #[.agg #[.int .i64 k0, .int .i64 k1, .int .i64 k2, .int .i64 k3, .int .i64 k4, .int .i64 k5, .int .i64 k6, .int .i64 k7, .int .i64 k8], .bool false]) (by simp [results, Try.results22, go_sem, e0, e1, e2, e3, e4, e5, e6, e7, e8]) rfl ?_
    exact ⟨by rw [HN.out]; rfl, hb2⟩
  | false =>
    obtain ⟨hz1, hz2, hv, hf⟩ := solA_false hsa
    have hsz : 1 ≤ S ∧ S ≤ 16 := ⟨hz1, hz2⟩
    have HLv := Lib.hid (lvT_lv hv)
    have HF := Lib.hid hf
    have HSA := Lib.hid hsa
    have HS : ∀ a c wx, Below w.heap.size w wx → (-1000 ≤ a ∧ a ≤ 1000) → (-1000 ≤ c ∧ c ≤ 1000) → Calls Try.prog 68 #[.agg #[u], .int .i64 a, .int .i64 c, .int .i64 S] wx fun e w' => e = .returned (.bool (solT l a c S)) ∧ Below wx.heap.size wx w' := fun a c wx hb h1 h2 => solid_impl a c S wx (h.below hb) hv hz1 hz2 (by omega) (by omega) (by omega) (by omega)
    clear hsa hf hv hz1 hz2
    go_wp2_with fail
    refine (between_any _ _ _ _).mono ?_
    rintro e wx ⟨rfl, rfl⟩
    cases hvx : inB k4 (-15) 15 with
    | false =>
      have HN := Lib.hid (HNO.out (.inr (.inl hvx)))
      clear hvx
      obtain ⟨hltr, r0, r1, r2, r3, r4, r5, r6, r7, r8, q0, q1, q2, q3, q4, q5, q6, q7, q8⟩ := id hRa
      go_wp2_with fail
      have hb2 := below_put9 hba (show w.heap.size ≤ w.heap.size + 1 + 1 by omega) ⟨k0, k1, k2, k3, k4, k5, k6, k7, k8⟩
      have hB2 := Blk.put9 (g := w.heap.size + 1 + 1) hRa ⟨k0, k1, k2, k3, k4, k5, k6, k7, k8⟩
      change bodyPost _ _ _ _ _ (put9 wa (w.heap.size + 1 + 1) ⟨k0, k1, k2, k3, k4, k5, k6, k7, k8⟩)
      generalize put9 wa (w.heap.size + 1 + 1) ⟨k0, k1, k2, k3, k4, k5, k6, k7, k8⟩ = wn at hb2 hB2 ⊢
      obtain ⟨_, e0, e1, e2, e3, e4, e5, e6, e7, e8, _⟩ := hB2
      simp only at e0 e1 e2 e3 e4 e5 e6 e7 e8
      refine bodyPost_ret (v := .tuple #[.agg #[.int .i64 k0, .int .i64 k1, .int .i64 k2, .int .i64 k3, .int .i64 k4, .int .i64 k5, .int .i64 k6, .int .i64 k7, .int .i64 k8], .bool false]) (by simp [results, Try.results22, go_sem, e0, e1, e2, e3, e4, e5, e6, e7, e8]) rfl ?_
      exact ⟨by rw [HN.out]; rfl, hb2⟩
    | true =>
      have HX := Lib.hid hvx
      have hx := inB_iff.1 hvx
      clear hvx
      go_wp2_with fail
      refine (between_any _ _ _ _).mono ?_
      rintro e wx ⟨rfl, rfl⟩
      cases hvy : inB k5 (-15) 15 with
      | false =>
        have HN := Lib.hid (HNO.out (.inr (.inr hvy)))
        clear hvy
        obtain ⟨hltr, r0, r1, r2, r3, r4, r5, r6, r7, r8, q0, q1, q2, q3, q4, q5, q6, q7, q8⟩ := id hRa
        go_wp2_with fail
        have hb2 := below_put9 hba (show w.heap.size ≤ w.heap.size + 1 + 1 by omega) ⟨k0, k1, k2, k3, k4, k5, k6, k7, k8⟩
        have hB2 := Blk.put9 (g := w.heap.size + 1 + 1) hRa ⟨k0, k1, k2, k3, k4, k5, k6, k7, k8⟩
        change bodyPost _ _ _ _ _ (put9 wa (w.heap.size + 1 + 1) ⟨k0, k1, k2, k3, k4, k5, k6, k7, k8⟩)
        generalize put9 wa (w.heap.size + 1 + 1) ⟨k0, k1, k2, k3, k4, k5, k6, k7, k8⟩ = wn at hb2 hB2 ⊢
        obtain ⟨_, e0, e1, e2, e3, e4, e5, e6, e7, e8, _⟩ := hB2
        simp only at e0 e1 e2 e3 e4 e5 e6 e7 e8
        refine bodyPost_ret (v := .tuple #[.agg #[.int .i64 k0, .int .i64 k1, .int .i64 k2, .int .i64 k3, .int .i64 k4, .int .i64 k5, .int .i64 k6, .int .i64 k7, .int .i64 k8], .bool false]) (by simp [results, Try.results22, go_sem, e0, e1, e2, e3, e4, e5, e6, e7, e8]) rfl ?_
        exact ⟨by rw [HN.out]; rfl, hb2⟩
      | true =>
        have HMV := Lib.hid (HYES.out HSA.out HX.out hvy)
        have hy := inB_iff.1 hvy
        clear hvy
        have hB1 := hBa
        have hR1 := hRa
        have hL1 := hLa
        have hb1 := hba
        clear hBa hRa hLa hba
        go_wp2_with fail
        refine (direction_ret _ _ (by omega)).mono ?_
        rintro e wx ⟨rfl, rfl⟩
        go_upto_block 0 with (fail)
        go_cut [7] (fun st wx => ∃ (x1 : Int) (s1 : Bool), st = .bool (false || s1) ∧ Hid (mvGo (fun a => solT l a k3 S) (dirOf k4) (cntOf k4) k2 = (x1, s1)) ∧ Hid (solT l x1 k3 S = false) ∧ Blk wx (w.heap.size + 1) ⟨k0, k1, x1, k3, if s1 = true then 0 else k4, k5, k6, k7, k8⟩ ∧ Blk wx (w.heap.size + 2) zB ∧ wx.cell? ⟨w.heap.size, 0, none⟩ = some u ∧ Below w.heap.size w wx)
        case first =>
          go_wp2_with fail
          go_loopw [7, 10] (fun st n wx => ∃ (j : Nat) (x1 : Int), st = .bool false ∧ n = .int .i64 j ∧ j ≤ cntOf k4 ∧ Hid (mvGo (fun a => solT l a k3 S) (dirOf k4) (cntOf k4) k2 = mvGo (fun a => solT l a k3 S) (dirOf k4) (cntOf k4 - j) x1) ∧ Hid (solT l x1 k3 S = false) ∧ Blk wx (w.heap.size + 1) ⟨k0, k1, x1, k3, k4, k5, k6, k7, k8⟩ ∧ Blk wx (w.heap.size + 2) zB ∧ wx.cell? ⟨w.heap.size, 0, none⟩ = some u ∧ Below w.heap.size w wx) (fun _ n _ => 20 - (intOf n).toNat)
          case atStart => exact ⟨0, k2, rfl, rfl, Nat.zero_le _, Lib.hid rfl, HF, hB1, hR1, hL1, hb1⟩
          case round =>
            clear c0 c1 c2 c3 c4 c5 c6 c7 c8
            obtain ⟨j, x1, rfl, rfl, hj15, HG, HFr, hB, hR, hL, hb⟩ := hrel
            obtain ⟨hlt, c0, c1, c2, c3, c4, c5, c6, c7, c8, f0, f1, f2, f3, f4, f5, f6, f7, f8⟩ := id hB
            simp only at c0 c1 c2 c3 c4 c5 c6 c7 c8
            have hbd := mv_step_bd HLv.out hsz.1 hsz.2 HFr.out
            have hd := dirOf_cases k4
            have hc15 : cntOf k4 ≤ 15 := by unfold cntOf; omega
            by_cases h0 : ¬ j < cntOf k4
            · have HN : Hid (mvGo (fun a => solT l a k3 S) (dirOf k4) (cntOf k4) k2 = (x1, false)) := Lib.hid (HG.out.trans (by rw [show cntOf k4 - j = 0 by omega]; rfl))
              go_wp2_with fail
              go_meet
              case rel => exact ⟨x1, false, by simp, HN, HFr, hB, hR, hL, hb⟩
            · have hj1 : j < cntOf k4 := by omega
              have hd2 : -1 ≤ dirOf k4 ∧ dirOf k4 ≤ 1 := by omega
              clear h0 hd
              have HJ : Hid (cntOf k4 - j = (cntOf k4 - (j + 1)) + 1) := Lib.hid (by omega)
              go_wp2_with fail
              refine (HS (x1 + dirOf k4) k3 _ hb (by omega) (by omega)).mono ?_
              rintro e wa ⟨rfl, ha⟩
              have hba := hb.trans (ha.mono hb.size)
              have hBa := hB.below ha hB.lt
              have hRa := hR.below ha hR.lt
              have hLa : wa.cell? ⟨w.heap.size, 0, none⟩ = some u := (ha.cell (p := ⟨w.heap.size, 0, none⟩) (by show w.heap.size < _; omega)).trans hL
              clear hb hB hR hL ha c0 c1 c2 c3 c4 c5 c6 c7 c8 f0 f1 f2 f3 f4 f5 f6 f7 f8
              obtain ⟨hlta, c0, c1, c2, c3, c4, c5, c6, c7, c8, f0, f1, f2, f3, f4, f5, f6, f7, f8⟩ := id hBa
              simp only at c0 c1 c2 c3 c4 c5 c6 c7 c8
              cases hs : solT l (x1 + dirOf k4) k3 S with
              | true =>
                have HN : Hid (mvGo (fun a => solT l a k3 S) (dirOf k4) (cntOf k4) k2 = (x1, true)) := Lib.hid (HG.out.trans (by rw [HJ.out]; exact mvGo_stop hs))
                clear hs
                go_wp2_with fail
                go_meet
                case rel => exact ⟨x1, true, by simp, HN, HFr, hBa.set4 0, hRa.other (by show w.heap.size + 1 ≠ w.heap.size + 2; omega) _, cell_set_ne hLa (by show w.heap.size + 1 ≠ w.heap.size; omega), hba.setCell (by show w.heap.size ≤ w.heap.size + 1; omega) _⟩
              | false =>
                have HN : Hid (mvGo (fun a => solT l a k3 S) (dirOf k4) (cntOf k4) k2 = mvGo (fun a => solT l a k3 S) (dirOf k4) (cntOf k4 - (j + 1)) (x1 + dirOf k4)) := Lib.hid (HG.out.trans (by rw [HJ.out]; exact mvGo_more hs))
                have HF2 := Lib.hid hs
                clear hs
                go_wp2_with fail
                go_roundw
                case rel => exact ⟨j + 1, x1 + dirOf k4, rfl, by go_num, by omega, HN, HF2, hBa.set2 (x1 + dirOf k4), hRa.other (by show w.heap.size + 1 ≠ w.heap.size + 2; omega) _, cell_set_ne hLa (by show w.heap.size + 1 ≠ w.heap.size; omega), hba.setCell (by show w.heap.size ≤ w.heap.size + 1; omega) _⟩
                case measure => simp [intOf]; omega
        case rest =>
          obtain ⟨wq, rfl⟩ : ∃ wq : World, wq = wc := ⟨_, rfl⟩
          obtain ⟨X1, S1, rfl, HG1, HF1, hB1', hR1', hL1', hb1'⟩ := hcut
          clear c0 c1 c2 c3 c4 c5 c6 c7 c8 hB1 hR1 hL1 hb1 HF
          obtain ⟨V1, hV1⟩ : ∃ V1, (if S1 = true then 0 else k4) = V1 := ⟨_, rfl⟩
          rw [hV1] at hB1'
          have HV1 := Lib.hid hV1; clear hV1
          have hB1 := hB1'
          have hR1 := hR1'
          have hL1 := hL1'
          have hb1 := hb1'
          have HF := HF1
          clear hB1' hR1' hL1' hb1' HF1
          obtain ⟨hlt, c0, c1, c2, c3, c4, c5, c6, c7, c8, _⟩ := id hB1
          simp only at c0 c1 c2 c3 c4 c5 c6 c7 c8
          go_wp2_with fail
          refine (direction_ret _ _ (by omega)).mono ?_
          rintro e wx ⟨rfl, rfl⟩
          go_upto_block 2 with (fail)
          go_cut [7] (fun st wx => ∃ (x1 : Int) (s1 : Bool), st = .bool (S1 || s1) ∧ Hid (mvGo (fun a => solT l X1 a S) (dirOf k5) (cntOf k5) k3 = (x1, s1)) ∧ Hid (solT l X1 x1 S = false) ∧ Blk wx (w.heap.size + 1) ⟨k0, k1, X1, x1, V1, if s1 = true then 0 else k5, k6, k7, k8⟩ ∧ Blk wx (w.heap.size + 2) zB ∧ wx.cell? ⟨w.heap.size, 0, none⟩ = some u ∧ Below w.heap.size w wx)
          case first =>
            go_wp2_with fail
            go_loopw [7, 11] (fun st n wx => ∃ (j : Nat) (x1 : Int), st = .bool S1 ∧ n = .int .i64 j ∧ j ≤ cntOf k5 ∧ Hid (mvGo (fun a => solT l X1 a S) (dirOf k5) (cntOf k5) k3 = mvGo (fun a => solT l X1 a S) (dirOf k5) (cntOf k5 - j) x1) ∧ Hid (solT l X1 x1 S = false) ∧ Blk wx (w.heap.size + 1) ⟨k0, k1, X1, x1, V1, k5, k6, k7, k8⟩ ∧ Blk wx (w.heap.size + 2) zB ∧ wx.cell? ⟨w.heap.size, 0, none⟩ = some u ∧ Below w.heap.size w wx) (fun _ n _ => 20 - (intOf n).toNat)
            case atStart => exact ⟨0, k3, rfl, rfl, Nat.zero_le _, Lib.hid rfl, HF, hB1, hR1, hL1, hb1⟩
            case round =>
              clear c0 c1 c2 c3 c4 c5 c6 c7 c8
              obtain ⟨j, x1, rfl, rfl, hj15, HG, HFr, hB, hR, hL, hb⟩ := hrel
              obtain ⟨hlt, c0, c1, c2, c3, c4, c5, c6, c7, c8, f0, f1, f2, f3, f4, f5, f6, f7, f8⟩ := id hB
              simp only at c0 c1 c2 c3 c4 c5 c6 c7 c8
              have hbd := mv_step_bd HLv.out hsz.1 hsz.2 HFr.out
              have hd := dirOf_cases k5
              have hc15 : cntOf k5 ≤ 15 := by unfold cntOf; omega
              by_cases h0 : ¬ j < cntOf k5
              · have HN : Hid (mvGo (fun a => solT l X1 a S) (dirOf k5) (cntOf k5) k3 = (x1, false)) := Lib.hid (HG.out.trans (by rw [show cntOf k5 - j = 0 by omega]; rfl))
                go_wp2_with fail
                go_meet
                case rel => exact ⟨x1, false, by simp, HN, HFr, hB, hR, hL, hb⟩
              · have hj1 : j < cntOf k5 := by omega
                have hd2 : -1 ≤ dirOf k5 ∧ dirOf k5 ≤ 1 := by omega
                clear h0 hd
                have HJ : Hid (cntOf k5 - j = (cntOf k5 - (j + 1)) + 1) := Lib.hid (by omega)
                go_wp2_with fail
                refine (HS X1 (x1 + dirOf k5) _ hb (by omega) (by omega)).mono ?_
                rintro e wa ⟨rfl, ha⟩
                have hba := hb.trans (ha.mono hb.size)
                have hBa := hB.below ha hB.lt
                have hRa := hR.below ha hR.lt
                have hLa : wa.cell? ⟨w.heap.size, 0, none⟩ = some u := (ha.cell (p := ⟨w.heap.size, 0, none⟩) (by show w.heap.size < _; omega)).trans hL
                clear hb hB hR hL ha c0 c1 c2 c3 c4 c5 c6 c7 c8 f0 f1 f2 f3 f4 f5 f6 f7 f8
                obtain ⟨hlta, c0, c1, c2, c3, c4, c5, c6, c7, c8, f0, f1, f2, f3, f4, f5, f6, f7, f8⟩ := id hBa
                simp only at c0 c1 c2 c3 c4 c5 c6 c7 c8
                cases hs : solT l X1 (x1 + dirOf k5) S with
                | true =>
                  have HN : Hid (mvGo (fun a => solT l X1 a S) (dirOf k5) (cntOf k5) k3 = (x1, true)) := Lib.hid (HG.out.trans (by rw [HJ.out]; exact mvGo_stop hs))
                  clear hs
                  go_wp2_with fail
                  go_meet
                  case rel => exact ⟨x1, true, by simp, HN, HFr, hBa.set5 0, hRa.other (by show w.heap.size + 1 ≠ w.heap.size + 2; omega) _, cell_set_ne hLa (by show w.heap.size + 1 ≠ w.heap.size; omega), hba.setCell (by show w.heap.size ≤ w.heap.size + 1; omega) _⟩
                | false =>
                  have HN : Hid (mvGo (fun a => solT l X1 a S) (dirOf k5) (cntOf k5) k3 = mvGo (fun a => solT l X1 a S) (dirOf k5) (cntOf k5 - (j + 1)) (x1 + dirOf k5)) := Lib.hid (HG.out.trans (by rw [HJ.out]; exact mvGo_more hs))
                  have HF2 := Lib.hid hs
                  clear hs
                  go_wp2_with fail
                  go_roundw
                  case rel => exact ⟨j + 1, x1 + dirOf k5, rfl, by go_num, by omega, HN, HF2, hBa.set3 (x1 + dirOf k5), hRa.other (by show w.heap.size + 1 ≠ w.heap.size + 2; omega) _, cell_set_ne hLa (by show w.heap.size + 1 ≠ w.heap.size; omega), hba.setCell (by show w.heap.size ≤ w.heap.size + 1; omega) _⟩
                  case measure => simp [intOf]; omega
          case rest =>
            obtain ⟨y1, s2, rfl, HG2, HF2, hB, hR, hL, hb⟩ := hcut
            clear c0 c1 c2 c3 c4 c5 c6 c7 c8
            obtain ⟨V2, hV2⟩ : ∃ V2, (if s2 = true then 0 else k5) = V2 := ⟨_, rfl⟩
            rw [hV2] at hB
            have HV2 := Lib.hid hV2; clear hV2
            obtain ⟨hlt3, c0, c1, c2, c3, c4, c5, c6, c7, c8, _⟩ := id hB
            simp only at c0 c1 c2 c3 c4 c5 c6 c7 c8
            have HN : Hid (moveB l ⟨k0, k1, k2, k3, k4, k5, k6, k7, k8⟩ = (⟨k0, k1, X1, y1, V1, V2, k6, k7, k8⟩, S1 || s2)) := Lib.hid (HMV.out.trans (by
              have hm1 : mvT l (szOf k0) k2 k3 k4 k5 = ⟨X1, y1, V1, V2, S1 || s2⟩ := by
                rw [HSZ.out, mvT_eq HG1.out HG2.out, HV1.out, HV2.out]
              unfold moveU
              simp only [hm1]))
            obtain ⟨hltr, r0, r1, r2, r3, r4, r5, r6, r7, r8, q0, q1, q2, q3, q4, q5, q6, q7, q8⟩ := id hR
            go_wp2_with fail
            have hb2 := below_put9 hb (show w.heap.size ≤ w.heap.size + 1 + 1 by omega) ⟨k0, k1, X1, y1, V1, V2, k6, k7, k8⟩
            have hB2 := Blk.put9 (g := w.heap.size + 1 + 1) hR ⟨k0, k1, X1, y1, V1, V2, k6, k7, k8⟩
            change bodyPost _ _ _ _ _ (put9 wc (w.heap.size + 1 + 1) ⟨k0, k1, X1, y1, V1, V2, k6, k7, k8⟩)
            generalize put9 wc (w.heap.size + 1 + 1) ⟨k0, k1, X1, y1, V1, V2, k6, k7, k8⟩ = wn at hb2 hB2 ⊢
            obtain ⟨_, e0, e1, e2, e3, e4, e5, e6, e7, e8, _⟩ := hB2
            simp only at e0 e1 e2 e3 e4 e5 e6 e7 e8
            refine bodyPost_ret (v := .tuple #[.agg #[.int .i64 k0, .int .i64 k1, .int .i64 X1, .int .i64 y1, .int .i64 V1, .int .i64 V2, .int .i64 k6, .int .i64 k7, .int .i64 k8], .bool (S1 || s2)]) (by simp [results, Try.results22, go_sem, e0, e1, e2, e3, e4, e5, e6, e7, e8]) rfl ?_
            exact ⟨by rw [HN.out]; rfl, hb2⟩
end Go.Proofs.Ytmamihkcikgmcaa
/- MoveBody, the reference's. -/
namespace Go.Proofs.Ytmamihkcikgmcaa
open Go.RowKit
end Go.Proofs.Ytmamihkcikgmcaa
/- stepMoves: bodies with life and shots move. -/
namespace Go.Proofs.Ytmamihkcikgmcaa
open Go.RowKit

/-- a body of a valid world -/
structure AnyOk (l : List ByteArray) (b : Bd) : Prop where
  kind : b.kind = 0 ∨ b.kind = 1 ∨ b.kind = 2
  free : solT l b.x b.y (szOf b.kind) = false
  vx : -15 ≤ b.vx ∧ b.vx ≤ 15
  vy : -15 ≤ b.vy ∧ b.vy ≤ 15
  life : 0 ≤ b.life ∧ b.life ≤ 3
  shot : b.kind = 1 → 1 ≤ b.timer ∧ b.timer ≤ 25
theorem Bods.anyOk {l : List ByteArray} {n : Nat} {bs : List Bd} (h : Bods l n bs) {k : Nat} (hk : k < bs.length) : AnyOk l (bAt bs k) := by
  by_cases e : k < n
  · have p := h.pl k e
    exact ⟨.inl p.kind, by rw [p.kind, szOf_0]; exact p.free, p.vx, p.vy, p.life, fun h => by rw [p.kind] at h; omega⟩
  · have o := h.ot_at (by omega) hk
    rw [bAt_eq hk]
    exact ⟨.inr o.kind, o.free, o.vx, o.vy, by rw [o.life]; omega, o.shot⟩
theorem szOf_in {k : Int} (h : k = 0 ∨ k = 1 ∨ k = 2) : 1 ≤ szOf k ∧ szOf k ≤ 16 := by rcases h with rfl | rfl | rfl <;> decide
theorem AnyOk.move {l : List ByteArray} {b : Bd} (hl : lvT l = true) (h : AnyOk l b) : moveB l b = moveU l b := by
  have hs := szOf_in h.kind
  exact moveB_yes (by rw [solA_yes hs.1 hs.2 hl]; exact h.free) (inB_yes h.vx.1 h.vx.2) (inB_yes h.vy.1 h.vy.2)
theorem AnyOk.bwf {l : List ByteArray} {b : Bd} (hl : lvT l = true) (h : AnyOk l b) : BWf b := by
  have hs := szOf_in h.kind
  have := free_bd (lvT_lv hl) hs.1 hs.2 h.free
  exact ⟨by omega, by omega⟩
theorem moveU_timer {l : List ByteArray} {b : Bd} : (moveU l b).1.timer = b.timer := rfl
theorem mv_fold {l : List ByteArray} {N : Nat} {bs : List Bd} (hN : bs.length = N) : ∃ F : Nat → List Bd, F 0 = [] ∧ F N = mvAll l bs ∧ (∀ k, k < N → F (k + 1) = F k ++ (mvOne l (bAt bs k)).toList) ∧ ∀ k, (F k).length ≤ k := by
  refine ⟨fun k => mvAll l (bs.take k), rfl, ?_, fun k hk => ?_, fun k => ?_⟩
  · show mvAll l (bs.take N) = _
    rw [show bs.take N = bs from List.take_of_length_le (by omega)]
  · show mvAll l (bs.take (k + 1)) = _
    rw [mvAll_succ (by omega), bAt_eq (by omega)]
  · show (mvAll l (bs.take k)).length ≤ k
    unfold mvAll
    have := List.length_filterMap_le (mvOne l) (bs.take k)
    have := List.length_take_le k bs
    omega
theorem mv_live {l : List ByteArray} {b m : Bd} {st : Bool} (hm : moveU l b = (m, st)) (h0 : b.kind = 0) (h1 : 0 < b.life) : (mvOne l b).toList = [m] := by unfold mvOne; rw [if_pos h0, if_pos h1, hm]; rfl
theorem mv_gone {l : List ByteArray} {b m : Bd} {st : Bool} (hm : moveU l b = (m, st)) (h0 : b.kind = 1) (h1 : st = true ∨ m.timer - 1 = 0) : (mvOne l b).toList = [] := by
  unfold mvOne
  rw [if_neg (by omega), if_pos h0, hm, if_pos h1]; rfl
theorem mv_shot {l : List ByteArray} {b m : Bd} {st : Bool} (hm : moveU l b = (m, st)) (h0 : b.kind = 1) (h1 : ¬ (st = true ∨ m.timer - 1 = 0)) : (mvOne l b).toList = [{ m with timer := m.timer - 1 }] := by
  unfold mvOne
  rw [if_neg (by omega), if_pos h0, hm, if_neg h1]; rfl
theorem mv_still {l : List ByteArray} {b : Bd} (h : ¬ (b.kind = 0 ∧ 0 < b.life)) (h1 : b.kind ≠ 1) : (mvOne l b).toList = [b] := by
  unfold mvOne
  by_cases h0 : b.kind = 0
  · rw [if_pos h0, if_neg (fun e => h ⟨h0, e⟩)]; rfl
  · rw [if_neg h0, if_neg h1]; rfl
/-- the loop's state -/
structure MvI (w wr : World) (B G : Nat) (x xs xb : Value) (X : Wd) (v : Value) (L : List Bd) : Prop where
  hd : Hd wr B G x xs xb X
  ow : Own wr w.heap.size 9 v L.length (cellsB L)
  bl : Below B w wr
  sz : w.heap.size ≤ wr.heap.size
/-- behind the move of a shot -/
structure MvC (w wr : World) (B G : Nat) (x xs xb : Value) (X : Wd) (v : Value) (L : List Bd) (bq : Nat) (b m : Bd) (st : Bool) (p q : Value) : Prop where
  i : MvI w wr B G x xs xb X v L
  bb : Blk wr bq b
  ex : ∃ g, p = .pointer (some ⟨g, 0, none⟩) ∧ g ≠ bq ∧ Blk wr g m
  q : q = .bool st
set_option maxRecDepth 100000 in
set_option maxHeartbeats 8000000 in
theorem moves_impl {x xs xb : Value} {X : Wd} {B G : Nat} (w : World) (h : Hd w B G x xs xb X) (hl : lvT X.rows = true) (h1 : 1 ≤ X.scores.length) (hB : Bods X.rows X.scores.length X.bodies) :
    Calls Try.prog 83 #[.pointer (some ⟨G, 0, none⟩)] w fun e w' => e = .returned (.tuple #[]) ∧ (∃ xb', Hd w' B G x xs xb' { X with bodies := mvAll X.rows X.bodies }) ∧ Below B w w' := by
  have hN1 : 1 ≤ X.bodies.length := Nat.le_trans h1 hB.le
  have hN24 := hB.most
  obtain ⟨gb, cap, hxb, hgb⟩ := h.formB (by omega)
  subst hxb
  have HOK : Hid (∀ k, k < X.bodies.length → AnyOk X.rows (bAt X.bodies k)) := Lib.hid (fun k hk => hB.anyOk hk)
  have HLV := Lib.hid hl
  obtain ⟨hl12, hl20⟩ := lv_sizes hl
  have HMV : ∀ (b : Bd) (wx : World), Hd wx B G x xs (.slice (some ⟨gb, 0, none⟩) X.bodies.length cap) X → AnyOk X.rows b → Calls Try.prog 22 #[.agg #[x], b.val] wx fun e w' => e = .returned (.tuple #[(moveU X.rows b).1.val, .bool (moveU X.rows b).2]) ∧ Below wx.heap.size wx w' := fun b wx hx hb => by
    rw [← hb.move hl]
    exact move_impl b wx hx.own.at_.r (by omega) (fun s hs => by have := hl20 s hs; omega) (hb.bwf hl)
  obtain ⟨F, hF0, hFN, hFS, hFL⟩ := mv_fold (l := X.rows) (N := X.bodies.length) (bs := X.bodies) rfl
  have HFN := Lib.hid hFN.symm
  have HFS := Lib.hid hFS
  have HFL := Lib.hid hFL
  have hI : MvI w w B G x xs (.slice (some ⟨gb, 0, none⟩) X.bodies.length cap) X (.slice none 0 0) (F 0) := by rw [hF0]; exact ⟨h, Own.nil _ _ _, Below.refl _ _, Nat.le_refl _⟩
  have hsz0 : B ≤ w.heap.size := by have := h.ge; have := h.blk.lt; omega
  have hlow := h.lt
  have q4 := h.blk.c4
  clear hF0 hFN hFS hFL hl h1 hB hl12 hl20 h
  obtain ⟨N, hN⟩ : ∃ N, X.bodies.length = N := ⟨_, rfl⟩
  have HN := Lib.hid hN
  rw [hN] at HMV hI q4 hN1 hN24 HFN HFS HOK hlow
  clear hN
  go_enter Try.func83, Try.ntmps83
  go_wp2_with fail
  clear q4
  go_loopw [2, 12] (fun v i wr => ∃ k : Nat, k ≤ N ∧ i = .int .i64 k ∧ MvI w wr B G x xs (.slice (some ⟨gb, 0, none⟩) N cap) X v (F k)) (fun _ i _ => N - (intOf i).toNat)
  case atStart => exact ⟨0, Nat.zero_le _, rfl, hI⟩
  case round =>
    clear hI
    obtain ⟨k, hk, rfl, hI⟩ := hrel
    by_cases hlt : k < N
    · have HST := Lib.hid (HFS.out k hlt)
      have hle1 := HFL.out k
      have hok := HOK.out k hlt
      generalize F k = L at *
      obtain ⟨hH, hO, hb, hsz⟩ := hI
      have hE := hH.elemAt (k := k) (by rw [HN.out]; exact hlt)
      have hR := hE.range
      generalize bAt X.bodies k = b at *
      obtain ⟨⟨m, stp⟩, hMU⟩ : ∃ q, moveU X.rows b = q := ⟨_, rfl⟩
      have HLIVE := Lib.hid (mv_live hMU)
      have HGONE := Lib.hid (mv_gone hMU)
      have HSHOT := Lib.hid (mv_shot hMU)
      have HSTIL := Lib.hid (mv_still (l := X.rows) (b := b))
      have hmt : m.timer = b.timer := by rw [show m = (moveU X.rows b).1 by rw [hMU]]; exact moveU_timer
      have HMB := fun wx hx => HMV b wx hx hok
      rw [hMU] at HMB
      have hmt1 : b.kind = 1 → 1 ≤ m.timer ∧ m.timer ≤ 25 := fun e => by rw [hmt]; exact hok.shot e
      have hlife := hok.life
      clear hE HFS HFL HMV HOK hMU hmt hok
      have c1 : (0 : Int) ≤ (k : Int) := by omega
      have c2 : (k : Int) < (N : Int) := by omega
      go_upto_region 3 with (fail)
      apply wp_region_lit
      iterate 3 go_step
      refine load_bod (op := ⟨some 15, _, _, _, _, _⟩) rfl _ rfl gb (k * 9) rfl b hR ?_
      refine alloc_bod rfl rfl ?_
      have hBk := Blk.new wr 42 zB
      have hk0 : Below wr.heap.size wr (wr.alloc (.cells zB.cells.toArray 42)) := (Below.refl _ _).alloc (Nat.le_refl _) _
      change Blk (wr.alloc (.cells zB.cells.toArray 42)) wr.heap.size zB at hBk
      generalize World.alloc wr _ = w1 at hBk hk0
      refine store_bod (op := ⟨none, _, _, _, _, _⟩) rfl _ _ rfl wr.heap.size 0 rfl b rfl hBk.there ?_
      have hB2 := hBk.setAll b
      have hk1 : Below wr.heap.size wr (w1.setCells wr.heap.size 0 b.cells) := setCells_below hk0 (Nat.le_refl _)
      generalize World.setCells w1 _ _ _ = w2 at hB2 hk1
      have hH2 := hH.below hk1
      have hO2 := hO.belowS hk1
      have hb2 := hb.trans (hk1.mono (Nat.le_trans hsz0 hsz))
      have hsz2 := Nat.le_trans hsz hk1.size
      have hbq : w.heap.size ≤ wr.heap.size := hsz
      have hbO : ∀ i, u2.ownBlock = some i → i < wr.heap.size := fun i hi => (hO.ge i hi).2
      clear hBk hk0 hk1 hH hO hb hsz hR
      generalize wr.heap.size = bq at *
      have c0' := hB2.c0
      have c7' := hB2.c7
      by_cases hk2 : b.kind = 0 ∧ 0 < b.life
      · have HL3 := Lib.hid (HST.out.trans (congrArg (fun q => L ++ q) (HLIVE.out hk2.1 hk2.2)))
        have x1 : (b.kind == 0) = true := beq_iff_eq.2 hk2.1
        have x2 : decide (0 < b.life) = true := decide_eq_true hk2.2
        clear HST HLIVE HGONE HSHOT HSTIL hk2 hmt1
        go_upto_region 5 with (fail)
        clear c0' c7' x1 x2
        have hHd := hH2.drew
        have hOd := hO2.drew
        have hbD := hb2.drew
        have hBd := hB2.drew
        have hszD : w.heap.size ≤ w2.drew.heap.size := hsz2
        have e0 := hHd.blk.c0
        have rB := hBd.range
        clear hH2 hO2 hb2 hB2 hsz2
        refine wp_region_sch (fun wx => wx.cell? ⟨G, 0, none⟩ = some x ∧ wx.rangeAt bq 0 b.cells) 9 11 (.st 0 (.st 1 (.st 2 (.st 3 (.st 4 (.ef 5 (.st 6 (.st 7 (.sw 8 (.fin [9])))))))))) (by kernel_rfl) (by kernel_rfl) (fun _ _ d _ _ h => by cases d <;> exact h) ⟨e0, rB⟩ ?_
        refine sch_still (o := ⟨some 26, _, _, _, _, _⟩) (v := .pointer (some ⟨G, 0, none⟩)) rfl rfl ?_ ?_
        · intro wx hSx
          go_simp
        simp only [Act.put, List.setIfInBounds_toArray, List.set_cons_zero, List.set_cons_succ]
        refine sch_still (o := ⟨some 27, _, _, _, _, _⟩) (v := .pointer (some ⟨G, 0, none⟩)) rfl rfl ?_ ?_
        · intro wx hSx
          go_simp
        simp only [Act.put, List.setIfInBounds_toArray, List.set_cons_zero, List.set_cons_succ]
        refine sch_still (o := ⟨some 28, _, _, _, _, _⟩) (v := .pointer (some ⟨G, 0, none⟩)) rfl rfl ?_ ?_
        · intro wx hSx
          go_simp
        simp only [Act.put, List.setIfInBounds_toArray, List.set_cons_zero, List.set_cons_succ]
        refine sch_still (o := ⟨some 29, _, _, _, _, _⟩) (v := .agg #[x]) rfl rfl ?_ ?_
        · intro wx hSx
          obtain ⟨s1, s2⟩ := hSx; go_simp
        simp only [Act.put, List.setIfInBounds_toArray, List.set_cons_zero, List.set_cons_succ]
        refine sch_still (o := ⟨some 30, _, _, _, _, _⟩) (v := b.val) rfl rfl ?_ ?_
        · intro wx hSx
          exact still_bodL _ rfl bq 0 rfl b hSx.2
        simp only [Act.put, List.setIfInBounds_toArray, List.set_cons_zero, List.set_cons_succ]
        generalize w2.drew = wq at *
        refine sch_ef (o := ⟨some 31, _, _, _, _, _⟩) rfl ?_
        refine wpList_callC rfl 22 _ _ rfl Try.func22 (by kernel_rfl) (by kernel_rfl) #[.agg #[x], b.val] (by kernel_rfl) (HMB _ hHd) ?_
        rintro e w3 ⟨rfl, hk3⟩
        refine ⟨_, rfl, ?_⟩
        have hH3 := hHd.below hk3
        have hO3 := hOd.belowS hk3
        have hb3 := hbD.trans (hk3.mono (Nat.le_trans hsz0 hszD))
        have hB3 := hBd.below hk3 hBd.lt
        have hsz3 := Nat.le_trans hszD hk3.size
        clear hHd hOd hbD hBd hszD hk3 e0 rB
        refine sch_next ⟨hH3.blk.c0, hB3.range⟩ ?_
        simp only [Act.put, List.setIfInBounds_toArray, List.set_cons_zero, List.set_cons_succ]
        refine sch_still (o := ⟨some 25, _, _, _, _, _⟩) (v := .tuple #[m.val, .bool stp]) rfl rfl ?_ ?_
        · intro wx hSx
          go_simp
        simp only [Act.put, List.setIfInBounds_toArray, List.set_cons_zero, List.set_cons_succ]
        refine sch_still (o := ⟨some 32, _, _, _, _, _⟩) (v := m.val) rfl rfl ?_ ?_
        · intro wx hSx
          go_simp
        simp only [Act.put, List.setIfInBounds_toArray, List.set_cons_zero, List.set_cons_succ]
        refine sch_sw (o := ⟨some 33, _, _, _, _, _⟩) (v := .bool stp) rfl rfl ?_ ?_
        · intro wx
          go_simp
        simp only [Act.put, List.setIfInBounds_toArray, List.set_cons_zero, List.set_cons_succ]
        refine sch_end (.cons (o := ⟨none, _, _, _, _, _⟩) rfl .nil) ?_
        refine store_bod (op := ⟨none, _, _, _, _, _⟩) rfl _ _ rfl bq 0 rfl m rfl hB3.there ?_
        have hB4 := hB3.setAll m
        have hg4 := setCells_grown w3 bq 0 m.cells
        generalize World.setCells w3 _ _ _ = w4 at hB4 hg4
        have hH4 := hH3.tch (Tch.of_grown1 (S := fun i => i = bq) hg4 rfl) (fun i hi e => by have := (hlow i hi).2; omega)
        have hO4 := hO3.kept hg4 (.inr (fun e => by have := hbO _ e; omega))
        have hb4 := hb3.grown hg4 (Nat.le_trans hsz0 hsz3) (fun j h => by simp only [Option.some.injEq] at h; omega)
        have hsz4 := Nat.le_trans hsz3 hg4.size
        clear hH3 hO3 hb3 hB3 hsz3 hg4
        clear HMB
        go_upto_region 11 with (fail)
        apply wp_region_lit
        iterate 3 go_step
        refine load_bod (op := ⟨some 59, _, _, _, _, _⟩) rfl _ rfl bq 0 rfl m hB4.range ?_
        refine lit_bod (o := ⟨some 60, _, _, _, _, _⟩) rfl _ rfl m rfl ?_
        have hq := own_lit w4 m
        have hk8 : Below w4.heap.size w4 (w4.alloc (.cells (m : Bd).cells.toArray 42)) := (Below.refl _ _).alloc (Nat.le_refl _) _
        generalize World.alloc w4 _ = w8 at hq hk8
        have hH8 := hH4.below hk8
        have hO8 := hO4.belowS hk8
        have hb8 := hb4.trans (hk8.mono (Nat.le_trans hsz0 hsz4))
        have hsz8 := Nat.le_trans hsz4 hk8.size
        clear hH4 hO4 hb4 hsz4 hk8
        obtain ⟨lo, lc, rfl⟩ := hO8.slice_
        refine app_bods (o := ⟨some 61, _, _, _, _, _⟩) w8 rfl _ _ rfl w.heap.size hO8 rfl hq.at_ rfl (by omega) hsz8 ?_
        intro v5 w5 hv hg hvb
        have hO5 : Own w5 w.heap.size 9 v5 (L ++ [m]).length (cellsB (L ++ [m])) := by rw [List.length_append]; exact hv
        have hH5 := hH8.tch (Tch.of_grown hg fun i hi => (show (fun i => w.heap.size ≤ i) i from (hO8.ge i hi).1)) (fun i hi e => by have := (hlow i hi).2; have e' : w.heap.size ≤ i := e; omega)
        have hb5 := hb8.grown hg (by omega) (fun j h => by have := (hO8.ge j h).1; omega)
        have hsz5 := Nat.le_trans hsz8 hg.size
        obtain ⟨vo, vc, rfl⟩ := hO5.slice_
        clear hv hg hvb hH8 hO8 hb8 hsz8 hq hB4
        simp only [Act.put, List.setIfInBounds_toArray, List.set_cons_zero, List.set_cons_succ]
        go_wp2_with fail
        go_roundw
        case rel => exact ⟨k + 1, by omega, by go_num, by rw [HL3.out]; exact ⟨hH5, hO5, hb5, hsz5⟩⟩
        case measure => simp [intOf]; omega
      · by_cases hk3 : b.kind = 1
        · have hmt1' := hmt1 hk3
          have HG3 := Lib.hid (fun q => HST.out.trans (congrArg (fun q => L ++ q) (HGONE.out hk3 q)))
          have HS3 := Lib.hid (fun q => HST.out.trans (congrArg (fun q => L ++ q) (HSHOT.out hk3 q)))
          have x1 : (b.kind == 0) = false := by simp; omega
          have x2 : (b.kind == 1) = true := beq_iff_eq.2 hk3
          clear HST HLIVE HGONE HSHOT HSTIL hk2 hk3 hmt1
          go_upto_region 7 with (fail)
          clear c0' c7' x1 x2
          have hHd := hH2.drew
          have hOd := hO2.drew
          have hbD := hb2.drew
          have hBd := hB2.drew
          have hszD : w.heap.size ≤ w2.drew.heap.size := hsz2
          have e0 := hHd.blk.c0
          have rB := hBd.range
          clear hH2 hO2 hb2 hB2 hsz2
          go_cut [5, 6] (fun p q wx => MvC w wx B G x xs (.slice (some ⟨gb, 0, none⟩) N cap) X u2 L bq b m stp p q)
          case first =>
            refine wp_region_sch (fun wx => wx.cell? ⟨G, 0, none⟩ = some x ∧ wx.rangeAt bq 0 b.cells) 10 12 (.st 0 (.st 1 (.st 2 (.st 3 (.st 4 (.two 5 (.st 6 (.st 7 (.sw 8 (.ef 9 (.fin [10, 11]))))) 9 (.ef 5 (.st 6 (.st 7 (.sw 8 (.fin [10, 11]))))))))))) (by kernel_rfl) (by kernel_rfl) (fun _ _ d _ _ h => by cases d <;> exact h) ⟨e0, rB⟩ ?_
            refine sch_still (o := ⟨some 39, _, _, _, _, _⟩) (v := .pointer (some ⟨G, 0, none⟩)) rfl rfl ?_ ?_
            · intro wx hSx
              go_simp
            simp only [Act.put, List.setIfInBounds_toArray, List.set_cons_zero, List.set_cons_succ]
            refine sch_still (o := ⟨some 40, _, _, _, _, _⟩) (v := .pointer (some ⟨G, 0, none⟩)) rfl rfl ?_ ?_
            · intro wx hSx
              go_simp
            simp only [Act.put, List.setIfInBounds_toArray, List.set_cons_zero, List.set_cons_succ]
            refine sch_still (o := ⟨some 41, _, _, _, _, _⟩) (v := .pointer (some ⟨G, 0, none⟩)) rfl rfl ?_ ?_
            · intro wx hSx
              go_simp
            simp only [Act.put, List.setIfInBounds_toArray, List.set_cons_zero, List.set_cons_succ]
            refine sch_still (o := ⟨some 42, _, _, _, _, _⟩) (v := .agg #[x]) rfl rfl ?_ ?_
            · intro wx hSx
              obtain ⟨s1, s2⟩ := hSx; go_simp
            simp only [Act.put, List.setIfInBounds_toArray, List.set_cons_zero, List.set_cons_succ]
            refine sch_still (o := ⟨some 43, _, _, _, _, _⟩) (v := b.val) rfl rfl ?_ ?_
            · intro wx hSx
              exact still_bodL _ rfl bq 0 rfl b hSx.2
            simp only [Act.put, List.setIfInBounds_toArray, List.set_cons_zero, List.set_cons_succ]
            generalize w2.drew = wq at *
            refine sch_2 (o := ⟨some 44, _, _, _, _, _⟩) (p := ⟨some 5, _, _, _, _, _⟩) rfl rfl ?_ ?_
            · refine wpList_callC rfl 22 _ _ rfl Try.func22 (by kernel_rfl) (by kernel_rfl) #[.agg #[x], b.val] (by kernel_rfl) (HMB _ hHd) ?_
              rintro e w3 ⟨rfl, hk3⟩
              refine ⟨_, rfl, ?_⟩
              have hH3 := hHd.below hk3
              have hO3 := hOd.belowS hk3
              have hb3 := hbD.trans (hk3.mono (Nat.le_trans hsz0 hszD))
              have hB3 := hBd.below hk3 hBd.lt
              have hsz3 := Nat.le_trans hszD hk3.size
              refine sch_next ⟨hH3.blk.c0, hB3.range⟩ ?_
              simp only [Act.put, List.setIfInBounds_toArray, List.set_cons_zero, List.set_cons_succ]
              refine sch_still (o := ⟨some 38, _, _, _, _, _⟩) (v := .tuple #[m.val, .bool stp]) rfl rfl ?_ ?_
              · intro wx hSx
                go_simp
              simp only [Act.put, List.setIfInBounds_toArray, List.set_cons_zero, List.set_cons_succ]
              refine sch_still (o := ⟨some 45, _, _, _, _, _⟩) (v := m.val) rfl rfl ?_ ?_
              · intro wx hSx
                go_simp
              simp only [Act.put, List.setIfInBounds_toArray, List.set_cons_zero, List.set_cons_succ]
              refine sch_sw (o := ⟨some 46, _, _, _, _, _⟩) (v := .bool stp) rfl rfl ?_ ?_
              · intro wx
                go_simp
              simp only [Act.put, List.setIfInBounds_toArray, List.set_cons_zero, List.set_cons_succ]
              refine sch_ef (o := ⟨some 5, _, _, _, _, _⟩) rfl ?_
              refine alloc_bod rfl rfl ?_
              have hC := Blk.new w3 42 zB
              change Blk (w3.alloc (.cells zB.cells.toArray 42)) w3.heap.size zB at hC
              have hk4 : Below w3.heap.size w3 (w3.alloc (.cells zB.cells.toArray 42)) := (Below.refl _ _).alloc (Nat.le_refl _) _
              generalize World.alloc w3 _ = w4 at hC hk4
              have hgl : bq < w3.heap.size := hB3.lt
              have hH4 := hH3.below hk4
              have hO4 := hO3.belowS hk4
              have hb4 := hb3.trans (hk4.mono (Nat.le_trans hsz0 hsz3))
              have hB4 := hB3.below hk4 hB3.lt
              have hsz4 := Nat.le_trans hsz3 hk4.size
              generalize w3.heap.size = g5 at *
              refine sch_next ⟨hH4.blk.c0, hB4.range⟩ ?_
              simp only [Act.put, List.setIfInBounds_toArray, List.set_cons_zero, List.set_cons_succ]
              refine sch_end (.cons (o := ⟨none, _, _, _, _, _⟩) rfl (.cons (o := ⟨some 6, _, _, _, _, _⟩) rfl .nil)) ?_
              refine store_bod (op := ⟨none, _, _, _, _, _⟩) rfl _ _ rfl g5 0 rfl m rfl hC.there ?_
              have hC4 := hC.setAll m
              have hg4 := setCells_grown w4 g5 0 m.cells
              generalize World.setCells w4 _ _ _ = w9 at hC4 hg4
              have hH9 := hH4.tch (Tch.of_grown1 (S := fun i => i = g5) hg4 rfl) (fun i hi e => by have := (hlow i hi).2; omega)
              have hO9 := hO4.kept hg4 (.inr (fun e => by have := hbO _ e; omega))
              have hb9 := hb4.grown hg4 (Nat.le_trans hsz0 hsz4) (fun j h => by simp only [Option.some.injEq] at h; omega)
              have hsz9 := Nat.le_trans hsz4 hg4.size
              have hB9 := hB4.grown hg4 (by simp only [ne_eq, Option.some.injEq]; omega)
              go_wp2_with fail
              go_meet
              case rel => exact ⟨⟨hH9, hO9, hb9, hsz9⟩, hB9, ⟨g5, rfl, by omega, hC4⟩, rfl⟩
            · refine alloc_bod rfl rfl ?_
              have hC := Blk.new wq 42 zB
              change Blk (wq.alloc (.cells zB.cells.toArray 42)) wq.heap.size zB at hC
              have hk4 : Below wq.heap.size wq (wq.alloc (.cells zB.cells.toArray 42)) := (Below.refl _ _).alloc (Nat.le_refl _) _
              generalize World.alloc wq _ = w3 at hC hk4
              have hgl : bq < wq.heap.size := hBd.lt
              have hH3 := hHd.below hk4
              have hO3 := hOd.belowS hk4
              have hb3 := hbD.trans (hk4.mono (Nat.le_trans hsz0 hszD))
              have hB3 := hBd.below hk4 hBd.lt
              have hsz3 := Nat.le_trans hszD hk4.size
              generalize wq.heap.size = g5 at *
              refine sch_next ⟨hH3.blk.c0, hB3.range⟩ ?_
              simp only [Act.put, List.setIfInBounds_toArray, List.set_cons_zero, List.set_cons_succ]
              refine sch_ef (o := ⟨some 44, _, _, _, _, _⟩) rfl ?_
              refine wpList_callC rfl 22 _ _ rfl Try.func22 (by kernel_rfl) (by kernel_rfl) #[.agg #[x], b.val] (by kernel_rfl) (HMB _ hH3) ?_
              rintro e w4 ⟨rfl, hk3⟩
              refine ⟨_, rfl, ?_⟩
              have hH4 := hH3.below hk3
              have hO4 := hO3.belowS hk3
              have hb4 := hb3.trans (hk3.mono (Nat.le_trans hsz0 hsz3))
              have hB4 := hB3.below hk3 hB3.lt
              have hsz4 := Nat.le_trans hsz3 hk3.size
              have hC' := hC.below hk3 hC.lt
              clear hC
              have hC := hC'
              refine sch_next ⟨hH4.blk.c0, hB4.range⟩ ?_
              simp only [Act.put, List.setIfInBounds_toArray, List.set_cons_zero, List.set_cons_succ]
              refine sch_still (o := ⟨some 38, _, _, _, _, _⟩) (v := .tuple #[m.val, .bool stp]) rfl rfl ?_ ?_
              · intro wx hSx
                go_simp
              simp only [Act.put, List.setIfInBounds_toArray, List.set_cons_zero, List.set_cons_succ]
              refine sch_still (o := ⟨some 45, _, _, _, _, _⟩) (v := m.val) rfl rfl ?_ ?_
              · intro wx hSx
                go_simp
              simp only [Act.put, List.setIfInBounds_toArray, List.set_cons_zero, List.set_cons_succ]
              refine sch_sw (o := ⟨some 46, _, _, _, _, _⟩) (v := .bool stp) rfl rfl ?_ ?_
              · intro wx
                go_simp
              simp only [Act.put, List.setIfInBounds_toArray, List.set_cons_zero, List.set_cons_succ]
              refine sch_end (.cons (o := ⟨none, _, _, _, _, _⟩) rfl (.cons (o := ⟨some 6, _, _, _, _, _⟩) rfl .nil)) ?_
              refine store_bod (op := ⟨none, _, _, _, _, _⟩) rfl _ _ rfl g5 0 rfl m rfl hC.there ?_
              have hC4 := hC.setAll m
              have hg4 := setCells_grown w4 g5 0 m.cells
              generalize World.setCells w4 _ _ _ = w9 at hC4 hg4
              have hH9 := hH4.tch (Tch.of_grown1 (S := fun i => i = g5) hg4 rfl) (fun i hi e => by have := (hlow i hi).2; omega)
              have hO9 := hO4.kept hg4 (.inr (fun e => by have := hbO _ e; omega))
              have hb9 := hb4.grown hg4 (Nat.le_trans hsz0 hsz4) (fun j h => by simp only [Option.some.injEq] at h; omega)
              have hsz9 := Nat.le_trans hsz4 hg4.size
              have hB9 := hB4.grown hg4 (by simp only [ne_eq, Option.some.injEq]; omega)
              go_wp2_with fail
              go_meet
              case rel => exact ⟨⟨hH9, hO9, hb9, hsz9⟩, hB9, ⟨g5, rfl, by omega, hC4⟩, rfl⟩
          case rest =>
          clear hHd hOd hbD hBd hszD e0 rB HMB
          obtain ⟨⟨hH3, hO3, hb3, hsz3⟩, hB3, ⟨g5, rfl, hg5, hC3⟩, rfl⟩ := hcut
          go_upto_region 8 with (fail)
          apply wp_region_lit
          refine load_bod (op := ⟨some 47, _, _, _, _, _⟩) rfl _ rfl g5 0 rfl m hC3.range ?_
          refine store_bod (op := ⟨none, _, _, _, _, _⟩) rfl _ _ rfl bq 0 rfl m rfl hB3.there ?_
          have hB4 := hB3.setAll m
          have hg4 := setCells_grown wc bq 0 m.cells
          generalize World.setCells wc _ _ _ = w4 at hB4 hg4
          have hH4 := hH3.tch (Tch.of_grown1 (S := fun i => i = bq) hg4 rfl) (fun i hi e => by have := (hlow i hi).2; omega)
          have hO4 := hO3.kept hg4 (.inr (fun e => by have := hbO _ e; omega))
          have hb4 := hb3.grown hg4 (Nat.le_trans hsz0 hsz3) (fun j h => by simp only [Option.some.injEq] at h; omega)
          have hsz4 := Nat.le_trans hsz3 hg4.size
          clear hH3 hO3 hb3 hB3 hsz3 hg4 hC3
          have e8 := hB4.c8
          have f8 := hB4.f8
          go_upto_region 9 with (fail)
          apply wp_region_lit
          iterate 12 go_step
          refine store_cell (o := ⟨none, _, _, _, _, _⟩) rfl _ _ _ rfl bq 8 rfl (.int .i64 (m.timer - 1)) rfl rfl size_int e8 f8 ?_
          have hB5 := hB4.set8 (m.timer - 1)
          have hg5' := setCell_grown w4 bq 8 (.int .i64 (m.timer - 1))
          generalize World.setCell w4 _ _ = w5 at hB5 hg5'
          have hH5 := hH4.tch (Tch.of_grown1 (S := fun i => i = bq) hg5' rfl) (fun i hi e => by have := (hlow i hi).2; omega)
          have hO5 := hO4.kept hg5' (.inr (fun e => by have := hbO _ e; omega))
          have hb5 := hb4.grown hg5' (Nat.le_trans hsz0 hsz4) (fun j h => by simp only [Option.some.injEq] at h; omega)
          have hsz5 := Nat.le_trans hsz4 hg5'.size
          clear hH4 hO4 hb4 hB4 hsz4 hg5' e8 f8
          have e8 := hB5.c8
          simp only at e8
          by_cases hgn : stp = true ∨ m.timer - 1 = 0
          · have HL3 := Lib.hid ((HG3.out hgn).trans (List.append_nil L))
            clear HG3 HS3
            cases stp with
            | true =>
              clear hgn
              go_wp2_with fail
              go_roundw
              case rel => exact ⟨k + 1, by omega, by go_num, by rw [HL3.out]; exact ⟨hH5, hO5, hb5, hsz5⟩⟩
              case measure => simp [intOf]; omega
            | false =>
              have x4 : (m.timer - 1 == 0) = true := by rcases hgn with e | e; (· cases e); (· simp; omega)
              clear hgn
              go_wp2_with fail
              go_roundw
              case rel => exact ⟨k + 1, by omega, by go_num, by rw [HL3.out]; exact ⟨hH5, hO5, hb5, hsz5⟩⟩
              case measure => simp [intOf]; omega
          · have HL3 := Lib.hid (HS3.out hgn)
            clear HG3 HS3
            cases stp with
            | true => exact absurd (.inl rfl) hgn
            | false =>
              have x4 : (m.timer - 1 == 0) = false := by simp; omega
              clear hgn
              go_upto_region 11 with (fail)
              clear x4 e8
              apply wp_region_lit
              iterate 3 go_step
              refine load_bod (op := ⟨some 59, _, _, _, _, _⟩) rfl _ rfl bq 0 rfl { m with timer := m.timer - 1 } hB5.range ?_
              refine lit_bod (o := ⟨some 60, _, _, _, _, _⟩) rfl _ rfl { m with timer := m.timer - 1 } rfl ?_
              have hq := own_lit w5 { m with timer := m.timer - 1 }
              have hk8 : Below w5.heap.size w5 (w5.alloc (.cells ({ m with timer := m.timer - 1 } : Bd).cells.toArray 42)) := (Below.refl _ _).alloc (Nat.le_refl _) _
              generalize World.alloc w5 _ = w8 at hq hk8
              have hH8 := hH5.below hk8
              have hO8 := hO5.belowS hk8
              have hb8 := hb5.trans (hk8.mono (Nat.le_trans hsz0 hsz5))
              have hsz8 := Nat.le_trans hsz5 hk8.size
              clear hH5 hO5 hb5 hsz5 hk8
              obtain ⟨lo, lc, rfl⟩ := hO8.slice_
              refine app_bods (o := ⟨some 61, _, _, _, _, _⟩) w8 rfl _ _ rfl w.heap.size hO8 rfl hq.at_ rfl (by omega) hsz8 ?_
              intro v10 w10 hv hg hvb
              have hO10 : Own w10 w.heap.size 9 v10 (L ++ [{ m with timer := m.timer - 1 }]).length (cellsB (L ++ [{ m with timer := m.timer - 1 }])) := by rw [List.length_append]; exact hv
              have hH10 := hH8.tch (Tch.of_grown hg fun i hi => (show (fun i => w.heap.size ≤ i) i from (hO8.ge i hi).1)) (fun i hi e => by have := (hlow i hi).2; have e' : w.heap.size ≤ i := e; omega)
              have hb10 := hb8.grown hg (by omega) (fun j h => by have := (hO8.ge j h).1; omega)
              have hsz10 := Nat.le_trans hsz8 hg.size
              obtain ⟨vo, vc, rfl⟩ := hO10.slice_
              clear hv hg hvb hH8 hO8 hb8 hsz8 hq hB5
              simp only [Act.put, List.setIfInBounds_toArray, List.set_cons_zero, List.set_cons_succ]
              go_wp2_with fail
              go_roundw
              case rel => exact ⟨k + 1, by omega, by go_num, by rw [HL3.out]; exact ⟨hH10, hO10, hb10, hsz10⟩⟩
              case measure => simp [intOf]; omega
        · have HL3 := Lib.hid (HST.out.trans (congrArg (fun q => L ++ q) (HSTIL.out hk2 hk3)))
          by_cases hk0 : b.kind = 0
          · have x1 : (b.kind == 0) = true := beq_iff_eq.2 hk0
            have x2 : decide (0 < b.life) = false := decide_eq_false (by omega)
            have x3 : (b.kind == 1) = false := by simp; omega
            clear HST HLIVE HGONE HSHOT HSTIL hk2 hk3 hk0 HMB hmt1
            go_upto_region 11 with (fail)
            clear x1 x2 x3 c0' c7'
            apply wp_region_lit
            iterate 3 go_step
            refine load_bod (op := ⟨some 59, _, _, _, _, _⟩) rfl _ rfl bq 0 rfl b hB2.range ?_
            refine lit_bod (o := ⟨some 60, _, _, _, _, _⟩) rfl _ rfl b rfl ?_
            have hq := own_lit w2 b
            have hk8 : Below w2.heap.size w2 (w2.alloc (.cells (b : Bd).cells.toArray 42)) := (Below.refl _ _).alloc (Nat.le_refl _) _
            generalize World.alloc w2 _ = w8 at hq hk8
            have hH8 := hH2.below hk8
            have hO8 := hO2.belowS hk8
            have hb8 := hb2.trans (hk8.mono (Nat.le_trans hsz0 hsz2))
            have hsz8 := Nat.le_trans hsz2 hk8.size
            clear hH2 hO2 hb2 hsz2 hk8
            obtain ⟨lo, lc, rfl⟩ := hO8.slice_
            refine app_bods (o := ⟨some 61, _, _, _, _, _⟩) w8 rfl _ _ rfl w.heap.size hO8 rfl hq.at_ rfl (by omega) hsz8 ?_
            intro v5 w5 hv hg hvb
            have hO5 : Own w5 w.heap.size 9 v5 (L ++ [b]).length (cellsB (L ++ [b])) := by rw [List.length_append]; exact hv
            have hH5 := hH8.tch (Tch.of_grown hg fun i hi => (show (fun i => w.heap.size ≤ i) i from (hO8.ge i hi).1)) (fun i hi e => by have := (hlow i hi).2; have e' : w.heap.size ≤ i := e; omega)
            have hb5 := hb8.grown hg (by omega) (fun j h => by have := (hO8.ge j h).1; omega)
            have hsz5 := Nat.le_trans hsz8 hg.size
            obtain ⟨vo, vc, rfl⟩ := hO5.slice_
            clear hv hg hvb hH8 hO8 hb8 hsz8 hq hB2
            simp only [Act.put, List.setIfInBounds_toArray, List.set_cons_zero, List.set_cons_succ]
            go_wp2_with fail
            go_roundw
            case rel => exact ⟨k + 1, by omega, by go_num, by rw [HL3.out]; exact ⟨hH5, hO5, hb5, hsz5⟩⟩
            case measure => simp [intOf]; omega
          · have x1 : (b.kind == 0) = false := by simp; omega
            have x3 : (b.kind == 1) = false := by simp; omega
            clear HST HLIVE HGONE HSHOT HSTIL hk2 hk3 hk0 HMB hmt1
            go_upto_region 11 with (fail)
            clear x1 x3 c0' c7'
            apply wp_region_lit
            iterate 3 go_step
            refine load_bod (op := ⟨some 59, _, _, _, _, _⟩) rfl _ rfl bq 0 rfl b hB2.range ?_
            refine lit_bod (o := ⟨some 60, _, _, _, _, _⟩) rfl _ rfl b rfl ?_
            have hq := own_lit w2 b
            have hk8 : Below w2.heap.size w2 (w2.alloc (.cells (b : Bd).cells.toArray 42)) := (Below.refl _ _).alloc (Nat.le_refl _) _
            generalize World.alloc w2 _ = w8 at hq hk8
            have hH8 := hH2.below hk8
            have hO8 := hO2.belowS hk8
            have hb8 := hb2.trans (hk8.mono (Nat.le_trans hsz0 hsz2))
            have hsz8 := Nat.le_trans hsz2 hk8.size
            clear hH2 hO2 hb2 hsz2 hk8
            obtain ⟨lo, lc, rfl⟩ := hO8.slice_
            refine app_bods (o := ⟨some 61, _, _, _, _, _⟩) w8 rfl _ _ rfl w.heap.size hO8 rfl hq.at_ rfl (by omega) hsz8 ?_
            intro v5 w5 hv hg hvb
            have hO5 : Own w5 w.heap.size 9 v5 (L ++ [b]).length (cellsB (L ++ [b])) := by rw [List.length_append]; exact hv
            have hH5 := hH8.tch (Tch.of_grown hg fun i hi => (show (fun i => w.heap.size ≤ i) i from (hO8.ge i hi).1)) (fun i hi e => by have := (hlow i hi).2; have e' : w.heap.size ≤ i := e; omega)
            have hb5 := hb8.grown hg (by omega) (fun j h => by have := (hO8.ge j h).1; omega)
            have hsz5 := Nat.le_trans hsz8 hg.size
            obtain ⟨vo, vc, rfl⟩ := hO5.slice_
            clear hv hg hvb hH8 hO8 hb8 hsz8 hq hB2
            simp only [Act.put, List.setIfInBounds_toArray, List.set_cons_zero, List.set_cons_succ]
            go_wp2_with fail
            go_roundw
            case rel => exact ⟨k + 1, by omega, by go_num, by rw [HL3.out]; exact ⟨hH5, hO5, hb5, hsz5⟩⟩
            case measure => simp [intOf]; omega
    · obtain rfl : k = N := by omega
      obtain ⟨hH, hO, hb, hsz⟩ := hI
      rw [← HFN.out] at hO
      clear HMV HFS HFL HOK
      obtain ⟨lo, lc, rfl⟩ := hO.slice_
      go_upto_region 13 with (fail)
      have hq := hH.putB (hO.mono hsz0) (fun e => by have := (hO.ge _ e).1; have := (hlow G (.inl rfl)).2; omega) (dj_ge fun i j hi hj e => by have := (hO.ge j hj).1; have := (hlow i (.inr (.inl hi))).2; omega) (dj_ge fun i j hi hj e => by have := (hO.ge j hj).1; have := (hlow i (.inr (.inr (.inl hi)))).2; omega)
      have g4 := hH.blk.c4
      have p4 := hH.blk.f4
      apply wp_region_lit
      iterate 12 go_step
      refine store_cell (o := ⟨none, _, _, _, _, _⟩) rfl _ _ _ rfl G 4 rfl (.slice lo (mvAll X.rows X.bodies).length lc) rfl rfl size_bods g4 p4 ?_
      generalize World.setCell wr _ _ = w6 at hq
      obtain ⟨hH6, hg⟩ := hq
      have hb6 := hb.grown hg (Nat.le_trans hsz0 hsz) (fun j h => by simp only [Option.some.injEq] at h; have := (hlow G (.inl rfl)).1; omega)
      clear hH hO hb g4 p4 hg
      go_wp2_with fail
      exact Great.bodyPost_end0 rfl rfl ⟨rfl, ⟨_, hH6⟩, hb6⟩
end Go.Proofs.Ytmamihkcikgmcaa
