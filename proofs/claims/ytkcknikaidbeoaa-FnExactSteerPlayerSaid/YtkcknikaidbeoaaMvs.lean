/- l02Move: the reference's move. -/
import Derived.Test.YtkcknikaidbeoaaBos
import Derived.Test.YtkcknikaidbeoaaLvo
import Derived.Test.YtkcknikaidbeoaaMovLaw
import Derived.Deep.CutBlock
import Derived.Deep.DeepCutAuto
import Derived.Handy
namespace Go.Proofs.Ytkcknikaidbeoaa
open Go.RowKit

theorem mv_step_bd {l : List ByteArray} {W : Nat} {x y s : Int} (hl : Lv l W) (h1 : 1 ≤ s) (h2 : s ≤ 16) (h : solT l x y s = false) : 0 ≤ x ∧ x ≤ 320 ∧ 0 ≤ y ∧ y ≤ 320 := by
  have := free_bd hl h1 h2 h; omega
theorem dirOf_cases (v : Int) : dirOf v = 1 ∨ dirOf v = -1 := by unfold dirOf; split <;> omega
set_option maxRecDepth 100000 in
set_option maxHeartbeats 16000000 in
theorem l02move_ret {u : Value} {l : List ByteArray} (b : Bd) (w : World) (h : At w 1 u l.length (l.map Value.string)) (hm : l.length ≤ 1048576) (hz : ∀ s ∈ l, s.size ≤ 1048576) (hv : lvT l = true) (hk : 0 ≤ b.kind ∧ b.kind ≤ 2) (hf : solT l b.x b.y (szOf b.kind) = false) (hx : -15 ≤ b.vx ∧ b.vx ≤ 15) (hy : -15 ≤ b.vy ∧ b.vy ≤ 15) :
    Calls Try.prog 104 #[.agg #[u], b.val] w fun e w' => e = .returned (.tuple #[(moveU l b).1.val, .bool (moveU l b).2]) ∧ Below w.heap.size w w' := by
  have hsz := szOf_pos hk.1 hk.2
  have HLv := Lib.hid (lvT_lv hv)
  obtain ⟨k0, k1, k2, k3, k4, k5, k6, k7, k8⟩ := b
  simp only at hk hf hx hy hsz
  obtain ⟨S, hS⟩ : ∃ S, szOf k0 = S := ⟨_, rfl⟩
  rw [hS] at hf hsz
  have HSZ := Lib.hid hS; clear hS hk hv
  have HF := Lib.hid hf; clear hf
  have HS : ∀ a c wx, Below w.heap.size w wx → Calls Try.prog 87 #[.agg #[u], .int .i64 a, .int .i64 c, .int .i64 S] wx fun e w' => e = .returned (.bool (solT l a c S)) ∧ Below wx.heap.size wx w' := fun a c wx hb => solid_spec a c S wx (h.below hb) hm hz hsz.1 hsz.2
  rw [show (Bd.mk k0 k1 k2 k3 k4 k5 k6 k7 k8).val = .agg #[.int .i64 k0, .int .i64 k1, .int .i64 k2, .int .i64 k3, .int .i64 k4, .int .i64 k5, .int .i64 k6, .int .i64 k7, .int .i64 k8] from rfl]
  go_enter Try.func104, Try.ntmps104
  go_wp2_with fail
  generalize hw1 : ((w.alloc _).alloc _).alloc _ = w1
  have hb1 : Below w.heap.size w w1 := by rw [← hw1]; exact (((Below.refl _ _).alloc (Nat.le_refl _) _).alloc (by simp) _).alloc (by simp; omega) _
  have hL1 : w1.cell? ⟨w.heap.size, 0, none⟩ = some u := by rw [← hw1]; exact cell_alloc_lt (cell_alloc_lt (World.cell?_alloc_new w _ _ 0) _ (by simp)) _ (by simp; omega)
  have hB1 : Blk w1 (w.heap.size + 1) ⟨k0, k1, k2, k3, k4, k5, k6, k7, k8⟩ := by
    rw [← hw1]
    have := (Blk.new (w.alloc (.cells #[u] 27)) 56 ⟨k0, k1, k2, k3, k4, k5, k6, k7, k8⟩).alloc (.cells #[.int .i64 0, .int .i64 0, .int .i64 0, .int .i64 0, .int .i64 0, .int .i64 0, .int .i64 0, .int .i64 0, .int .i64 0] 56)
    rwa [show (w.alloc (.cells #[u] 27)).heap.size = w.heap.size + 1 by simp] at this
  have hR1 : Blk w1 (w.heap.size + 2) zB := by
    rw [← hw1]
    have := Blk.new ((w.alloc (.cells #[u] 27)).alloc (.cells #[.int .i64 k0, .int .i64 k1, .int .i64 k2, .int .i64 k3, .int .i64 k4, .int .i64 k5, .int .i64 k6, .int .i64 k7, .int .i64 k8] 56)) 56 zB
    rwa [show ((w.alloc (.cells #[u] 27)).alloc (.cells #[.int .i64 k0, .int .i64 k1, .int .i64 k2, .int .i64 k3, .int .i64 k4, .int .i64 k5, .int .i64 k6, .int .i64 k7, .int .i64 k8] 56)).heap.size = w.heap.size + 2 by simp] at this
  clear hw1
  obtain ⟨hlt, c0, c1, c2, c3, c4, c5, c6, c7, c8, _⟩ := id hB1
  simp only at c0 c1 c2 c3 c4 c5 c6 c7 c8
  refine (sz_spec _ _).mono ?_
  rintro e wx ⟨rfl, rfl⟩
  rw [HSZ.out]
  go_upto_if 16 with (fail)
  go_cut [8, 9] (fun s n wx => s = .int .i64 (dirOf k4) ∧ n = .int .i64 ((cntOf k4 : Nat) : Int) ∧ w1 = wx)
  case first =>
    by_cases h4 : k4 < 0
    · have HD := Lib.hid (dir_neg h4)
      have HC : Hid (((cntOf k4 : Nat) : Int) = -k4) := Lib.hid (by unfold cntOf; omega)
      go_wp2_with fail
      go_meet
      case rel => exact ⟨by rw [HD.out], by rw [HC.out], rfl⟩
    · have HD := Lib.hid (dir_pos (v := k4) (by omega))
      have HC : Hid (((cntOf k4 : Nat) : Int) = k4) := Lib.hid (by unfold cntOf; omega)
      go_wp2_with fail
      go_meet
      case rel => exact ⟨by rw [HD.out], by rw [HC.out], rfl⟩
  case rest =>
    obtain ⟨rfl, rfl, rfl⟩ := hcut
    go_upto_block 0 with (fail)
    go_cut [7] (fun st wx => ∃ (x1 : Int) (s1 : Bool), st = .bool (false || s1) ∧ Hid (mvGo (fun a => solT l a k3 S) (dirOf k4) (cntOf k4) k2 = (x1, s1)) ∧ Hid (solT l x1 k3 S = false) ∧ Blk wx (w.heap.size + 1) ⟨k0, k1, x1, k3, if s1 = true then 0 else k4, k5, k6, k7, k8⟩ ∧ Blk wx (w.heap.size + 2) zB ∧ wx.cell? ⟨w.heap.size, 0, none⟩ = some u ∧ Below w.heap.size w wx)
    case first =>
      go_wp2_with fail
      go_loopw [7, 9] (fun st n wx => ∃ (m : Nat) (x1 : Int), st = .bool false ∧ n = .int .i64 m ∧ m ≤ 15 ∧ Hid (mvGo (fun a => solT l a k3 S) (dirOf k4) (cntOf k4) k2 = mvGo (fun a => solT l a k3 S) (dirOf k4) m x1) ∧ Hid (solT l x1 k3 S = false) ∧ Blk wx (w.heap.size + 1) ⟨k0, k1, x1, k3, k4, k5, k6, k7, k8⟩ ∧ Blk wx (w.heap.size + 2) zB ∧ wx.cell? ⟨w.heap.size, 0, none⟩ = some u ∧ Below w.heap.size w wx) (fun _ n _ => (intOf n).toNat)
      case atStart => exact ⟨cntOf k4, k2, rfl, rfl, by unfold cntOf; omega, Lib.hid rfl, HF, hB1, hR1, hL1, hb1⟩
      case round =>
        clear c0 c1 c2 c3 c4 c5 c6 c7 c8
        obtain ⟨m, x1, rfl, rfl, hm15, HG, HFr, hB, hR, hL, hb⟩ := hrel
        obtain ⟨hlt, c0, c1, c2, c3, c4, c5, c6, c7, c8, f0, f1, f2, f3, f4, f5, f6, f7, f8⟩ := id hB
        simp only at c0 c1 c2 c3 c4 c5 c6 c7 c8
        have hbd := mv_step_bd HLv.out hsz.1 hsz.2 HFr.out
        have hd := dirOf_cases k4
        by_cases h0 : ¬ 0 < m
        · obtain rfl : m = 0 := by omega
          have HN : Hid (mvGo (fun a => solT l a k3 S) (dirOf k4) (cntOf k4) k2 = (x1, false)) := HG
          go_wp2_with fail
          go_meet
          case rel => exact ⟨x1, false, by simp, HN, HFr, hB, hR, hL, hb⟩
        · obtain ⟨m', rfl⟩ : ∃ m', m = m' + 1 := ⟨m - 1, by omega⟩
          clear h0
          have hd2 : -1 ≤ dirOf k4 ∧ dirOf k4 ≤ 1 := by omega
          clear hd
          go_wp2_with fail
          refine (HS (x1 + dirOf k4) k3 _ hb).mono ?_
          rintro e wa ⟨rfl, ha⟩
          have hba := hb.trans (ha.mono hb.size)
          have hBa := hB.below ha hB.lt
          have hRa := hR.below ha hR.lt
          have hLa : wa.cell? ⟨w.heap.size, 0, none⟩ = some u := (ha.cell (p := ⟨w.heap.size, 0, none⟩) (by show w.heap.size < _; omega)).trans hL
          clear hb hB hR hL ha c0 c1 c2 c3 c4 c5 c6 c7 c8 f0 f1 f2 f3 f4 f5 f6 f7 f8
          obtain ⟨hlta, c0, c1, c2, c3, c4, c5, c6, c7, c8, f0, f1, f2, f3, f4, f5, f6, f7, f8⟩ := id hBa
          simp only at c0 c1 c2 c3 c4 c5 c6 c7 c8
          cases hs : solT l (x1 + dirOf k4) k3 S with
          | true =>
            have HN := Lib.hid (HG.out.trans (mvGo_stop hs))
            clear hs
            go_wp2_with fail
            go_meet
            case rel => exact ⟨x1, true, by simp, HN, HFr, hBa.set4 0, hRa.other (by show w.heap.size + 1 ≠ w.heap.size + 2; omega) _, cell_set_ne hLa (by show w.heap.size + 1 ≠ w.heap.size; omega), hba.setCell (by show w.heap.size ≤ w.heap.size + 1; omega) _⟩
          | false =>
            have HN := Lib.hid (HG.out.trans (mvGo_more hs))
            have HF2 := Lib.hid hs
            clear hs
            go_wp2_with fail
            go_roundw
            case rel => exact ⟨m', x1 + dirOf k4, rfl, by go_num, by omega, HN, HF2, hBa.set2 (x1 + dirOf k4), hRa.other (by show w.heap.size + 1 ≠ w.heap.size + 2; omega) _, cell_set_ne hLa (by show w.heap.size + 1 ≠ w.heap.size; omega), hba.setCell (by show w.heap.size ≤ w.heap.size + 1; omega) _⟩
            case measure => simp [intOf]
    case rest =>
      obtain ⟨wq, rfl⟩ : ∃ wq : World, wq = wc := ⟨_, rfl⟩
      obtain ⟨X1, S1, rfl, HG1, HF1, hB1', hR1', hL1', hb1'⟩ := hcut
      clear c0 c1 c2 c3 c4 c5 c6 c7 c8 hB1 hR1 hL1 hb1 HF
      obtain ⟨V1, hV1⟩ : ∃ V1, (if S1 = true then 0 else k4) = V1 := ⟨_, rfl⟩
      rw [hV1] at hB1'
      have HV1 := Lib.hid hV1; clear hV1
      have hB1 := hB1'
      have hR1 := hR1'
      have hL1 := hL1'
      have hb1 := hb1'
      have HF := HF1
      clear hB1' hR1' hL1' hb1' HF1
      obtain ⟨hlt, c0, c1, c2, c3, c4, c5, c6, c7, c8, _⟩ := id hB1
      simp only at c0 c1 c2 c3 c4 c5 c6 c7 c8
      go_upto_if 41 with (fail)
      go_cut [8, 9] (fun s n wx => s = .int .i64 (dirOf k5) ∧ n = .int .i64 ((cntOf k5 : Nat) : Int) ∧ wq = wx)
      case first =>
        by_cases h4 : k5 < 0
        · have HD := Lib.hid (dir_neg h4)
          have HC : Hid (((cntOf k5 : Nat) : Int) = -k5) := Lib.hid (by unfold cntOf; omega)
          go_wp2_with fail
          go_meet
          case rel => exact ⟨by rw [HD.out], by rw [HC.out], rfl⟩
        · have HD := Lib.hid (dir_pos (v := k5) (by omega))
          have HC : Hid (((cntOf k5 : Nat) : Int) = k5) := Lib.hid (by unfold cntOf; omega)
          go_wp2_with fail
          go_meet
          case rel => exact ⟨by rw [HD.out], by rw [HC.out], rfl⟩
      case rest =>
        obtain ⟨rfl, rfl, rfl⟩ := hcut
        go_upto_block 2 with (fail)
        go_cut [7] (fun st wx => ∃ (x1 : Int) (s1 : Bool), st = .bool (S1 || s1) ∧ Hid (mvGo (fun a => solT l X1 a S) (dirOf k5) (cntOf k5) k3 = (x1, s1)) ∧ Hid (solT l X1 x1 S = false) ∧ Blk wx (w.heap.size + 1) ⟨k0, k1, X1, x1, V1, if s1 = true then 0 else k5, k6, k7, k8⟩ ∧ Blk wx (w.heap.size + 2) zB ∧ wx.cell? ⟨w.heap.size, 0, none⟩ = some u ∧ Below w.heap.size w wx)
        case first =>
          go_wp2_with fail
          go_loopw [7, 9] (fun st n wx => ∃ (m : Nat) (x1 : Int), st = .bool S1 ∧ n = .int .i64 m ∧ m ≤ 15 ∧ Hid (mvGo (fun a => solT l X1 a S) (dirOf k5) (cntOf k5) k3 = mvGo (fun a => solT l X1 a S) (dirOf k5) m x1) ∧ Hid (solT l X1 x1 S = false) ∧ Blk wx (w.heap.size + 1) ⟨k0, k1, X1, x1, V1, k5, k6, k7, k8⟩ ∧ Blk wx (w.heap.size + 2) zB ∧ wx.cell? ⟨w.heap.size, 0, none⟩ = some u ∧ Below w.heap.size w wx) (fun _ n _ => (intOf n).toNat)
          case atStart => exact ⟨cntOf k5, k3, rfl, rfl, by unfold cntOf; omega, Lib.hid rfl, HF, hB1, hR1, hL1, hb1⟩
          case round =>
            clear c0 c1 c2 c3 c4 c5 c6 c7 c8
            obtain ⟨m, x1, rfl, rfl, hm15, HG, HFr, hB, hR, hL, hb⟩ := hrel
            obtain ⟨hlt, c0, c1, c2, c3, c4, c5, c6, c7, c8, f0, f1, f2, f3, f4, f5, f6, f7, f8⟩ := id hB
            simp only at c0 c1 c2 c3 c4 c5 c6 c7 c8
            have hbd := mv_step_bd HLv.out hsz.1 hsz.2 HFr.out
            have hd := dirOf_cases k5
            by_cases h0 : ¬ 0 < m
            · obtain rfl : m = 0 := by omega
              have HN : Hid (mvGo (fun a => solT l X1 a S) (dirOf k5) (cntOf k5) k3 = (x1, false)) := HG
              go_wp2_with fail
              go_meet
              case rel => exact ⟨x1, false, by simp, HN, HFr, hB, hR, hL, hb⟩
            · obtain ⟨m', rfl⟩ : ∃ m', m = m' + 1 := ⟨m - 1, by omega⟩
              clear h0
              have hd2 : -1 ≤ dirOf k5 ∧ dirOf k5 ≤ 1 := by omega
              clear hd
              go_wp2_with fail
              refine (HS X1 (x1 + dirOf k5) _ hb).mono ?_
              rintro e wa ⟨rfl, ha⟩
              have hba := hb.trans (ha.mono hb.size)
              have hBa := hB.below ha hB.lt
              have hRa := hR.below ha hR.lt
              have hLa : wa.cell? ⟨w.heap.size, 0, none⟩ = some u := (ha.cell (p := ⟨w.heap.size, 0, none⟩) (by show w.heap.size < _; omega)).trans hL
              clear hb hB hR hL ha c0 c1 c2 c3 c4 c5 c6 c7 c8 f0 f1 f2 f3 f4 f5 f6 f7 f8
              obtain ⟨hlta, c0, c1, c2, c3, c4, c5, c6, c7, c8, f0, f1, f2, f3, f4, f5, f6, f7, f8⟩ := id hBa
              simp only at c0 c1 c2 c3 c4 c5 c6 c7 c8
              cases hs : solT l X1 (x1 + dirOf k5) S with
              | true =>
                have HN := Lib.hid (HG.out.trans (mvGo_stop hs))
                clear hs
                go_wp2_with fail
                go_meet
                case rel => exact ⟨x1, true, by simp, HN, HFr, hBa.set5 0, hRa.other (by show w.heap.size + 1 ≠ w.heap.size + 2; omega) _, cell_set_ne hLa (by show w.heap.size + 1 ≠ w.heap.size; omega), hba.setCell (by show w.heap.size ≤ w.heap.size + 1; omega) _⟩
              | false =>
                have HN := Lib.hid (HG.out.trans (mvGo_more hs))
                have HF2 := Lib.hid hs
                clear hs
                go_wp2_with fail
                go_roundw
                case rel => exact ⟨m', x1 + dirOf k5, rfl, by go_num, by omega, HN, HF2, hBa.set3 (x1 + dirOf k5), hRa.other (by show w.heap.size + 1 ≠ w.heap.size + 2; omega) _, cell_set_ne hLa (by show w.heap.size + 1 ≠ w.heap.size; omega), hba.setCell (by show w.heap.size ≤ w.heap.size + 1; omega) _⟩
                case measure => simp [intOf]
        case rest =>
          obtain ⟨y1, s2, rfl, HG2, HF2, hB, hR, hL, hb⟩ := hcut
          clear c0 c1 c2 c3 c4 c5 c6 c7 c8
          obtain ⟨V2, hV2⟩ : ∃ V2, (if s2 = true then 0 else k5) = V2 := ⟨_, rfl⟩
          rw [hV2] at hB
          have HV2 := Lib.hid hV2; clear hV2
          obtain ⟨hlt3, c0, c1, c2, c3, c4, c5, c6, c7, c8, _⟩ := id hB
          simp only at c0 c1 c2 c3 c4 c5 c6 c7 c8
          obtain ⟨hltr, r0, r1, r2, r3, r4, r5, r6, r7, r8, q0, q1, q2, q3, q4, q5, q6, q7, q8⟩ := id hR
          go_wp2_with fail
          have hE : moveU l ⟨k0, k1, k2, k3, k4, k5, k6, k7, k8⟩ = (⟨k0, k1, X1, y1, V1, V2, k6, k7, k8⟩, S1 || s2) := by
            have hm1 : mvT l (szOf k0) k2 k3 k4 k5 = ⟨X1, y1, V1, V2, S1 || s2⟩ := by
              rw [HSZ.out, mvT_eq HG1.out HG2.out, HV1.out, HV2.out]
            unfold moveU
            simp only [hm1]
          have hb2 := below_put9 hb (show w.heap.size ≤ w.heap.size + 1 + 1 by omega) ⟨k0, k1, X1, y1, V1, V2, k6, k7, k8⟩
          have hB2 := Blk.put9 (g := w.heap.size + 1 + 1) hR ⟨k0, k1, X1, y1, V1, V2, k6, k7, k8⟩
          change bodyPost _ _ _ _ _ (put9 wc (w.heap.size + 1 + 1) ⟨k0, k1, X1, y1, V1, V2, k6, k7, k8⟩)
          generalize put9 wc (w.heap.size + 1 + 1) ⟨k0, k1, X1, y1, V1, V2, k6, k7, k8⟩ = wn at hb2 hB2 ⊢
          obtain ⟨_, e0, e1, e2, e3, e4, e5, e6, e7, e8, _⟩ := hB2
          simp only at e0 e1 e2 e3 e4 e5 e6 e7 e8
          refine bodyPost_ret (v := .tuple #[.agg #[.int .i64 k0, .int .i64 k1, .int .i64 X1, .int .i64 y1, .int .i64 V1, .int .i64 V2, .int .i64 k6, .int .i64 k7, .int .i64 k8], .bool (S1 || s2)]) (by simp [results, Try.results104, go_sem, e0, e1, e2, e3, e4, e5, e6, e7, e8]) rfl ?_
          exact ⟨by rw [hE]; rfl, hb2⟩
end Go.Proofs.Ytkcknikaidbeoaa
