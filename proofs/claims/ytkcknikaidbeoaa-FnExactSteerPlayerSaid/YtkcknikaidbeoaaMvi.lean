/- MoveBody, the program's and the reference's. -/
import Derived.Test.YtkcknikaidbeoaaMvs
import Derived.Test.YtkcknikaidbeoaaSti
namespace Go.Proofs.Ytkcknikaidbeoaa
open Go.RowKit

theorem direction_ret (v : Int) (w : World) (h1 : -9223372036854775807 ≤ v) : Calls Try.prog 105 #[.int .i64 v] w fun e w' => e = .returned (.tuple #[.int .i64 (dirOf v), .int .i64 ((cntOf v : Nat) : Int)]) ∧ w = w' := by
  by_cases h : v < 0
  · have HD := Lib.hid (dir_neg h)
    have HC : Hid (((cntOf v : Nat) : Int) = -v) := Lib.hid (by unfold cntOf; omega)
    go_enter Try.func105, Try.ntmps105
    go_wp2
    go_ret2
    exact ⟨by rw [HD.out, HC.out]; rfl, rfl⟩
  · have HD := Lib.hid (dir_pos (v := v) (by omega))
    have HC : Hid (((cntOf v : Nat) : Int) = v) := Lib.hid (by unfold cntOf; omega)
    go_enter Try.func105, Try.ntmps105
    go_wp2
    go_ret2
    exact ⟨by rw [HD.out, HC.out]; rfl, rfl⟩
theorem moveB_no {l : List ByteArray} {b : Bd} (h : solA l b.x b.y (szOf b.kind) = true ∨ inB b.vx (-15) 15 = false ∨ inB b.vy (-15) 15 = false) : moveB l b = (b, false) := by
  unfold moveB
  rw [if_pos]
  rcases h with h | h | h
  · exact .inl h
  · right; intro hh; rw [inB_yes hh.1 hh.2.1] at h; cases h
  · right; intro hh; rw [inB_yes hh.2.2.1 hh.2.2.2] at h; cases h
theorem moveB_yes {l : List ByteArray} {b : Bd} (h : solA l b.x b.y (szOf b.kind) = false) (h1 : inB b.vx (-15) 15 = true) (h2 : inB b.vy (-15) 15 = true) : moveB l b = moveU l b := by
  have h1 := inB_iff.1 h1
  have h2 := inB_iff.1 h2
  unfold moveB
  rw [if_neg]
  rintro (h' | h')
  · rw [h] at h'; cases h'
  · exact h' ⟨h1.1, h1.2, h2.1, h2.2⟩
theorem solA_false {l : List ByteArray} {x y s : Int} (h : solA l x y s = false) : 1 ≤ s ∧ s ≤ 16 ∧ lvT l = true ∧ solT l x y s = false := by
  unfold solA at h
  split at h
  · rename_i hh; exact ⟨hh.1, hh.2.1, hh.2.2, h⟩
  · cases h
set_option maxRecDepth 100000 in
set_option maxHeartbeats 16000000 in
theorem move_impl {u : Value} {l : List ByteArray} (b : Bd) (w : World) (h : At w 1 u l.length (l.map Value.string)) (hm : l.length ≤ 1048576) (hz : ∀ s ∈ l, s.size ≤ 1048576) (hw : BWf b) :
    Calls Try.prog 50 #[.agg #[u], b.val] w fun e w' => e = .returned (.tuple #[(moveB l b).1.val, .bool (moveB l b).2]) ∧ Below w.heap.size w w' := by
  obtain ⟨hx9, hy9⟩ := hw
  obtain ⟨k0, k1, k2, k3, k4, k5, k6, k7, k8⟩ := b
  simp only at hx9 hy9
  obtain ⟨S, hS⟩ : ∃ S, szOf k0 = S := ⟨_, rfl⟩
  have HA : ∀ wx, Below w.heap.size w wx → Calls Try.prog 30 #[.agg #[u], .int .i64 k2, .int .i64 k3, .int .i64 S] wx fun e w' => e = .returned (.bool (solA l k2 k3 S)) ∧ Below wx.heap.size wx w' := fun wx hb => solat_impl k2 k3 S wx (h.below hb) hm hz hx9 hy9
  have HNO : Hid ((solA l k2 k3 S = true ∨ inB k4 (-15) 15 = false ∨ inB k5 (-15) 15 = false) → moveB l ⟨k0, k1, k2, k3, k4, k5, k6, k7, k8⟩ = (⟨k0, k1, k2, k3, k4, k5, k6, k7, k8⟩, false)) := Lib.hid fun hh => moveB_no (by rw [hS]; exact hh)
  have HYES : Hid (solA l k2 k3 S = false → inB k4 (-15) 15 = true → inB k5 (-15) 15 = true → moveB l ⟨k0, k1, k2, k3, k4, k5, k6, k7, k8⟩ = moveU l ⟨k0, k1, k2, k3, k4, k5, k6, k7, k8⟩) := Lib.hid fun h1 h2 h3 => moveB_yes (by rw [hS]; exact h1) h2 h3
  have HSZ := Lib.hid hS; clear hS
  rw [show (Bd.mk k0 k1 k2 k3 k4 k5 k6 k7 k8).val = .agg #[.int .i64 k0, .int .i64 k1, .int .i64 k2, .int .i64 k3, .int .i64 k4, .int .i64 k5, .int .i64 k6, .int .i64 k7, .int .i64 k8] from rfl]
  go_enter Try.func50, Try.ntmps50
  go_wp2_with fail
  generalize hw1 : ((w.alloc _).alloc _).alloc _ = w1
  have hb1 : Below w.heap.size w w1 := by rw [← hw1]; exact (((Below.refl _ _).alloc (Nat.le_refl _) _).alloc (by simp) _).alloc (by simp; omega) _
  have hL1 : w1.cell? ⟨w.heap.size, 0, none⟩ = some u := by rw [← hw1]; exact cell_alloc_lt (cell_alloc_lt (World.cell?_alloc_new w _ _ 0) _ (by simp)) _ (by simp; omega)
  have hB1 : Blk w1 (w.heap.size + 1) ⟨k0, k1, k2, k3, k4, k5, k6, k7, k8⟩ := by
    rw [← hw1]
    have := (Blk.new (w.alloc (.cells #[u] 27)) 56 ⟨k0, k1, k2, k3, k4, k5, k6, k7, k8⟩).alloc (.cells #[.int .i64 0, .int .i64 0, .int .i64 0, .int .i64 0, .int .i64 0, .int .i64 0, .int .i64 0, .int .i64 0, .int .i64 0] 56)
    rwa [show (w.alloc (.cells #[u] 27)).heap.size = w.heap.size + 1 by simp] at this
  have hR1 : Blk w1 (w.heap.size + 2) zB := by
    rw [← hw1]
    have := Blk.new ((w.alloc (.cells #[u] 27)).alloc (.cells #[.int .i64 k0, .int .i64 k1, .int .i64 k2, .int .i64 k3, .int .i64 k4, .int .i64 k5, .int .i64 k6, .int .i64 k7, .int .i64 k8] 56)) 56 zB
    rwa [show ((w.alloc (.cells #[u] 27)).alloc (.cells #[.int .i64 k0, .int .i64 k1, .int .i64 k2, .int .i64 k3, .int .i64 k4, .int .i64 k5, .int .i64 k6, .int .i64 k7, .int .i64 k8] 56)).heap.size = w.heap.size + 2 by simp] at this
  clear hw1
  obtain ⟨hlt, c0, c1, c2, c3, c4, c5, c6, c7, c8, _⟩ := id hB1
  simp only at c0 c1 c2 c3 c4 c5 c6 c7 c8
  refine (sz_impl _ _).mono ?_
  rintro e wx ⟨rfl, rfl⟩
  rw [HSZ.out]
  go_wp2_with fail
  refine (HA _ hb1).mono ?_
  rintro e wa ⟨rfl, ha⟩
  have hba := hb1.trans (ha.mono hb1.size)
  have hBa := hB1.below ha hB1.lt
  have hRa := hR1.below ha hR1.lt
  have hLa : wa.cell? ⟨w.heap.size, 0, none⟩ = some u := (ha.cell (p := ⟨w.heap.size, 0, none⟩) (by show w.heap.size < _; omega)).trans hL1
  clear hb1 hB1 hR1 hL1 ha c0 c1 c2 c3 c4 c5 c6 c7 c8 HA
  obtain ⟨hlta, c0, c1, c2, c3, c4, c5, c6, c7, c8, _⟩ := id hBa
  simp only at c0 c1 c2 c3 c4 c5 c6 c7 c8
  cases hsa : solA l k2 k3 S with
  | true =>
    have HN := Lib.hid (HNO.out (.inl hsa))
    clear hsa
    obtain ⟨hltr, r0, r1, r2, r3, r4, r5, r6, r7, r8, q0, q1, q2, q3, q4, q5, q6, q7, q8⟩ := id hRa
    go_wp2_with fail
    have hb2 := below_put9 hba (show w.heap.size ≤ w.heap.size + 1 + 1 by omega) ⟨k0, k1, k2, k3, k4, k5, k6, k7, k8⟩
    have hB2 := Blk.put9 (g := w.heap.size + 1 + 1) hRa ⟨k0, k1, k2, k3, k4, k5, k6, k7, k8⟩
    change bodyPost _ _ _ _ _ (put9 wa (w.heap.size + 1 + 1) ⟨k0, k1, k2, k3, k4, k5, k6, k7, k8⟩)
    generalize put9 wa (w.heap.size + 1 + 1) ⟨k0, k1, k2, k3, k4, k5, k6, k7, k8⟩ = wn at hb2 hB2 ⊢
    obtain ⟨_, e0, e1, e2, e3, e4, e5, e6, e7, e8, _⟩ := hB2
    simp only at e0 e1 e2 e3 e4 e5 e6 e7 e8
    refine bodyPost_ret (v := .tuple #[.agg #[.int .i64 k0, .int .i64 k1, .int .i64 k2, .int .i64 k3, .int .i64 k4, .int .i64 k5, .int .i64 k6, .int .i64 k7, .int .i64 k8], .bool false]) (by simp [results, Try.results50, go_sem, e0, e1, e2, e3, e4, e5, e6, e7, e8]) rfl ?_
    exact ⟨by rw [HN.out]; rfl, hb2⟩
  | false =>
    obtain ⟨hz1, hz2, hv, hf⟩ := solA_false hsa
    have hsz : 1 ≤ S ∧ S ≤ 16 := ⟨hz1, hz2⟩
    have HLv := Lib.hid (lvT_lv hv)
    have HF := Lib.hid hf
    have HSA := Lib.hid hsa
    have HS : ∀ a c wx, Below w.heap.size w wx → (-1000 ≤ a ∧ a ≤ 1000) → (-1000 ≤ c ∧ c ≤ 1000) → Calls Try.prog 88 #[.agg #[u], .int .i64 a, .int .i64 c, .int .i64 S] wx fun e w' => e = .returned (.bool (solT l a c S)) ∧ Below wx.heap.size wx w' := fun a c wx hb h1 h2 => solid_impl a c S wx (h.below hb) hv hz1 hz2 (by omega) (by omega) (by omega) (by omega)
    clear hsa hf hv hz1 hz2
    go_wp2_with fail
    refine (between_any _ _ _ _).mono ?_
    rintro e wx ⟨rfl, rfl⟩
    cases hvx : inB k4 (-15) 15 with
    | false =>
      have HN := Lib.hid (HNO.out (.inr (.inl hvx)))
      clear hvx
      obtain ⟨hltr, r0, r1, r2, r3, r4, r5, r6, r7, r8, q0, q1, q2, q3, q4, q5, q6, q7, q8⟩ := id hRa
      go_wp2_with fail
      have hb2 := below_put9 hba (show w.heap.size ≤ w.heap.size + 1 + 1 by omega) ⟨k0, k1, k2, k3, k4, k5, k6, k7, k8⟩
      have hB2 := Blk.put9 (g := w.heap.size + 1 + 1) hRa ⟨k0, k1, k2, k3, k4, k5, k6, k7, k8⟩
      change bodyPost _ _ _ _ _ (put9 wa (w.heap.size + 1 + 1) ⟨k0, k1, k2, k3, k4, k5, k6, k7, k8⟩)
      generalize put9 wa (w.heap.size + 1 + 1) ⟨k0, k1, k2, k3, k4, k5, k6, k7, k8⟩ = wn at hb2 hB2 ⊢
      obtain ⟨_, e0, e1, e2, e3, e4, e5, e6, e7, e8, _⟩ := hB2
      simp only at e0 e1 e2 e3 e4 e5 e6 e7 e8
      refine bodyPost_ret (v := .tuple #[.agg #[.int .i64 k0, .int .i64 k1, .int .i64 k2, .int .i64 k3, .int .i64 k4, .int .i64 k5, .int .i64 k6, .int .i64 k7, .int .i64 k8], .bool false]) (by simp [results, Try.results50, go_sem, e0, e1, e2, e3, e4, e5, e6, e7, e8]) rfl ?_
      exact ⟨by rw [HN.out]; rfl, hb2⟩
    | true =>
      have HX := Lib.hid hvx
      have hx := inB_iff.1 hvx
      clear hvx
      go_wp2_with fail
      refine (between_any _ _ _ _).mono ?_
      rintro e wx ⟨rfl, rfl⟩
      cases hvy : inB k5 (-15) 15 with
      | false =>
        have HN := Lib.hid (HNO.out (.inr (.inr hvy)))
        clear hvy
        obtain ⟨hltr, r0, r1, r2, r3, r4, r5, r6, r7, r8, q0, q1, q2, q3, q4, q5, q6, q7, q8⟩ := id hRa
        go_wp2_with fail
        have hb2 := below_put9 hba (show w.heap.size ≤ w.heap.size + 1 + 1 by omega) ⟨k0, k1, k2, k3, k4, k5, k6, k7, k8⟩
        have hB2 := Blk.put9 (g := w.heap.size + 1 + 1) hRa ⟨k0, k1, k2, k3, k4, k5, k6, k7, k8⟩
        change bodyPost _ _ _ _ _ (put9 wa (w.heap.size + 1 + 1) ⟨k0, k1, k2, k3, k4, k5, k6, k7, k8⟩)
        generalize put9 wa (w.heap.size + 1 + 1) ⟨k0, k1, k2, k3, k4, k5, k6, k7, k8⟩ = wn at hb2 hB2 ⊢
        obtain ⟨_, e0, e1, e2, e3, e4, e5, e6, e7, e8, _⟩ := hB2
        simp only at e0 e1 e2 e3 e4 e5 e6 e7 e8
        refine bodyPost_ret (v := .tuple #[.agg #[.int .i64 k0, .int .i64 k1, .int .i64 k2, .int .i64 k3, .int .i64 k4, .int .i64 k5, .int .i64 k6, .int .i64 k7, .int .i64 k8], .bool false]) (by simp [results, Try.results50, go_sem, e0, e1, e2, e3, e4, e5, e6, e7, e8]) rfl ?_
        exact ⟨by rw [HN.out]; rfl, hb2⟩
      | true =>
        have HMV := Lib.hid (HYES.out HSA.out HX.out hvy)
        have hy := inB_iff.1 hvy
        clear hvy
        have hB1 := hBa
        have hR1 := hRa
        have hL1 := hLa
        have hb1 := hba
        clear hBa hRa hLa hba
        go_wp2_with fail
        refine (direction_ret _ _ (by omega)).mono ?_
        rintro e wx ⟨rfl, rfl⟩
        go_upto_block 0 with (fail)
        go_cut [7] (fun st wx => ∃ (x1 : Int) (s1 : Bool), st = .bool (false || s1) ∧ Hid (mvGo (fun a => solT l a k3 S) (dirOf k4) (cntOf k4) k2 = (x1, s1)) ∧ Hid (solT l x1 k3 S = false) ∧ Blk wx (w.heap.size + 1) ⟨k0, k1, x1, k3, if s1 = true then 0 else k4, k5, k6, k7, k8⟩ ∧ Blk wx (w.heap.size + 2) zB ∧ wx.cell? ⟨w.heap.size, 0, none⟩ = some u ∧ Below w.heap.size w wx)
        case first =>
          go_wp2_with fail
          go_loopw [7, 10] (fun st n wx => ∃ (j : Nat) (x1 : Int), st = .bool false ∧ n = .int .i64 j ∧ j ≤ cntOf k4 ∧ Hid (mvGo (fun a => solT l a k3 S) (dirOf k4) (cntOf k4) k2 = mvGo (fun a => solT l a k3 S) (dirOf k4) (cntOf k4 - j) x1) ∧ Hid (solT l x1 k3 S = false) ∧ Blk wx (w.heap.size + 1) ⟨k0, k1, x1, k3, k4, k5, k6, k7, k8⟩ ∧ Blk wx (w.heap.size + 2) zB ∧ wx.cell? ⟨w.heap.size, 0, none⟩ = some u ∧ Below w.heap.size w wx) (fun _ n _ => 20 - (intOf n).toNat)
          case atStart => exact ⟨0, k2, rfl, rfl, Nat.zero_le _, Lib.hid rfl, HF, hB1, hR1, hL1, hb1⟩
          case round =>
            clear c0 c1 c2 c3 c4 c5 c6 c7 c8
            obtain ⟨j, x1, rfl, rfl, hj15, HG, HFr, hB, hR, hL, hb⟩ := hrel
            obtain ⟨hlt, c0, c1, c2, c3, c4, c5, c6, c7, c8, f0, f1, f2, f3, f4, f5, f6, f7, f8⟩ := id hB
            simp only at c0 c1 c2 c3 c4 c5 c6 c7 c8
            have hbd := mv_step_bd HLv.out hsz.1 hsz.2 HFr.out
            have hd := dirOf_cases k4
            have hc15 : cntOf k4 ≤ 15 := by unfold cntOf; omega
            by_cases h0 : ¬ j < cntOf k4
            · have HN : Hid (mvGo (fun a => solT l a k3 S) (dirOf k4) (cntOf k4) k2 = (x1, false)) := Lib.hid (HG.out.trans (by rw [show cntOf k4 - j = 0 by omega]; rfl))
              go_wp2_with fail
              go_meet
              case rel => exact ⟨x1, false, by simp, HN, HFr, hB, hR, hL, hb⟩
            · have hj1 : j < cntOf k4 := by omega
              have hd2 : -1 ≤ dirOf k4 ∧ dirOf k4 ≤ 1 := by omega
              clear h0 hd
              have HJ : Hid (cntOf k4 - j = (cntOf k4 - (j + 1)) + 1) := Lib.hid (by omega)
              go_wp2_with fail
              refine (HS (x1 + dirOf k4) k3 _ hb (by omega) (by omega)).mono ?_
              rintro e wa ⟨rfl, ha⟩
              have hba := hb.trans (ha.mono hb.size)
              have hBa := hB.below ha hB.lt
              have hRa := hR.below ha hR.lt
              have hLa : wa.cell? ⟨w.heap.size, 0, none⟩ = some u := (ha.cell (p := ⟨w.heap.size, 0, none⟩) (by show w.heap.size < _; omega)).trans hL
              clear hb hB hR hL ha c0 c1 c2 c3 c4 c5 c6 c7 c8 f0 f1 f2 f3 f4 f5 f6 f7 f8
              obtain ⟨hlta, c0, c1, c2, c3, c4, c5, c6, c7, c8, f0, f1, f2, f3, f4, f5, f6, f7, f8⟩ := id hBa
              simp only at c0 c1 c2 c3 c4 c5 c6 c7 c8
              cases hs : solT l (x1 + dirOf k4) k3 S with
              | true =>
                have HN : Hid (mvGo (fun a => solT l a k3 S) (dirOf k4) (cntOf k4) k2 = (x1, true)) := Lib.hid (HG.out.trans (by rw [HJ.out]; exact mvGo_stop hs))
                clear hs
                go_wp2_with fail
                go_meet
                case rel => exact ⟨x1, true, by simp, HN, HFr, hBa.set4 0, hRa.other (by show w.heap.size + 1 ≠ w.heap.size + 2; omega) _, cell_set_ne hLa (by show w.heap.size + 1 ≠ w.heap.size; omega), hba.setCell (by show w.heap.size ≤ w.heap.size + 1; omega) _⟩
              | false =>
                have HN : Hid (mvGo (fun a => solT l a k3 S) (dirOf k4) (cntOf k4) k2 = mvGo (fun a => solT l a k3 S) (dirOf k4) (cntOf k4 - (j + 1)) (x1 + dirOf k4)) := Lib.hid (HG.out.trans (by rw [HJ.out]; exact mvGo_more hs))
                have HF2 := Lib.hid hs
                clear hs
                go_wp2_with fail
                go_roundw
                case rel => exact ⟨j + 1, x1 + dirOf k4, rfl, by go_num, by omega, HN, HF2, hBa.set2 (x1 + dirOf k4), hRa.other (by show w.heap.size + 1 ≠ w.heap.size + 2; omega) _, cell_set_ne hLa (by show w.heap.size + 1 ≠ w.heap.size; omega), hba.setCell (by show w.heap.size ≤ w.heap.size + 1; omega) _⟩
                case measure => simp [intOf]; omega
        case rest =>
          obtain ⟨wq, rfl⟩ : ∃ wq : World, wq = wc := ⟨_, rfl⟩
          obtain ⟨X1, S1, rfl, HG1, HF1, hB1', hR1', hL1', hb1'⟩ := hcut
          clear c0 c1 c2 c3 c4 c5 c6 c7 c8 hB1 hR1 hL1 hb1 HF
          obtain ⟨V1, hV1⟩ : ∃ V1, (if S1 = true then 0 else k4) = V1 := ⟨_, rfl⟩
          rw [hV1] at hB1'
          have HV1 := Lib.hid hV1; clear hV1
          have hB1 := hB1'
          have hR1 := hR1'
          have hL1 := hL1'
          have hb1 := hb1'
          have HF := HF1
          clear hB1' hR1' hL1' hb1' HF1
          obtain ⟨hlt, c0, c1, c2, c3, c4, c5, c6, c7, c8, _⟩ := id hB1
          simp only at c0 c1 c2 c3 c4 c5 c6 c7 c8
          go_wp2_with fail
          refine (direction_ret _ _ (by omega)).mono ?_
          rintro e wx ⟨rfl, rfl⟩
          go_upto_block 2 with (fail)
          go_cut [7] (fun st wx => ∃ (x1 : Int) (s1 : Bool), st = .bool (S1 || s1) ∧ Hid (mvGo (fun a => solT l X1 a S) (dirOf k5) (cntOf k5) k3 = (x1, s1)) ∧ Hid (solT l X1 x1 S = false) ∧ Blk wx (w.heap.size + 1) ⟨k0, k1, X1, x1, V1, if s1 = true then 0 else k5, k6, k7, k8⟩ ∧ Blk wx (w.heap.size + 2) zB ∧ wx.cell? ⟨w.heap.size, 0, none⟩ = some u ∧ Below w.heap.size w wx)
          case first =>
            go_wp2_with fail
            go_loopw [7, 11] (fun st n wx => ∃ (j : Nat) (x1 : Int), st = .bool S1 ∧ n = .int .i64 j ∧ j ≤ cntOf k5 ∧ Hid (mvGo (fun a => solT l X1 a S) (dirOf k5) (cntOf k5) k3 = mvGo (fun a => solT l X1 a S) (dirOf k5) (cntOf k5 - j) x1) ∧ Hid (solT l X1 x1 S = false) ∧ Blk wx (w.heap.size + 1) ⟨k0, k1, X1, x1, V1, k5, k6, k7, k8⟩ ∧ Blk wx (w.heap.size + 2) zB ∧ wx.cell? ⟨w.heap.size, 0, none⟩ = some u ∧ Below w.heap.size w wx) (fun _ n _ => 20 - (intOf n).toNat)
            case atStart => exact ⟨0, k3, rfl, rfl, Nat.zero_le _, Lib.hid rfl, HF, hB1, hR1, hL1, hb1⟩
            case round =>
              clear c0 c1 c2 c3 c4 c5 c6 c7 c8
              obtain ⟨j, x1, rfl, rfl, hj15, HG, HFr, hB, hR, hL, hb⟩ := hrel
              obtain ⟨hlt, c0, c1, c2, c3, c4, c5, c6, c7, c8, f0, f1, f2, f3, f4, f5, f6, f7, f8⟩ := id hB
              simp only at c0 c1 c2 c3 c4 c5 c6 c7 c8
              have hbd := mv_step_bd HLv.out hsz.1 hsz.2 HFr.out
              have hd := dirOf_cases k5
              have hc15 : cntOf k5 ≤ 15 := by unfold cntOf; omega
              by_cases h0 : ¬ j < cntOf k5
              · have HN : Hid (mvGo (fun a => solT l X1 a S) (dirOf k5) (cntOf k5) k3 = (x1, false)) := Lib.hid (HG.out.trans (by rw [show cntOf k5 - j = 0 by omega]; rfl))
                go_wp2_with fail
                go_meet
                case rel => exact ⟨x1, false, by simp, HN, HFr, hB, hR, hL, hb⟩
              · have hj1 : j < cntOf k5 := by omega
                have hd2 : -1 ≤ dirOf k5 ∧ dirOf k5 ≤ 1 := by omega
                clear h0 hd
                have HJ : Hid (cntOf k5 - j = (cntOf k5 - (j + 1)) + 1) := Lib.hid (by omega)
                go_wp2_with fail
                refine (HS X1 (x1 + dirOf k5) _ hb (by omega) (by omega)).mono ?_
                rintro e wa ⟨rfl, ha⟩
                have hba := hb.trans (ha.mono hb.size)
                have hBa := hB.below ha hB.lt
                have hRa := hR.below ha hR.lt
                have hLa : wa.cell? ⟨w.heap.size, 0, none⟩ = some u := (ha.cell (p := ⟨w.heap.size, 0, none⟩) (by show w.heap.size < _; omega)).trans hL
                clear hb hB hR hL ha c0 c1 c2 c3 c4 c5 c6 c7 c8 f0 f1 f2 f3 f4 f5 f6 f7 f8
                obtain ⟨hlta, c0, c1, c2, c3, c4, c5, c6, c7, c8, f0, f1, f2, f3, f4, f5, f6, f7, f8⟩ := id hBa
                simp only at c0 c1 c2 c3 c4 c5 c6 c7 c8
                cases hs : solT l X1 (x1 + dirOf k5) S with
                | true =>
                  have HN : Hid (mvGo (fun a => solT l X1 a S) (dirOf k5) (cntOf k5) k3 = (x1, true)) := Lib.hid (HG.out.trans (by rw [HJ.out]; exact mvGo_stop hs))
                  clear hs
                  go_wp2_with fail
                  go_meet
                  case rel => exact ⟨x1, true, by simp, HN, HFr, hBa.set5 0, hRa.other (by show w.heap.size + 1 ≠ w.heap.size + 2; omega) _, cell_set_ne hLa (by show w.heap.size + 1 ≠ w.heap.size; omega), hba.setCell (by show w.heap.size ≤ w.heap.size + 1; omega) _⟩
                | false =>
                  have HN : Hid (mvGo (fun a => solT l X1 a S) (dirOf k5) (cntOf k5) k3 = mvGo (fun a => solT l X1 a S) (dirOf k5) (cntOf k5 - (j + 1)) (x1 + dirOf k5)) := Lib.hid (HG.out.trans (by rw [HJ.out]; exact mvGo_more hs))
                  have HF2 := Lib.hid hs
                  clear hs
                  go_wp2_with fail
                  go_roundw
                  case rel => exact ⟨j + 1, x1 + dirOf k5, rfl, by go_num, by omega, HN, HF2, hBa.set3 (x1 + dirOf k5), hRa.other (by show w.heap.size + 1 ≠ w.heap.size + 2; omega) _, cell_set_ne hLa (by show w.heap.size + 1 ≠ w.heap.size; omega), hba.setCell (by show w.heap.size ≤ w.heap.size + 1; omega) _⟩
                  case measure => simp [intOf]; omega
          case rest =>
            obtain ⟨y1, s2, rfl, HG2, HF2, hB, hR, hL, hb⟩ := hcut
            clear c0 c1 c2 c3 c4 c5 c6 c7 c8
            obtain ⟨V2, hV2⟩ : ∃ V2, (if s2 = true then 0 else k5) = V2 := ⟨_, rfl⟩
            rw [hV2] at hB
            have HV2 := Lib.hid hV2; clear hV2
            obtain ⟨hlt3, c0, c1, c2, c3, c4, c5, c6, c7, c8, _⟩ := id hB
            simp only at c0 c1 c2 c3 c4 c5 c6 c7 c8
            have HN : Hid (moveB l ⟨k0, k1, k2, k3, k4, k5, k6, k7, k8⟩ = (⟨k0, k1, X1, y1, V1, V2, k6, k7, k8⟩, S1 || s2)) := Lib.hid (HMV.out.trans (by
              have hm1 : mvT l (szOf k0) k2 k3 k4 k5 = ⟨X1, y1, V1, V2, S1 || s2⟩ := by
                rw [HSZ.out, mvT_eq HG1.out HG2.out, HV1.out, HV2.out]
              unfold moveU
              simp only [hm1]))
            obtain ⟨hltr, r0, r1, r2, r3, r4, r5, r6, r7, r8, q0, q1, q2, q3, q4, q5, q6, q7, q8⟩ := id hR
            go_wp2_with fail
            have hb2 := below_put9 hb (show w.heap.size ≤ w.heap.size + 1 + 1 by omega) ⟨k0, k1, X1, y1, V1, V2, k6, k7, k8⟩
            have hB2 := Blk.put9 (g := w.heap.size + 1 + 1) hR ⟨k0, k1, X1, y1, V1, V2, k6, k7, k8⟩
            change bodyPost _ _ _ _ _ (put9 wc (w.heap.size + 1 + 1) ⟨k0, k1, X1, y1, V1, V2, k6, k7, k8⟩)
            generalize put9 wc (w.heap.size + 1 + 1) ⟨k0, k1, X1, y1, V1, V2, k6, k7, k8⟩ = wn at hb2 hB2 ⊢
            obtain ⟨_, e0, e1, e2, e3, e4, e5, e6, e7, e8, _⟩ := hB2
            simp only at e0 e1 e2 e3 e4 e5 e6 e7 e8
            refine bodyPost_ret (v := .tuple #[.agg #[.int .i64 k0, .int .i64 k1, .int .i64 X1, .int .i64 y1, .int .i64 V1, .int .i64 V2, .int .i64 k6, .int .i64 k7, .int .i64 k8], .bool (S1 || s2)]) (by simp [results, Try.results50, go_sem, e0, e1, e2, e3, e4, e5, e6, e7, e8]) rfl ?_
            exact ⟨by rw [HN.out]; rfl, hb2⟩
end Go.Proofs.Ytkcknikaidbeoaa
