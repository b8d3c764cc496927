/- MoveBody, the reference's. -/
import Derived.Test.YtkcknikaidbeoaaMvi
namespace Go.Proofs.Ytkcknikaidbeoaa
open Go.RowKit
set_option maxRecDepth 100000 in
set_option maxHeartbeats 16000000 in
theorem move_spec {u : Value} {l : List ByteArray} (b : Bd) (w : World) (h : At w 1 u l.length (l.map Value.string)) (hm : l.length ≤ 1048576) (hz : ∀ s ∈ l, s.size ≤ 1048576) :
    Calls Try.prog 49 #[.agg #[u], b.val] w fun e w' => e = .returned (.tuple #[(moveB l b).1.val, .bool (moveB l b).2]) ∧ Below w.heap.size w w' := by
  have HK : solA l b.x b.y (szOf b.kind) = false → 0 ≤ b.kind ∧ b.kind ≤ 2 := fun hh => by
    have := (solA_false hh).1
    unfold szOf at this
    split at this
    · omega
    · split at this
      · omega
      · split at this <;> omega
  have HM0 : ∀ wx, Below w.heap.size w wx → solA l b.x b.y (szOf b.kind) = false → inB b.vx (-15) 15 = true → inB b.vy (-15) 15 = true → Calls Try.prog 104 #[.agg #[u], b.val] wx fun e w' => e = .returned (.tuple #[(moveU l b).1.val, .bool (moveU l b).2]) ∧ Below wx.heap.size wx w' := fun wx hx h1 h2 h3 => l02move_ret b wx (h.below hx) hm hz (solA_false h1).2.2.1 (HK h1) (solA_false h1).2.2.2 (inB_iff.1 h2) (inB_iff.1 h3)
  obtain ⟨k0, k1, k2, k3, k4, k5, k6, k7, k8⟩ := b
  simp only at HM0
  obtain ⟨S, hS⟩ : ∃ S, szOf k0 = S := ⟨_, rfl⟩
  have HA : ∀ wx, Below w.heap.size w wx → Calls Try.prog 29 #[.agg #[u], .int .i64 k2, .int .i64 k3, .int .i64 S] wx fun e w' => e = .returned (.bool (solA l k2 k3 S)) ∧ Below wx.heap.size wx w' := fun wx hb => solat_spec k2 k3 S wx (h.below hb) hm hz
  have HNO : Hid ((solA l k2 k3 S = true ∨ inB k4 (-15) 15 = false ∨ inB k5 (-15) 15 = false) → moveB l ⟨k0, k1, k2, k3, k4, k5, k6, k7, k8⟩ = (⟨k0, k1, k2, k3, k4, k5, k6, k7, k8⟩, false)) := Lib.hid fun hh => moveB_no (by rw [hS]; exact hh)
  have HYES : Hid (solA l k2 k3 S = false → inB k4 (-15) 15 = true → inB k5 (-15) 15 = true → moveB l ⟨k0, k1, k2, k3, k4, k5, k6, k7, k8⟩ = moveU l ⟨k0, k1, k2, k3, k4, k5, k6, k7, k8⟩) := Lib.hid fun h1 h2 h3 => moveB_yes (by rw [hS]; exact h1) h2 h3
  rw [hS] at HM0
  have HM := Lib.hid HM0; clear HM0 HK
  have HSZ := Lib.hid hS; clear hS
  rw [show (Bd.mk k0 k1 k2 k3 k4 k5 k6 k7 k8).val = .agg #[.int .i64 k0, .int .i64 k1, .int .i64 k2, .int .i64 k3, .int .i64 k4, .int .i64 k5, .int .i64 k6, .int .i64 k7, .int .i64 k8] from rfl]
  rw [show (Bd.mk k0 k1 k2 k3 k4 k5 k6 k7 k8).val = .agg #[.int .i64 k0, .int .i64 k1, .int .i64 k2, .int .i64 k3, .int .i64 k4, .int .i64 k5, .int .i64 k6, .int .i64 k7, .int .i64 k8] from rfl] at HM
  go_enter Try.func49, Try.ntmps49
  go_wp2_with fail
  generalize hw1 : ((w.alloc _).alloc _).alloc _ = w1
  have hb1 : Below w.heap.size w w1 := by rw [← hw1]; exact (((Below.refl _ _).alloc (Nat.le_refl _) _).alloc (by simp) _).alloc (by simp; omega) _
  have hL1 : w1.cell? ⟨w.heap.size, 0, none⟩ = some u := by rw [← hw1]; exact cell_alloc_lt (cell_alloc_lt (World.cell?_alloc_new w _ _ 0) _ (by simp)) _ (by simp; omega)
  have hB1 : Blk w1 (w.heap.size + 1) ⟨k0, k1, k2, k3, k4, k5, k6, k7, k8⟩ := by
    rw [← hw1]
    have := (Blk.new (w.alloc (.cells #[u] 27)) 56 ⟨k0, k1, k2, k3, k4, k5, k6, k7, k8⟩).alloc (.cells #[.int .i64 0, .int .i64 0, .int .i64 0, .int .i64 0, .int .i64 0, .int .i64 0, .int .i64 0, .int .i64 0, .int .i64 0] 56)
    rwa [show (w.alloc (.cells #[u] 27)).heap.size = w.heap.size + 1 by simp] at this
  have hR1 : Blk w1 (w.heap.size + 2) zB := by
    rw [← hw1]
    have := Blk.new ((w.alloc (.cells #[u] 27)).alloc (.cells #[.int .i64 k0, .int .i64 k1, .int .i64 k2, .int .i64 k3, .int .i64 k4, .int .i64 k5, .int .i64 k6, .int .i64 k7, .int .i64 k8] 56)) 56 zB
    rwa [show ((w.alloc (.cells #[u] 27)).alloc (.cells #[.int .i64 k0, .int .i64 k1, .int .i64 k2, .int .i64 k3, .int .i64 k4, .int .i64 k5, .int .i64 k6, .int .i64 k7, .int .i64 k8] 56)).heap.size = w.heap.size + 2 by simp] at this
  clear hw1
  obtain ⟨hlt, c0, c1, c2, c3, c4, c5, c6, c7, c8, _⟩ := id hB1
  simp only at c0 c1 c2 c3 c4 c5 c6 c7 c8
  refine wp_region_tailV 8 (by kernel_rfl) (by kernel_rfl) ?_
  intro OPS HOPS
  simp only [List.take_succ_cons, List.take_zero, List.drop_succ_cons, List.drop_zero]
  repeat still_step
  still_call ((sz_spec _ _).mono fun e w' h => ⟨h.1, h.2.symm⟩)
  refine wpStill_nil ?_
  change wpList _ _ _ _ _ w1.drew
  rw [HSZ.out]
  go_wp2_with fail
  refine (HA w1.drew hb1.drew).mono ?_
  rintro e wa ⟨rfl, ha⟩
  have hba := hb1.drew.trans (ha.mono hb1.drew.size)
  have hBa := hB1.drew.below ha hB1.drew.lt
  have hRa := hR1.drew.below ha hR1.drew.lt
  have hLa : wa.cell? ⟨w.heap.size, 0, none⟩ = some u := (ha.cell (p := ⟨w.heap.size, 0, none⟩) (by have := hB1.drew.lt; show w.heap.size < _; omega)).trans hL1
  clear hb1 hB1 hR1 hL1 ha c0 c1 c2 c3 c4 c5 c6 c7 c8 HA
  obtain ⟨hlta, c0, c1, c2, c3, c4, c5, c6, c7, c8, _⟩ := id hBa
  simp only at c0 c1 c2 c3 c4 c5 c6 c7 c8
  cases hsa : solA l k2 k3 S with
  | true =>
    have HN := Lib.hid (HNO.out (.inl hsa))
    clear hsa
    obtain ⟨hltr, r0, r1, r2, r3, r4, r5, r6, r7, r8, q0, q1, q2, q3, q4, q5, q6, q7, q8⟩ := id hRa
    go_wp2_with fail
    have hb2 := below_put9 hba (show w.heap.size ≤ w.heap.size + 1 + 1 by omega) ⟨k0, k1, k2, k3, k4, k5, k6, k7, k8⟩
    have hB2 := Blk.put9 (g := w.heap.size + 1 + 1) hRa ⟨k0, k1, k2, k3, k4, k5, k6, k7, k8⟩
    change bodyPost _ _ _ _ _ (put9 wa (w.heap.size + 1 + 1) ⟨k0, k1, k2, k3, k4, k5, k6, k7, k8⟩)
    generalize put9 wa (w.heap.size + 1 + 1) ⟨k0, k1, k2, k3, k4, k5, k6, k7, k8⟩ = wn at hb2 hB2 ⊢
    obtain ⟨_, e0, e1, e2, e3, e4, e5, e6, e7, e8, _⟩ := hB2
    simp only at e0 e1 e2 e3 e4 e5 e6 e7 e8
    refine bodyPost_ret (v := .tuple #[.agg #[.int .i64 k0, .int .i64 k1, .int .i64 k2, .int .i64 k3, .int .i64 k4, .int .i64 k5, .int .i64 k6, .int .i64 k7, .int .i64 k8], .bool false]) (by simp [results, Try.results49, go_sem, e0, e1, e2, e3, e4, e5, e6, e7, e8]) rfl ?_
    exact ⟨by rw [HN.out]; rfl, hb2⟩
  | false =>
    have HSA := Lib.hid hsa
    clear hsa
    go_wp2_with fail
    refine (in_any _ _ _ _).mono ?_
    rintro e wx ⟨rfl, rfl⟩
    cases hvx : inB k4 (-15) 15 with
    | false =>
      have HN := Lib.hid (HNO.out (.inr (.inl hvx)))
      clear hvx
      obtain ⟨hltr, r0, r1, r2, r3, r4, r5, r6, r7, r8, q0, q1, q2, q3, q4, q5, q6, q7, q8⟩ := id hRa
      go_wp2_with fail
      have hb2 := below_put9 hba (show w.heap.size ≤ w.heap.size + 1 + 1 by omega) ⟨k0, k1, k2, k3, k4, k5, k6, k7, k8⟩
      have hB2 := Blk.put9 (g := w.heap.size + 1 + 1) hRa ⟨k0, k1, k2, k3, k4, k5, k6, k7, k8⟩
      change bodyPost _ _ _ _ _ (put9 wa (w.heap.size + 1 + 1) ⟨k0, k1, k2, k3, k4, k5, k6, k7, k8⟩)
      generalize put9 wa (w.heap.size + 1 + 1) ⟨k0, k1, k2, k3, k4, k5, k6, k7, k8⟩ = wn at hb2 hB2 ⊢
      obtain ⟨_, e0, e1, e2, e3, e4, e5, e6, e7, e8, _⟩ := hB2
      simp only at e0 e1 e2 e3 e4 e5 e6 e7 e8
      refine bodyPost_ret (v := .tuple #[.agg #[.int .i64 k0, .int .i64 k1, .int .i64 k2, .int .i64 k3, .int .i64 k4, .int .i64 k5, .int .i64 k6, .int .i64 k7, .int .i64 k8], .bool false]) (by simp [results, Try.results49, go_sem, e0, e1, e2, e3, e4, e5, e6, e7, e8]) rfl ?_
      exact ⟨by rw [HN.out]; rfl, hb2⟩
    | true =>
      have HX := Lib.hid hvx
      clear hvx
      go_wp2_with fail
      refine (in_any _ _ _ _).mono ?_
      rintro e wx ⟨rfl, rfl⟩
      cases hvy : inB k5 (-15) 15 with
      | false =>
        have HN := Lib.hid (HNO.out (.inr (.inr hvy)))
        clear hvy
        obtain ⟨hltr, r0, r1, r2, r3, r4, r5, r6, r7, r8, q0, q1, q2, q3, q4, q5, q6, q7, q8⟩ := id hRa
        go_wp2_with fail
        have hb2 := below_put9 hba (show w.heap.size ≤ w.heap.size + 1 + 1 by omega) ⟨k0, k1, k2, k3, k4, k5, k6, k7, k8⟩
        have hB2 := Blk.put9 (g := w.heap.size + 1 + 1) hRa ⟨k0, k1, k2, k3, k4, k5, k6, k7, k8⟩
        change bodyPost _ _ _ _ _ (put9 wa (w.heap.size + 1 + 1) ⟨k0, k1, k2, k3, k4, k5, k6, k7, k8⟩)
        generalize put9 wa (w.heap.size + 1 + 1) ⟨k0, k1, k2, k3, k4, k5, k6, k7, k8⟩ = wn at hb2 hB2 ⊢
        obtain ⟨_, e0, e1, e2, e3, e4, e5, e6, e7, e8, _⟩ := hB2
        simp only at e0 e1 e2 e3 e4 e5 e6 e7 e8
        refine bodyPost_ret (v := .tuple #[.agg #[.int .i64 k0, .int .i64 k1, .int .i64 k2, .int .i64 k3, .int .i64 k4, .int .i64 k5, .int .i64 k6, .int .i64 k7, .int .i64 k8], .bool false]) (by simp [results, Try.results49, go_sem, e0, e1, e2, e3, e4, e5, e6, e7, e8]) rfl ?_
        exact ⟨by rw [HN.out]; rfl, hb2⟩
      | true =>
        have HE := Lib.hid (HYES.out HSA.out HX.out hvy)
        have HC := HM.out wa hba HSA.out HX.out hvy
        clear hvy HM
        go_wp2_with fail
        refine HC.mono ?_
        rintro e wb ⟨rfl, hb⟩
        have hbb := hba.trans (hb.mono hba.size)
        have hRb := hRa.below hb hRa.lt
        have hltb := hRb.lt
        clear hb hba hBa hRa hLa c0 c1 c2 c3 c4 c5 c6 c7 c8 HC
        obtain ⟨M, st, hM⟩ : ∃ M st, moveU l ⟨k0, k1, k2, k3, k4, k5, k6, k7, k8⟩ = (M, st) := ⟨_, _, rfl⟩
        rw [hM]
        have HN : Hid (moveB l ⟨k0, k1, k2, k3, k4, k5, k6, k7, k8⟩ = (M, st)) := Lib.hid (HE.out.trans hM)
        clear hM HE
        obtain ⟨m0, m1, m2, m3, m4, m5, m6, m7, m8⟩ := M
        rw [show (Bd.mk m0 m1 m2 m3 m4 m5 m6 m7 m8).val = .agg #[.int .i64 m0, .int .i64 m1, .int .i64 m2, .int .i64 m3, .int .i64 m4, .int .i64 m5, .int .i64 m6, .int .i64 m7, .int .i64 m8] from rfl]
        go_upto_region 4 with (fail)
        generalize hwd : wb.alloc _ = wd
        have hbd : Below w.heap.size w wd := by rw [← hwd]; exact hbb.alloc hbb.size _
        have hRd : Blk wd (w.heap.size + 2) zB := by rw [← hwd]; exact hRb.alloc _
        have hMd : Blk wd wb.heap.size ⟨m0, m1, m2, m3, m4, m5, m6, m7, m8⟩ := by rw [← hwd]; exact Blk.new wb _ ⟨m0, m1, m2, m3, m4, m5, m6, m7, m8⟩
        clear hwd hbb hRb
        obtain ⟨_, d0, d1, d2, d3, d4, d5, d6, d7, d8, _⟩ := hMd
        simp only at d0 d1 d2 d3 d4 d5 d6 d7 d8
        obtain ⟨hltr, r0, r1, r2, r3, r4, r5, r6, r7, r8, q0, q1, q2, q3, q4, q5, q6, q7, q8⟩ := id hRd
        go_wp2_with fail
        have hb2 := below_put9 hbd (show w.heap.size ≤ w.heap.size + 1 + 1 by omega) ⟨m0, m1, m2, m3, m4, m5, m6, m7, m8⟩
        have hB2 := Blk.put9 (g := w.heap.size + 1 + 1) hRd ⟨m0, m1, m2, m3, m4, m5, m6, m7, m8⟩
        change bodyPost _ _ _ _ _ (put9 wd (w.heap.size + 1 + 1) ⟨m0, m1, m2, m3, m4, m5, m6, m7, m8⟩)
        generalize put9 wd (w.heap.size + 1 + 1) ⟨m0, m1, m2, m3, m4, m5, m6, m7, m8⟩ = wn at hb2 hB2 ⊢
        obtain ⟨_, e0, e1, e2, e3, e4, e5, e6, e7, e8, _⟩ := hB2
        simp only at e0 e1 e2 e3 e4 e5 e6 e7 e8
        refine bodyPost_ret (v := .tuple #[.agg #[.int .i64 m0, .int .i64 m1, .int .i64 m2, .int .i64 m3, .int .i64 m4, .int .i64 m5, .int .i64 m6, .int .i64 m7, .int .i64 m8], .bool st]) (by simp [results, Try.results49, go_sem, e0, e1, e2, e3, e4, e5, e6, e7, e8]) rfl ?_
        exact ⟨by rw [HN.out]; rfl, hb2⟩
end Go.Proofs.Ytkcknikaidbeoaa
