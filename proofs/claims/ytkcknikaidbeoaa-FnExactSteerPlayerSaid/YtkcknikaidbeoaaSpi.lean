/- SteerPlayer, the program's. -/
import Derived.Test.YtkcknikaidbeoaaSte
import Derived.Test.YtkcknikaidbeoaaBmm
namespace Go.Proofs.Ytkcknikaidbeoaa
open Go.RowKit

theorem steerOk_iff {l : List ByteArray} {b : Bd} {i : Int} : steerOk l b i = true ↔ b.kind = 0 ∧ 1 ≤ b.life ∧ (0 ≤ b.owner ∧ b.owner ≤ 3) ∧ (0 ≤ i ∧ i ≤ 15) ∧ okBd l (b.owner + 1) b = true := by
  unfold steerOk
  simp only [Bool.and_eq_true, decide_eq_true_eq]
theorem steerB_no {l : List ByteArray} {b : Bd} {i : Int} (h : ¬ (b.kind = 0 ∧ 1 ≤ b.life ∧ (0 ≤ b.owner ∧ b.owner ≤ 3) ∧ (0 ≤ i ∧ i ≤ 15) ∧ okBd l (b.owner + 1) b = true)) : steerB l b i = (b, false) := by
  unfold steerB
  rw [if_neg (fun e => h (steerOk_iff.1 e))]
theorem steerB_yes {l : List ByteArray} {b : Bd} {i : Int} (h : b.kind = 0 ∧ 1 ≤ b.life ∧ (0 ≤ b.owner ∧ b.owner ≤ 3) ∧ (0 ≤ i ∧ i ≤ 15) ∧ okBd l (b.owner + 1) b = true) : steerB l b i = steerU l b i := by
  unfold steerB
  rw [if_pos (steerOk_iff.2 h)]
theorem okBd_pl2 {l : List ByteArray} {b : Bd} (h : okBd l (b.owner + 1) b = true) (h0 : b.kind = 0) (ho : 0 ≤ b.owner) : (0 ≤ b.timer ∧ b.timer ≤ 20) ∧ (-15 ≤ b.vy ∧ b.vy ≤ 15) ∧ (0 ≤ b.y ∧ b.y ≤ 1000) := by
  have hp := okBd_pl (k := b.owner.toNat) h h0 (by omega)
  have hl := lvT_lv (okBd_lv h)
  have := free_bd hl (by omega) (by omega) hp.free
  refine ⟨?_, hp.vy, by omega⟩
  by_cases e : b.life = 0
  · have := hp.dead e; omega
  · have := hp.live e; omega
set_option maxRecDepth 100000 in
set_option maxHeartbeats 16000000 in
theorem steer_impl {u : Value} {l : List ByteArray} (b : Bd) (i : Int) (w : World) (h : At w 1 u l.length (l.map Value.string)) (hm : l.length ≤ 1048576) (hz : ∀ s ∈ l, s.size ≤ 1048576) (hw : BWf b) :
    Calls Try.prog 53 #[.agg #[u], b.val, .int .i64 i] w fun e w' => e = .returned (.tuple #[(steerB l b i).1.val, .bool (steerB l b i).2]) ∧ Below w.heap.size w w' := by
  have HNO := Lib.hid (steerB_no (l := l) (b := b) (i := i))
  have HYES := Lib.hid (steerB_yes (l := l) (b := b) (i := i))
  have HPL := Lib.hid (okBd_pl2 (l := l) (b := b))
  have HLV := Lib.hid (okBd_lv (l := l) (n := b.owner + 1) (b := b))
  have HL : ∀ wx, Below w.heap.size w wx → Calls Try.prog 27 #[.agg #[u]] wx fun e w' => e = .returned (.bool (lvT l)) ∧ Below wx.heap.size wx w' := fun wx hx => lvok_impl wx (h.below hx) hm hz
  have HBO : ∀ wx, Below w.heap.size w wx → Calls Try.prog 48 #[.agg #[u], .int .i64 (b.owner + 1), b.val] wx fun e w' => e = .returned (.bool (okBd l (b.owner + 1) b)) ∧ Below wx.heap.size wx w' := fun wx hx => bok_impl (b.owner + 1) b wx (h.below hx) hm hz hw
  have HSA : ∀ a c wx, lvT l = true → Below w.heap.size w wx → (-9223372036854775808 ≤ a ∧ a ≤ 9223372036854775807) → (-9223372036854775808 ≤ c ∧ c ≤ 9223372036854775807) → Calls Try.prog 30 #[.agg #[u], .int .i64 a, .int .i64 c, .int .i64 12] wx fun e w' => e = .returned (.bool (solT l a c 12)) ∧ Below wx.heap.size wx w' := fun a c wx hv hb h1 h2 => by
    have := solat_impl a c 12 wx (h.below hb) hm hz h1 h2
    rwa [show solA l a c 12 = solT l a c 12 from by unfold solA; rw [if_pos ⟨by omega, by omega, hv⟩]] at this
  obtain ⟨hxw, _⟩ := hw
  obtain ⟨BV, hBV⟩ : ∃ BV, b.val = BV := ⟨_, rfl⟩

  obtain ⟨k0, k1, k2, k3, k4, k5, k6, k7, k8⟩ := b
  simp only at HNO HYES HPL HLV HBO hxw
  subst hBV
  rw [show (Bd.mk k0 k1 k2 k3 k4 k5 k6 k7 k8).val = .agg #[.int .i64 k0, .int .i64 k1, .int .i64 k2, .int .i64 k3, .int .i64 k4, .int .i64 k5, .int .i64 k6, .int .i64 k7, .int .i64 k8] from rfl] at HBO ⊢
  go_enter Try.func53, Try.ntmps53
  go_upto_region 1 with (fail)
  generalize hw1 : ((w.alloc _).alloc _).alloc _ = w1
  have hb1 : Below w.heap.size w w1 := by rw [← hw1]; exact (((Below.refl _ _).alloc (Nat.le_refl _) _).alloc (by simp) _).alloc (by simp; omega) _
  have hL1 : w1.cell? ⟨w.heap.size, 0, none⟩ = some u := by rw [← hw1]; exact cell_alloc_lt (cell_alloc_lt (World.cell?_alloc_new w _ _ 0) _ (by simp)) _ (by simp; omega)
  have hB1 : Blk w1 (w.heap.size + 1) ⟨k0, k1, k2, k3, k4, k5, k6, k7, k8⟩ := by
    rw [← hw1]
    have := (Blk.new (w.alloc (.cells #[u] 27)) 56 ⟨k0, k1, k2, k3, k4, k5, k6, k7, k8⟩).alloc (.cells #[.int .i64 0, .int .i64 0, .int .i64 0, .int .i64 0, .int .i64 0, .int .i64 0, .int .i64 0, .int .i64 0, .int .i64 0] 56)
    rwa [show (w.alloc (.cells #[u] 27)).heap.size = w.heap.size + 1 by simp] at this
  have hR1 : Blk w1 (w.heap.size + 2) zB := by
    rw [← hw1]
    have := Blk.new ((w.alloc (.cells #[u] 27)).alloc (.cells #[.int .i64 k0, .int .i64 k1, .int .i64 k2, .int .i64 k3, .int .i64 k4, .int .i64 k5, .int .i64 k6, .int .i64 k7, .int .i64 k8] 56)) 56 zB
    rwa [show ((w.alloc (.cells #[u] 27)).alloc (.cells #[.int .i64 k0, .int .i64 k1, .int .i64 k2, .int .i64 k3, .int .i64 k4, .int .i64 k5, .int .i64 k6, .int .i64 k7, .int .i64 k8] 56)).heap.size = w.heap.size + 2 by simp] at this
  clear hw1
  obtain ⟨_, c0, c1, c2, c3, c4, c5, c6, c7, c8, f0, f1, f2, f3, f4, f5, f6, f7, f8⟩ := id hB1
  simp only at c0 c1 c2 c3 c4 c5 c6 c7 c8
  go_wp2_with fail
  refine (HL _ hb1).mono ?_
  rintro e wa ⟨rfl, ha⟩
  have hba := hb1.trans (ha.mono hb1.size)
  have hBa := hB1.below ha hB1.lt
  have hRa := hR1.below ha hR1.lt
  have hLa : wa.cell? ⟨w.heap.size, 0, none⟩ = some u := (ha.cell (p := ⟨w.heap.size, 0, none⟩) (by show w.heap.size < _; omega)).trans hL1
  clear hb1 hB1 hR1 hL1 ha c0 c1 c2 c3 c4 c5 c6 c7 c8 f0 f1 f2 f3 f4 f5 f6 f7 f8 HL
  obtain ⟨hlta, c0, c1, c2, c3, c4, c5, c6, c7, c8, f0, f1, f2, f3, f4, f5, f6, f7, f8⟩ := id hBa
  simp only at c0 c1 c2 c3 c4 c5 c6 c7 c8
  cases hlv : lvT l with
  | false =>
    have HN := Lib.hid (HNO.out fun e => by have := HLV.out e.2.2.2.2; rw [hlv] at this; cases this)
    clear hlv
    go_upto_region 2 with (fail)
    have hRt : wa.there (w.heap.size + 1 + 1) 0 9 := hRa.there
    have hBr : wa.rangeAt (w.heap.size + 1) 0 (Bd.cells ⟨k0, k1, k2, k3, k4, k5, k6, k7, k8⟩) := hBa.range
    have hRs : (wa.setCells (w.heap.size + 1 + 1) 0 (Bd.cells ⟨k0, k1, k2, k3, k4, k5, k6, k7, k8⟩)).rangeAt (w.heap.size + 1 + 1) 0 (Bd.cells ⟨k0, k1, k2, k3, k4, k5, k6, k7, k8⟩) := (hRa.setAll ⟨k0, k1, k2, k3, k4, k5, k6, k7, k8⟩).range
    have hbs := setCells_below (o := 0) (vs := Bd.cells ⟨k0, k1, k2, k3, k4, k5, k6, k7, k8⟩) hba (show w.heap.size ≤ w.heap.size + 1 + 1 by omega)
    clear c0 c1 c2 c3 c4 c5 c6 c7 c8 f0 f1 f2 f3 f4 f5 f6 f7 f8
    apply wp_region_lit
    refine load_bod (op := ⟨some 29, _, _, _, _, _⟩) rfl _ rfl (w.heap.size + 1) 0 rfl ⟨k0, k1, k2, k3, k4, k5, k6, k7, k8⟩ hBr ?_
    refine store_bod (op := ⟨none, _, _, _, _, _⟩) rfl _ _ rfl (w.heap.size + 1 + 1) 0 rfl ⟨k0, k1, k2, k3, k4, k5, k6, k7, k8⟩ rfl hRt ?_
    generalize hwn : World.setCells _ _ _ _ = wn
    rw [hwn] at hRs hbs
    clear hwn
    repeat go_step
    refine bodyPost_ret (res_bod2 rfl rfl rfl hRs) rfl ?_
    exact ⟨by rw [HN.out], hbs⟩
  | true =>
  have HLVT := Lib.hid hlv
  clear hlv
  by_cases hk : ¬ k0 = 0
  · have HN := Lib.hid (HNO.out fun e => hk e.1)
    have x1 : (k0 == 0) = false := beq_eq_false_iff_ne.2 hk
    go_upto_region 2 with (fail)
    have hRt : wa.there (w.heap.size + 1 + 1) 0 9 := hRa.there
    have hBr : wa.rangeAt (w.heap.size + 1) 0 (Bd.cells ⟨k0, k1, k2, k3, k4, k5, k6, k7, k8⟩) := hBa.range
    have hRs : (wa.setCells (w.heap.size + 1 + 1) 0 (Bd.cells ⟨k0, k1, k2, k3, k4, k5, k6, k7, k8⟩)).rangeAt (w.heap.size + 1 + 1) 0 (Bd.cells ⟨k0, k1, k2, k3, k4, k5, k6, k7, k8⟩) := (hRa.setAll ⟨k0, k1, k2, k3, k4, k5, k6, k7, k8⟩).range
    have hbs := setCells_below (o := 0) (vs := Bd.cells ⟨k0, k1, k2, k3, k4, k5, k6, k7, k8⟩) hba (show w.heap.size ≤ w.heap.size + 1 + 1 by omega)
    clear c0 c1 c2 c3 c4 c5 c6 c7 c8 f0 f1 f2 f3 f4 f5 f6 f7 f8
    apply wp_region_lit
    refine load_bod (op := ⟨some 29, _, _, _, _, _⟩) rfl _ rfl (w.heap.size + 1) 0 rfl ⟨k0, k1, k2, k3, k4, k5, k6, k7, k8⟩ hBr ?_
    refine store_bod (op := ⟨none, _, _, _, _, _⟩) rfl _ _ rfl (w.heap.size + 1 + 1) 0 rfl ⟨k0, k1, k2, k3, k4, k5, k6, k7, k8⟩ rfl hRt ?_
    generalize hwn : World.setCells _ _ _ _ = wn
    rw [hwn] at hRs hbs
    clear hwn
    repeat go_step
    refine bodyPost_ret (res_bod2 rfl rfl rfl hRs) rfl ?_
    exact ⟨by rw [HN.out], hbs⟩
  replace hk := Classical.not_not.1 hk
  subst hk
  by_cases hlf : k7 < 1
  · have HN := Lib.hid (HNO.out fun e => by have := e.2.1; omega)
    go_upto_region 2 with (fail)
    have hRt : wa.there (w.heap.size + 1 + 1) 0 9 := hRa.there
    have hBr : wa.rangeAt (w.heap.size + 1) 0 (Bd.cells ⟨0, k1, k2, k3, k4, k5, k6, k7, k8⟩) := hBa.range
    have hRs : (wa.setCells (w.heap.size + 1 + 1) 0 (Bd.cells ⟨0, k1, k2, k3, k4, k5, k6, k7, k8⟩)).rangeAt (w.heap.size + 1 + 1) 0 (Bd.cells ⟨0, k1, k2, k3, k4, k5, k6, k7, k8⟩) := (hRa.setAll ⟨0, k1, k2, k3, k4, k5, k6, k7, k8⟩).range
    have hbs := setCells_below (o := 0) (vs := Bd.cells ⟨0, k1, k2, k3, k4, k5, k6, k7, k8⟩) hba (show w.heap.size ≤ w.heap.size + 1 + 1 by omega)
    clear c0 c1 c2 c3 c4 c5 c6 c7 c8 f0 f1 f2 f3 f4 f5 f6 f7 f8
    apply wp_region_lit
    refine load_bod (op := ⟨some 29, _, _, _, _, _⟩) rfl _ rfl (w.heap.size + 1) 0 rfl ⟨0, k1, k2, k3, k4, k5, k6, k7, k8⟩ hBr ?_
    refine store_bod (op := ⟨none, _, _, _, _, _⟩) rfl _ _ rfl (w.heap.size + 1 + 1) 0 rfl ⟨0, k1, k2, k3, k4, k5, k6, k7, k8⟩ rfl hRt ?_
    generalize hwn : World.setCells _ _ _ _ = wn
    rw [hwn] at hRs hbs
    clear hwn
    repeat go_step
    refine bodyPost_ret (res_bod2 rfl rfl rfl hRs) rfl ?_
    exact ⟨by rw [HN.out], hbs⟩
  have x2 : decide (k7 < 1) = false := decide_eq_false hlf
  go_wp2_with fail
  clear x2
  refine (between_any _ _ _ _).mono ?_
  rintro e wx ⟨rfl, rfl⟩
  cases how : inB k1 0 3 with
  | false =>
    have HN := Lib.hid (HNO.out fun e => by rw [inB_yes e.2.2.1.1 e.2.2.1.2] at how; cases how)
    clear how
    go_upto_region 2 with (fail)
    have hRt : wa.there (w.heap.size + 1 + 1) 0 9 := hRa.there
    have hBr : wa.rangeAt (w.heap.size + 1) 0 (Bd.cells ⟨0, k1, k2, k3, k4, k5, k6, k7, k8⟩) := hBa.range
    have hRs : (wa.setCells (w.heap.size + 1 + 1) 0 (Bd.cells ⟨0, k1, k2, k3, k4, k5, k6, k7, k8⟩)).rangeAt (w.heap.size + 1 + 1) 0 (Bd.cells ⟨0, k1, k2, k3, k4, k5, k6, k7, k8⟩) := (hRa.setAll ⟨0, k1, k2, k3, k4, k5, k6, k7, k8⟩).range
    have hbs := setCells_below (o := 0) (vs := Bd.cells ⟨0, k1, k2, k3, k4, k5, k6, k7, k8⟩) hba (show w.heap.size ≤ w.heap.size + 1 + 1 by omega)
    clear c0 c1 c2 c3 c4 c5 c6 c7 c8 f0 f1 f2 f3 f4 f5 f6 f7 f8
    apply wp_region_lit
    refine load_bod (op := ⟨some 29, _, _, _, _, _⟩) rfl _ rfl (w.heap.size + 1) 0 rfl ⟨0, k1, k2, k3, k4, k5, k6, k7, k8⟩ hBr ?_
    refine store_bod (op := ⟨none, _, _, _, _, _⟩) rfl _ _ rfl (w.heap.size + 1 + 1) 0 rfl ⟨0, k1, k2, k3, k4, k5, k6, k7, k8⟩ rfl hRt ?_
    generalize hwn : World.setCells _ _ _ _ = wn
    rw [hwn] at hRs hbs
    clear hwn
    repeat go_step
    refine bodyPost_ret (res_bod2 rfl rfl rfl hRs) rfl ?_
    exact ⟨by rw [HN.out], hbs⟩
  | true =>
  have HOW := Lib.hid how
  have ho := inB_iff.1 how
  clear how
  go_wp2_with fail
  refine (between_any _ _ _ _).mono ?_
  rintro e wx ⟨rfl, rfl⟩
  cases hin : inB i 0 15 with
  | false =>
    have HN := Lib.hid (HNO.out fun e => by rw [inB_yes e.2.2.2.1.1 e.2.2.2.1.2] at hin; cases hin)
    clear hin
    go_upto_region 4 with (fail)
    have hRt : wa.there (w.heap.size + 1 + 1) 0 9 := hRa.there
    have hBr : wa.rangeAt (w.heap.size + 1) 0 (Bd.cells ⟨0, k1, k2, k3, k4, k5, k6, k7, k8⟩) := hBa.range
    have hRs : (wa.setCells (w.heap.size + 1 + 1) 0 (Bd.cells ⟨0, k1, k2, k3, k4, k5, k6, k7, k8⟩)).rangeAt (w.heap.size + 1 + 1) 0 (Bd.cells ⟨0, k1, k2, k3, k4, k5, k6, k7, k8⟩) := (hRa.setAll ⟨0, k1, k2, k3, k4, k5, k6, k7, k8⟩).range
    have hbs := setCells_below (o := 0) (vs := Bd.cells ⟨0, k1, k2, k3, k4, k5, k6, k7, k8⟩) hba (show w.heap.size ≤ w.heap.size + 1 + 1 by omega)
    clear c0 c1 c2 c3 c4 c5 c6 c7 c8 f0 f1 f2 f3 f4 f5 f6 f7 f8
    apply wp_region_lit
    refine load_bod (op := ⟨some 42, _, _, _, _, _⟩) rfl _ rfl (w.heap.size + 1) 0 rfl ⟨0, k1, k2, k3, k4, k5, k6, k7, k8⟩ hBr ?_
    refine store_bod (op := ⟨none, _, _, _, _, _⟩) rfl _ _ rfl (w.heap.size + 1 + 1) 0 rfl ⟨0, k1, k2, k3, k4, k5, k6, k7, k8⟩ rfl hRt ?_
    generalize hwn : World.setCells _ _ _ _ = wn
    rw [hwn] at hRs hbs
    clear hwn
    repeat go_step
    refine bodyPost_ret (res_bod2 rfl rfl rfl hRs) rfl ?_
    exact ⟨by rw [HN.out], hbs⟩
  | true =>
  have hi := inB_iff.1 hin
  clear hin
  go_wp2_with fail
  refine (HBO _ hba).mono ?_
  rintro e wb ⟨rfl, hb⟩
  have hbb := hba.trans (hb.mono hba.size)
  have hBb := hBa.below hb hBa.lt
  have hRb := hRa.below hb hRa.lt
  have hLb : wb.cell? ⟨w.heap.size, 0, none⟩ = some u := (hb.cell (p := ⟨w.heap.size, 0, none⟩) (by show w.heap.size < _; omega)).trans hLa
  clear hba hBa hRa hLa hb c0 c1 c2 c3 c4 c5 c6 c7 c8 f0 f1 f2 f3 f4 f5 f6 f7 f8 HBO
  obtain ⟨hltb, c0, c1, c2, c3, c4, c5, c6, c7, c8, f0, f1, f2, f3, f4, f5, f6, f7, f8⟩ := id hBb
  simp only at c0 c1 c2 c3 c4 c5 c6 c7 c8
  cases hbo : okBd l (k1 + 1) ⟨0, k1, k2, k3, k4, k5, k6, k7, k8⟩ with
  | false =>
    have HN := Lib.hid (HNO.out fun e => by have := e.2.2.2.2; rw [hbo] at this; cases this)
    clear hbo
    go_upto_region 4 with (fail)
    have hRt : wb.there (w.heap.size + 1 + 1) 0 9 := hRb.there
    have hBr : wb.rangeAt (w.heap.size + 1) 0 (Bd.cells ⟨0, k1, k2, k3, k4, k5, k6, k7, k8⟩) := hBb.range
    have hRs : (wb.setCells (w.heap.size + 1 + 1) 0 (Bd.cells ⟨0, k1, k2, k3, k4, k5, k6, k7, k8⟩)).rangeAt (w.heap.size + 1 + 1) 0 (Bd.cells ⟨0, k1, k2, k3, k4, k5, k6, k7, k8⟩) := (hRb.setAll ⟨0, k1, k2, k3, k4, k5, k6, k7, k8⟩).range
    have hbs := setCells_below (o := 0) (vs := Bd.cells ⟨0, k1, k2, k3, k4, k5, k6, k7, k8⟩) hbb (show w.heap.size ≤ w.heap.size + 1 + 1 by omega)
    clear c0 c1 c2 c3 c4 c5 c6 c7 c8 f0 f1 f2 f3 f4 f5 f6 f7 f8
    apply wp_region_lit
    refine load_bod (op := ⟨some 42, _, _, _, _, _⟩) rfl _ rfl (w.heap.size + 1) 0 rfl ⟨0, k1, k2, k3, k4, k5, k6, k7, k8⟩ hBr ?_
    refine store_bod (op := ⟨none, _, _, _, _, _⟩) rfl _ _ rfl (w.heap.size + 1 + 1) 0 rfl ⟨0, k1, k2, k3, k4, k5, k6, k7, k8⟩ rfl hRt ?_
    generalize hwn : World.setCells _ _ _ _ = wn
    rw [hwn] at hRs hbs
    clear hwn
    repeat go_step
    refine bodyPost_ret (res_bod2 rfl rfl rfl hRs) rfl ?_
    exact ⟨by rw [HN.out], hbs⟩
  | true =>
  have HST := Lib.hid (HYES.out ⟨by trivial, by omega, ho, hi, hbo⟩)
  obtain ⟨ht, hy, hx⟩ := HPL.out hbo (by trivial) ho.1
  clear hbo
  have HS : ∀ wx, Below w.heap.size w wx → Calls Try.prog 30 #[.agg #[u], .int .i64 k2, .int .i64 (k3 + 1), .int .i64 12] wx fun e w' => e = .returned (.bool (solT l k2 (k3 + 1) 12)) ∧ Below wx.heap.size wx w' := fun wx hb => HSA k2 (k3 + 1) wx HLVT.out hb hxw (by omega)
  clear HSA
  have hB1 := hBb
  have hR1 := hRb
  have hL1 := hLb
  have hb1 := hbb
  clear hBb hRb hLb hbb
  go_upto_if 45 with (fail)
  go_cut [7] (fun st wx => st = .bool false ∧ Blk wx (w.heap.size + 1) ⟨0, k1, k2, k3, k4, k5, k6, k7, stT k8⟩ ∧ Blk wx (w.heap.size + 2) zB ∧ wx.cell? ⟨w.heap.size, 0, none⟩ = some u ∧ Below w.heap.size w wx)
  case first =>
    by_cases h0 : 0 < k8
    · have HN := Lib.hid (stT_pos h0)
      go_wp2_with fail
      go_meet
      case rel => exact ⟨rfl, by rw [HN.out]; exact hB1.set8 _, hR1.other (by show w.heap.size + 1 ≠ w.heap.size + 2; omega) _, cell_set_ne hL1 (by show w.heap.size + 1 ≠ w.heap.size; omega), hb1.setCell (by show w.heap.size ≤ w.heap.size + 1; omega) _⟩
    · have HN := Lib.hid (stT_neg h0)
      go_wp2_with fail
      go_meet
      case rel => exact ⟨rfl, by rw [HN.out]; exact hB1, hR1, hL1, hb1⟩
  case rest =>
    clear hB1 hR1 hL1 hb1 c0 c1 c2 c3 c4 c5 c6 c7 c8 f0 f1 f2 f3 f4 f5 f6 f7 f8
    obtain ⟨wq, rfl⟩ : ∃ wq : World, wq = wc := ⟨_, rfl⟩
    obtain ⟨rfl, hB1, hR1, hL1, hb1⟩ := hcut
    obtain ⟨_, c0, c1, c2, c3, c4, c5, c6, c7, c8, f0, f1, f2, f3, f4, f5, f6, f7, f8⟩ := id hB1
    simp only at c0 c1 c2 c3 c4 c5 c6 c7 c8
    go_upto_region 7 with (fail)
    go_cut [8] (fun p wx => p = .bool (bitL i) ∧ wx = wq)
    case first =>
      have b1 := bits1 hi
      cases hl : bitL i <;> simp only [hl, if_true, Bool.false_eq_true, if_false] at b1
      all_goals
        go_wp2_with fail
        go_meet
        case rel => exact ⟨by rw [hl], rfl⟩
    case rest =>
    obtain ⟨rfl, rfl⟩ := hcut
    go_upto_region 8 with (fail)
    go_cut [9] (fun p wx => p = .bool (bitR i) ∧ wx = wc)
    case first =>
      have b2 := bits2 hi
      cases hr : bitR i <;> simp only [hr, if_true, Bool.false_eq_true, if_false] at b2
      all_goals
        go_wp2_with fail
        go_meet
        case rel => exact ⟨by rw [hr], rfl⟩
    case rest =>
    obtain ⟨wq, rfl⟩ : ∃ wq : World, wq = wc := ⟨_, rfl⟩
    obtain ⟨rfl, rfl⟩ := hcut
    go_upto_region 10 with (fail)
    have hB2 := hB1.set4 0
    have hR2 := hR1.other (p := ⟨w.heap.size + 1, 4, none⟩) (by show w.heap.size + 1 ≠ w.heap.size + 2; omega) (.int .i64 0)
    have hL2 := cell_set_ne (v := .int .i64 0) (p := ⟨w.heap.size + 1, 4, none⟩) hL1 (by show w.heap.size + 1 ≠ w.heap.size; omega)
    have hb2 := hb1.setCell (p := ⟨w.heap.size + 1, 4, none⟩) (by show w.heap.size ≤ w.heap.size + 1; omega) (.int .i64 0)
    generalize hwn : World.setCell wq _ _ = wn
    rw [hwn] at hB2 hR2 hL2 hb2
    clear hwn hB1 hR1 hL1 hb1 c0 c1 c2 c3 c4 c5 c6 c7 c8 f0 f1 f2 f3 f4 f5 f6 f7 f8
    simp only at hB2
    go_cut [8, 9, 61] (fun p q st wx => p = .bool (bitL i) ∧ q = .bool (bitR i) ∧ st = .bool (bitR i && !bitL i) ∧ wx = wn)
    case first =>
      cases hr : bitR i <;> cases hl : bitL i
      all_goals
        go_wp2_with fail
        go_meet
        case rel => exact ⟨by rw [hl], by rw [hr], by rw [hr, hl]; rfl, rfl⟩
    case rest =>
      obtain ⟨wr, rfl⟩ : ∃ wr : World, wr = wc := ⟨_, rfl⟩
      obtain ⟨rfl, rfl, rfl, rfl⟩ := hcut
      obtain ⟨_, c0, c1, c2, c3, c4, c5, c6, c7, c8, f0, f1, f2, f3, f4, f5, f6, f7, f8⟩ := id hB2
      simp only at c0 c1 c2 c3 c4 c5 c6 c7 c8
      go_upto_if 61 with (fail)
      go_cut [7] (fun st wx => st = .bool false ∧ Blk wx (w.heap.size + 1) ⟨0, k1, k2, k3, (if (bitR i && !bitL i) = true then 3 else 0), k5, (if (bitR i && !bitL i) = true then 1 else k6), k7, stT k8⟩ ∧ Blk wx (w.heap.size + 2) zB ∧ wx.cell? ⟨w.heap.size, 0, none⟩ = some u ∧ Below w.heap.size w wx)
      case first =>
        cases hr : (bitR i && !bitL i)
        all_goals
          go_wp2_with fail
          go_meet
          case rel => simp only [hr, Bool.false_eq_true, if_false, if_true]; first | exact ⟨trivial, hB2, hR2, hL2, hb2⟩ | exact ⟨rfl, hB2, hR2, hL2, hb2⟩ | exact ⟨by trivial, (hB2.set4 3).set6 1, (hR2.other (by show w.heap.size + 1 ≠ w.heap.size + 2; omega) _).other (by show w.heap.size + 1 ≠ w.heap.size + 2; omega) _, cell_set_ne (cell_set_ne hL2 (by show w.heap.size + 1 ≠ w.heap.size; omega)) (by show w.heap.size + 1 ≠ w.heap.size; omega), (hb2.setCell (by show w.heap.size ≤ w.heap.size + 1; omega) _).setCell (by show w.heap.size ≤ w.heap.size + 1; omega) _⟩
      case rest =>
        clear hB2 hR2 hL2 hb2 c0 c1 c2 c3 c4 c5 c6 c7 c8 f0 f1 f2 f3 f4 f5 f6 f7 f8
        obtain ⟨ws, rfl⟩ : ∃ ws : World, ws = wc := ⟨_, rfl⟩
        obtain ⟨rfl, hB2, hR2, hL2, hb2⟩ := hcut
        obtain ⟨X1, hX1⟩ : ∃ X : Int, X = (if (bitR i && !bitL i) = true then 3 else 0) := ⟨_, rfl⟩
        obtain ⟨A1, hA1⟩ : ∃ X : Int, X = (if (bitR i && !bitL i) = true then 1 else k6) := ⟨_, rfl⟩
        rw [← hX1, ← hA1] at hB2
        go_upto_region 13 with (fail)
        go_cut [8, 9, 68] (fun p q st wx => p = .bool (bitL i) ∧ q = .bool (bitR i) ∧ st = .bool (bitL i && !bitR i) ∧ wx = ws)
        case first =>
          clear hX1 hA1
          cases hr : bitR i <;> cases hl : bitL i
          all_goals
            go_wp2_with fail
            go_meet
            case rel => exact ⟨by rw [hl], by rw [hr], by rw [hr, hl]; rfl, rfl⟩
        case rest =>
          obtain ⟨wr, rfl⟩ : ∃ wr : World, wr = wc := ⟨_, rfl⟩
          obtain ⟨rfl, rfl, rfl, rfl⟩ := hcut
          obtain ⟨_, c0, c1, c2, c3, c4, c5, c6, c7, c8, f0, f1, f2, f3, f4, f5, f6, f7, f8⟩ := id hB2
          simp only at c0 c1 c2 c3 c4 c5 c6 c7 c8
          go_upto_if 68 with (fail)
          go_cut [7] (fun st wx => st = .bool false ∧ Blk wx (w.heap.size + 1) ⟨0, k1, k2, k3, (if (bitL i && !bitR i) = true then -3 else X1), k5, (if (bitL i && !bitR i) = true then -1 else A1), k7, stT k8⟩ ∧ Blk wx (w.heap.size + 2) zB ∧ wx.cell? ⟨w.heap.size, 0, none⟩ = some u ∧ Below w.heap.size w wx)
          case first =>
            clear hX1 hA1
            cases hr : (bitL i && !bitR i)
            all_goals
              go_wp2_with fail
              go_meet
              case rel => simp only [hr, Bool.false_eq_true, if_false, if_true]; first | exact ⟨trivial, hB2, hR2, hL2, hb2⟩ | exact ⟨by trivial, (hB2.set4 (-3)).set6 (-1), (hR2.other (by show w.heap.size + 1 ≠ w.heap.size + 2; omega) _).other (by show w.heap.size + 1 ≠ w.heap.size + 2; omega) _, cell_set_ne (cell_set_ne hL2 (by show w.heap.size + 1 ≠ w.heap.size; omega)) (by show w.heap.size + 1 ≠ w.heap.size; omega), (hb2.setCell (by show w.heap.size ≤ w.heap.size + 1; omega) _).setCell (by show w.heap.size ≤ w.heap.size + 1; omega) _⟩
          case rest =>
            clear hB2 hR2 hL2 hb2 c0 c1 c2 c3 c4 c5 c6 c7 c8 f0 f1 f2 f3 f4 f5 f6 f7 f8
            obtain ⟨wt, rfl⟩ : ∃ wt : World, wt = wc := ⟨_, rfl⟩
            obtain ⟨rfl, hB2, hR2, hL2, hb2⟩ := hcut
            obtain ⟨X2, hX2⟩ : ∃ X : Int, X = (if (bitL i && !bitR i) = true then -3 else X1) := ⟨_, rfl⟩
            obtain ⟨A2, hA2⟩ : ∃ X : Int, X = (if (bitL i && !bitR i) = true then -1 else A1) := ⟨_, rfl⟩
            rw [← hX2, ← hA2] at hB2
            obtain ⟨_, c0, c1, c2, c3, c4, c5, c6, c7, c8, f0, f1, f2, f3, f4, f5, f6, f7, f8⟩ := id hB2
            simp only at c0 c1 c2 c3 c4 c5 c6 c7 c8
            go_upto_region 16 with (fail)
            go_cut [83] (fun st wx => st = .bool (bitJ i && solT l k2 (k3 + 1) 12) ∧ Below wt.heap.size wt wx)
            case first =>
              have b4 := bits4 hi
              cases hj : bitJ i <;> simp only [hj, if_true, Bool.false_eq_true, if_false] at b4
              case false =>
                refine wp_region_tailV 11 (by kernel_rfl) (by kernel_rfl) ?_
                intro OPS HOPS
                have g3 : Hid ((OPS[3]?).bind (·.dst) = some 74) := Lib.hid (by rw [HOPS.out]; kernel_rfl)
                simp only [List.take_succ_cons, List.take_zero, List.drop_succ_cons, List.drop_zero]
                still_step
                still_step
                still_step
                still_step
                refine wpStill_skip ((wanted_of (j := 3) (d := 74) (b := true) (v := false) rfl g3.out rfl).trans rfl) ?_
                simp only [Act.put, List.setIfInBounds_toArray, List.set_cons_zero, List.set_cons_succ]
                refine wpStill_skip ((wanted_of (j := 3) (d := 74) (b := true) (v := false) rfl g3.out rfl).trans rfl) ?_
                simp only [Act.put, List.setIfInBounds_toArray, List.set_cons_zero, List.set_cons_succ]
                refine wpStill_skip ((wanted_of (j := 3) (d := 74) (b := true) (v := false) rfl g3.out rfl).trans rfl) ?_
                simp only [Act.put, List.setIfInBounds_toArray, List.set_cons_zero, List.set_cons_succ]
                refine wpStill_skip ((wanted_of (j := 3) (d := 74) (b := true) (v := false) rfl g3.out rfl).trans rfl) ?_
                simp only [Act.put, List.setIfInBounds_toArray, List.set_cons_zero, List.set_cons_succ]
                refine wpStill_skip ((wanted_of (j := 3) (d := 74) (b := true) (v := false) rfl g3.out rfl).trans rfl) ?_
                simp only [Act.put, List.setIfInBounds_toArray, List.set_cons_zero, List.set_cons_succ]
                refine wpStill_skip ((wanted_of (j := 3) (d := 74) (b := true) (v := false) rfl g3.out rfl).trans rfl) ?_
                simp only [Act.put, List.setIfInBounds_toArray, List.set_cons_zero, List.set_cons_succ]
                refine wpStill_skip ((wanted_of (j := 3) (d := 74) (b := true) (v := false) rfl g3.out rfl).trans rfl) ?_
                simp only [Act.put, List.setIfInBounds_toArray, List.set_cons_zero, List.set_cons_succ]
                refine wpStill_nil ?_
                change wpList _ _ _ _ _ wt.drew
                go_wp2_with fail
                go_meet
                case rel => exact ⟨by rw [hj]; rfl, (Below.refl _ _).drew⟩
              case true =>
                refine wp_region_tailV 11 (by kernel_rfl) (by kernel_rfl) ?_
                intro OPS HOPS
                have g3 : Hid ((OPS[3]?).bind (·.dst) = some 74) := Lib.hid (by rw [HOPS.out]; kernel_rfl)
                simp only [List.take_succ_cons, List.take_zero, List.drop_succ_cons, List.drop_zero]
                still_step
                still_step
                still_step
                still_step
                refine wpStill_wantG 3 74 true true rfl g3.out rfl rfl (fun K hK => ?_)
                go_simp
                refine hK _ ?_
                clear hK K
                refine wpStill_wantG 3 74 true true rfl g3.out rfl rfl (fun K hK => ?_)
                go_simp
                refine hK _ ?_
                clear hK K
                refine wpStill_wantG 3 74 true true rfl g3.out rfl rfl (fun K hK => ?_)
                go_simp
                refine hK _ ?_
                clear hK K
                refine wpStill_wantG 3 74 true true rfl g3.out rfl rfl (fun K hK => ?_)
                go_simp
                refine hK _ ?_
                clear hK K
                refine wpStill_wantG 3 74 true true rfl g3.out rfl rfl (fun K hK => ?_)
                go_simp
                refine hK _ ?_
                clear hK K
                refine wpStill_wantG 3 74 true true rfl g3.out rfl rfl (fun K hK => ?_)
                go_simp
                refine hK _ ?_
                clear hK K
                refine wpStill_wantG 3 74 true true rfl g3.out rfl rfl (fun K hK => ?_)
                go_simp
                refine ⟨_, (sz_impl _ _).mono (fun e w' h => ⟨h.1, h.2.symm⟩), hK _ ?_⟩
                clear hK K
                refine wpStill_nil ?_
                change wpList _ _ _ _ _ wt.drew
                rw [show szOf 0 = 12 from rfl]
                go_wp2_with fail
                refine (HS wt.drew hb2.drew).mono ?_
                rintro e wa ⟨rfl, ha⟩
                go_wp2_with fail
                go_meet
                case rel => exact ⟨by rw [hj]; rfl, ((Below.refl wt.heap.size wt).drew).trans (ha.mono (Nat.le_refl _))⟩
            case rest =>
              obtain ⟨wu, rfl⟩ : ∃ wu : World, wu = wc := ⟨_, rfl⟩
              obtain ⟨rfl, hbz⟩ := hcut
              have hB3 := hB2.below hbz hB2.lt
              have hR3 := hR2.below hbz hR2.lt
              have hb3 := hb2.trans (hbz.mono hb2.size)
              clear hB2 hR2 hL2 hb2 hbz c0 c1 c2 c3 c4 c5 c6 c7 c8 f0 f1 f2 f3 f4 f5 f6 f7 f8
              obtain ⟨SJ, hSJ⟩ : ∃ X : Bool, (bitJ i && solT l k2 (k3 + 1) 12) = X := ⟨_, rfl⟩
              rw [hSJ]
              obtain ⟨_, c0, c1, c2, c3, c4, c5, c6, c7, c8, f0, f1, f2, f3, f4, f5, f6, f7, f8⟩ := id hB3
              simp only at c0 c1 c2 c3 c4 c5 c6 c7 c8
              go_upto_if 83 with (fail)
              go_cut [7] (fun st wx => st = .bool false ∧ Blk wx (w.heap.size + 1) ⟨0, k1, k2, k3, X2, (if SJ = true then -9 else min (k5 + 1) 8), A2, k7, stT k8⟩ ∧ Blk wx (w.heap.size + 2) zB ∧ Below w.heap.size w wx)
              case first =>
                clear hX1 hA1 hX2 hA2 hSJ
                cases SJ
                case true =>
                  go_wp2_with fail
                  go_meet
                  case rel => simp only [if_true]; exact ⟨by trivial, hB3.set5 _, hR3.other (by show w.heap.size + 1 ≠ w.heap.size + 2; omega) _, hb3.setCell (by show w.heap.size ≤ w.heap.size + 1; omega) _⟩
                case false =>
                  by_cases hmn : k5 + 1 ≤ 8
                  · have HMN : Hid (min (k5 + 1) 8 = k5 + 1) := Lib.hid (by omega)
                    go_wp2_with fail
                    go_meet
                    case rel => simp only [Bool.false_eq_true, if_false, HMN.out]; exact ⟨by trivial, hB3.set5 _, hR3.other (by show w.heap.size + 1 ≠ w.heap.size + 2; omega) _, hb3.setCell (by show w.heap.size ≤ w.heap.size + 1; omega) _⟩
                  · have HMN : Hid (min (k5 + 1) 8 = 8) := Lib.hid (by omega)
                    go_wp2_with fail
                    go_meet
                    case rel => simp only [Bool.false_eq_true, if_false, HMN.out]; exact ⟨by trivial, hB3.set5 _, hR3.other (by show w.heap.size + 1 ≠ w.heap.size + 2; omega) _, hb3.setCell (by show w.heap.size ≤ w.heap.size + 1; omega) _⟩
              case rest =>
                clear hB3 hR3 hb3 c0 c1 c2 c3 c4 c5 c6 c7 c8 f0 f1 f2 f3 f4 f5 f6 f7 f8
                obtain ⟨wv, rfl⟩ : ∃ wv : World, wv = wc := ⟨_, rfl⟩
                obtain ⟨rfl, hB3, hR3, hb3⟩ := hcut
                have HXE : X2 = stVX i := by rw [hX2, hX1]; unfold stVX; cases bitR i <;> cases bitL i <;> rfl
                have HAE : A2 = stAim i k6 := by rw [hA2, hA1]; unfold stAim; cases bitR i <;> cases bitL i <;> rfl
                have HVE : (if SJ = true then -9 else min (k5 + 1) 8) = stVY l i ⟨0, k1, k2, k3, k4, k5, k6, k7, k8⟩ := by rw [← hSJ]; unfold stVY; simp only [Bool.and_eq_true]
                obtain ⟨V, hV⟩ : ∃ V : Int, (if SJ = true then -9 else min (k5 + 1) 8) = V := ⟨_, rfl⟩
                rw [hV] at HVE hB3
                have HNA : Hid (stFire i k8 = true → steerU l ⟨0, k1, k2, k3, k4, k5, k6, k7, k8⟩ i = (⟨0, k1, k2, k3, X2, V, A2, k7, 12⟩, true)) := Lib.hid fun hf => by unfold steerU; simp only [hf, if_true]; rw [HXE, HAE, HVE]
                have HNB : Hid (stFire i k8 = false → steerU l ⟨0, k1, k2, k3, k4, k5, k6, k7, k8⟩ i = (⟨0, k1, k2, k3, X2, V, A2, k7, stT k8⟩, false)) := Lib.hid fun hf => by unfold steerU; simp only [hf, Bool.false_eq_true, if_false]; rw [HXE, HAE, HVE]
                have HFD : Hid (stFire i k8 = (bitF i && decide (stT k8 = 0))) := Lib.hid rfl
                clear hX1 hX2 hA1 hA2 hSJ hV HXE HAE HVE
                obtain ⟨T, hT⟩ : ∃ T : Int, stT k8 = T := ⟨_, rfl⟩
                rw [hT] at HNB hB3 HFD
                clear hT
                have b8 := bits8 hi
                obtain ⟨_, c0, c1, c2, c3, c4, c5, c6, c7, c8, f0, f1, f2, f3, f4, f5, f6, f7, f8⟩ := id hB3
                simp only at c0 c1 c2 c3 c4 c5 c6 c7 c8
                by_cases hF : bitF i = true ∧ T = 0
                · have HN := Lib.hid (HNA.out (by rw [HFD.out, hF.1, hF.2]; rfl))
                  rw [if_pos hF.1] at b8
                  obtain ⟨_, h0⟩ := hF
                  go_upto_region 21 with (fail)
                  have hB4 := hB3.set8 12
                  have hR4 := hR3.other (p := ⟨w.heap.size + 1, 8, none⟩) (by show w.heap.size + 1 ≠ w.heap.size + 2; omega) (.int .i64 12)
                  have hb4 := hb3.setCell (p := ⟨w.heap.size + 1, 8, none⟩) (by show w.heap.size ≤ w.heap.size + 1; omega) (.int .i64 12)
                  generalize hwn : World.setCell wv _ _ = wy
                  rw [hwn] at hB4 hR4 hb4
                  clear hwn hB3 hR3 hb3 c0 c1 c2 c3 c4 c5 c6 c7 c8 f0 f1 f2 f3 f4 f5 f6 f7 f8
                  obtain ⟨_, c0, c1, c2, c3, c4, c5, c6, c7, c8, f0, f1, f2, f3, f4, f5, f6, f7, f8⟩ := id hB4
                  simp only at c0 c1 c2 c3 c4 c5 c6 c7 c8
                  have hRt : wy.there (w.heap.size + 1 + 1) 0 9 := hR4.there
                  have hBr : wy.rangeAt (w.heap.size + 1) 0 (Bd.cells ⟨0, k1, k2, k3, X2, V, A2, k7, 12⟩) := hB4.range
                  have hRs : (wy.setCells (w.heap.size + 1 + 1) 0 (Bd.cells ⟨0, k1, k2, k3, X2, V, A2, k7, 12⟩)).rangeAt (w.heap.size + 1 + 1) 0 (Bd.cells ⟨0, k1, k2, k3, X2, V, A2, k7, 12⟩) := (hR4.setAll ⟨0, k1, k2, k3, X2, V, A2, k7, 12⟩).range
                  have hbs := setCells_below (o := 0) (vs := Bd.cells ⟨0, k1, k2, k3, X2, V, A2, k7, 12⟩) hb4 (show w.heap.size ≤ w.heap.size + 1 + 1 by omega)
                  clear c0 c1 c2 c3 c4 c5 c6 c7 c8 f0 f1 f2 f3 f4 f5 f6 f7 f8
                  apply wp_region_lit
                  refine load_bod (op := ⟨some 99, _, _, _, _, _⟩) rfl _ rfl (w.heap.size + 1) 0 rfl ⟨0, k1, k2, k3, X2, V, A2, k7, 12⟩ hBr ?_
                  refine store_bod (op := ⟨none, _, _, _, _, _⟩) rfl _ _ rfl (w.heap.size + 1 + 1) 0 rfl ⟨0, k1, k2, k3, X2, V, A2, k7, 12⟩ rfl hRt ?_
                  generalize hwn : World.setCells _ _ _ _ = wn
                  rw [hwn] at hRs hbs
                  clear hwn
                  repeat go_step
                  refine bodyPost_ret (res_bod2 rfl rfl rfl hRs) rfl ?_
                  exact ⟨by rw [HST.out, HN.out], hbs⟩
                · have HN := Lib.hid (HNB.out (by rw [HFD.out]; cases hf : bitF i <;> simp_all))
                  by_cases hf : bitF i = true
                  · rw [if_pos hf] at b8
                    have h0 : T ≠ 0 := fun hh => hF ⟨hf, hh⟩
                    clear hF hf
                    go_upto_region 22 with (fail)
                    have hRt : wv.there (w.heap.size + 1 + 1) 0 9 := hR3.there
                    have hBr : wv.rangeAt (w.heap.size + 1) 0 (Bd.cells ⟨0, k1, k2, k3, X2, V, A2, k7, T⟩) := hB3.range
                    have hRs : (wv.setCells (w.heap.size + 1 + 1) 0 (Bd.cells ⟨0, k1, k2, k3, X2, V, A2, k7, T⟩)).rangeAt (w.heap.size + 1 + 1) 0 (Bd.cells ⟨0, k1, k2, k3, X2, V, A2, k7, T⟩) := (hR3.setAll ⟨0, k1, k2, k3, X2, V, A2, k7, T⟩).range
                    have hbs := setCells_below (o := 0) (vs := Bd.cells ⟨0, k1, k2, k3, X2, V, A2, k7, T⟩) hb3 (show w.heap.size ≤ w.heap.size + 1 + 1 by omega)
                    clear c0 c1 c2 c3 c4 c5 c6 c7 c8 f0 f1 f2 f3 f4 f5 f6 f7 f8
                    apply wp_region_lit
                    refine load_bod (op := ⟨some 100, _, _, _, _, _⟩) rfl _ rfl (w.heap.size + 1) 0 rfl ⟨0, k1, k2, k3, X2, V, A2, k7, T⟩ hBr ?_
                    refine store_bod (op := ⟨none, _, _, _, _, _⟩) rfl _ _ rfl (w.heap.size + 1 + 1) 0 rfl ⟨0, k1, k2, k3, X2, V, A2, k7, T⟩ rfl hRt ?_
                    generalize hwn : World.setCells _ _ _ _ = wn
                    rw [hwn] at hRs hbs
                    clear hwn
                    repeat go_step
                    refine bodyPost_ret (res_bod2 rfl rfl rfl hRs) rfl ?_
                    exact ⟨by rw [HST.out, HN.out], hbs⟩
                  · rw [if_neg hf] at b8
                    clear hF hf
                    go_upto_region 22 with (fail)
                    have hRt : wv.there (w.heap.size + 1 + 1) 0 9 := hR3.there
                    have hBr : wv.rangeAt (w.heap.size + 1) 0 (Bd.cells ⟨0, k1, k2, k3, X2, V, A2, k7, T⟩) := hB3.range
                    have hRs : (wv.setCells (w.heap.size + 1 + 1) 0 (Bd.cells ⟨0, k1, k2, k3, X2, V, A2, k7, T⟩)).rangeAt (w.heap.size + 1 + 1) 0 (Bd.cells ⟨0, k1, k2, k3, X2, V, A2, k7, T⟩) := (hR3.setAll ⟨0, k1, k2, k3, X2, V, A2, k7, T⟩).range
                    have hbs := setCells_below (o := 0) (vs := Bd.cells ⟨0, k1, k2, k3, X2, V, A2, k7, T⟩) hb3 (show w.heap.size ≤ w.heap.size + 1 + 1 by omega)
                    clear c0 c1 c2 c3 c4 c5 c6 c7 c8 f0 f1 f2 f3 f4 f5 f6 f7 f8
                    apply wp_region_lit
                    refine load_bod (op := ⟨some 100, _, _, _, _, _⟩) rfl _ rfl (w.heap.size + 1) 0 rfl ⟨0, k1, k2, k3, X2, V, A2, k7, T⟩ hBr ?_
                    refine store_bod (op := ⟨none, _, _, _, _, _⟩) rfl _ _ rfl (w.heap.size + 1 + 1) 0 rfl ⟨0, k1, k2, k3, X2, V, A2, k7, T⟩ rfl hRt ?_
                    generalize hwn : World.setCells _ _ _ _ = wn
                    rw [hwn] at hRs hbs
                    clear hwn
                    repeat go_step
                    refine bodyPost_ret (res_bod2 rfl rfl rfl hRs) rfl ?_
                    exact ⟨by rw [HST.out, HN.out], hbs⟩
end Go.Proofs.Ytkcknikaidbeoaa
