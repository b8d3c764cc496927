/- SteerPlayer, the reference's. -/
import Derived.Test.YtkcknikaidbeoaaSpi
import Derived.Test.YtkcknikaidbeoaaBos
namespace Go.Proofs.Ytkcknikaidbeoaa
open Go.RowKit

set_option maxRecDepth 100000 in
set_option maxHeartbeats 16000000 in
theorem steer_spec {u : Value} {l : List ByteArray} (b : Bd) (i : Int) (w : World) (h : At w 1 u l.length (l.map Value.string)) (hm : l.length ≤ 1048576) (hz : ∀ s ∈ l, s.size ≤ 1048576) :
    Calls Try.prog 52 #[.agg #[u], b.val, .int .i64 i] w fun e w' => e = .returned (.tuple #[(steerB l b i).1.val, .bool (steerB l b i).2]) ∧ Below w.heap.size w w' := by
  have HNO := Lib.hid (steerB_no (l := l) (b := b) (i := i))
  have HYES := Lib.hid (steerB_yes (l := l) (b := b) (i := i))
  have HPL := Lib.hid (okBd_pl2 (l := l) (b := b))
  have HBO : ∀ wx, Below w.heap.size w wx → b.owner ≤ 3 → Calls Try.prog 46 #[.agg #[u], .int .i64 (b.owner + 1), .agg #[.int .i64 b.kind, .int .i64 b.owner, .int .i64 b.x, .int .i64 b.y, .int .i64 b.vx, .int .i64 b.vy, .int .i64 b.aim, .int .i64 b.life, .int .i64 b.timer]] wx fun e w' => e = .returned (.bool (okBd l (b.owner + 1) b)) ∧ Below wx.heap.size wx w' := fun wx hx ho => bok_spec (b.owner + 1) b wx (h.below hx) hm hz (by omega)
  have HU : ∀ wx, Below w.heap.size w wx → (0 ≤ i ∧ i ≤ 15) → (0 ≤ b.timer ∧ b.timer ≤ 20) → b.kind = 0 → (-15 ≤ b.vy ∧ b.vy ≤ 15) → (0 ≤ b.y ∧ b.y ≤ 1000) → Calls Try.prog 106 #[.agg #[u], b.val, .int .i64 i] wx fun e w' => e = .returned (.tuple #[(steerU l b i).1.val, .bool (steerU l b i).2]) ∧ Below wx.heap.size wx w' := fun wx hx h1 h2 h3 h4 h5 => l02steer_ret b i wx (h.below hx) hm hz h1 h2 h3 h4 h5
  clear hz h
  go_enter Try.func52, Try.ntmps52
  go_upto_region 1 with (with_reducible refine box_bod (op := ⟨some 4, _, _, _, _, _⟩) rfl _ _ rfl b rfl ?_)
  generalize hw1 : ((w.alloc _).alloc _).alloc _ = w1
  have hb1 : Below w.heap.size w w1 := by rw [← hw1]; exact (((Below.refl _ _).alloc (Nat.le_refl _) _).alloc (by simp) _).alloc (by simp; omega) _
  have hL1 : w1.cell? ⟨w.heap.size, 0, none⟩ = some u := by rw [← hw1]; exact cell_alloc_lt (cell_alloc_lt (World.cell?_alloc_new w _ _ 0) _ (by simp)) _ (by simp; omega)
  have hB1 : Blk w1 (w.heap.size + 1) b := by
    rw [← hw1]
    have := (Blk.newB (w.alloc (.cells #[u] 27)) 56 b).alloc (.cells #[.int .i64 0, .int .i64 0, .int .i64 0, .int .i64 0, .int .i64 0, .int .i64 0, .int .i64 0, .int .i64 0, .int .i64 0] 56)
    rwa [show (w.alloc (.cells #[u] 27)).heap.size = w.heap.size + 1 by simp] at this
  have hR1 : Blk w1 (w.heap.size + 2) zB := by
    rw [← hw1]
    have := Blk.new ((w.alloc (.cells #[u] 27)).alloc (.cells b.cells.toArray 56)) 56 zB
    rwa [show ((w.alloc (.cells #[u] 27)).alloc (.cells b.cells.toArray 56)).heap.size = w.heap.size + 2 by simp] at this
  clear hw1
  obtain ⟨_, c0, c1, c2, c3, c4, c5, c6, c7, c8, _⟩ := id hB1
  go_wp2_with fail
  refine (in_any _ _ _ _).mono ?_
  rintro e wx ⟨rfl, rfl⟩
  cases how : inB b.owner 0 3 with
  | false =>
    have HN := Lib.hid (HNO.out fun e => by rw [inB_yes e.2.2.1.1 e.2.2.1.2] at how; cases how)
    clear how
    go_upto_region 2 with (fail)
    have hRt : w1.there (w.heap.size + 1 + 1) 0 9 := hR1.there
    have hBr : w1.rangeAt (w.heap.size + 1) 0 b.cells := hB1.range
    have hRs : (w1.setCells (w.heap.size + 1 + 1) 0 b.cells).rangeAt (w.heap.size + 1 + 1) 0 b.cells := (hR1.setAll b).range
    have hbs := setCells_below (o := 0) (vs := b.cells) hb1 (show w.heap.size ≤ w.heap.size + 1 + 1 by omega)
    apply wp_region_lit
    refine load_bod (op := ⟨some 38, _, _, _, _, _⟩) rfl _ rfl (w.heap.size + 1) 0 rfl b hBr ?_
    refine store_bod (op := ⟨none, _, _, _, _, _⟩) rfl _ _ rfl (w.heap.size + 1 + 1) 0 rfl b rfl hRt ?_
    generalize hwn : World.setCells _ _ _ _ = wn
    rw [hwn] at hRs hbs
    clear hwn
    repeat go_step
    refine bodyPost_ret (res_bod2 rfl rfl rfl hRs) rfl ?_
    exact ⟨by rw [HN.out], hbs⟩
  | true =>
  have ho := inB_iff.1 how
  clear how
  go_wp2_with fail
  refine (HBO _ hb1 ho.2).mono ?_
  rintro e wa ⟨rfl, ha⟩
  have hb2 := hb1.trans (ha.mono hb1.size)
  have hB2 := hB1.below ha hB1.lt
  have hR2 := hR1.below ha hR1.lt
  have hL2 : wa.cell? ⟨w.heap.size, 0, none⟩ = some u := (ha.cell (p := ⟨w.heap.size, 0, none⟩) (by have := hB1.lt; show w.heap.size < _; omega)).trans hL1
  clear hb1 hB1 hR1 hL1 ha c0 c1 c2 c3 c4 c5 c6 c7 c8 HBO
  obtain ⟨_, c0, c1, c2, c3, c4, c5, c6, c7, c8, _⟩ := id hB2
  cases hbo : okBd l (b.owner + 1) b with
  | false =>
    have HN := Lib.hid (HNO.out fun e => by have := e.2.2.2.2; rw [hbo] at this; cases this)
    clear hbo
    go_upto_region 2 with (fail)
    have hRt : wa.there (w.heap.size + 1 + 1) 0 9 := hR2.there
    have hBr : wa.rangeAt (w.heap.size + 1) 0 b.cells := hB2.range
    have hRs : (wa.setCells (w.heap.size + 1 + 1) 0 b.cells).rangeAt (w.heap.size + 1 + 1) 0 b.cells := (hR2.setAll b).range
    have hbs := setCells_below (o := 0) (vs := b.cells) hb2 (show w.heap.size ≤ w.heap.size + 1 + 1 by omega)
    apply wp_region_lit
    refine load_bod (op := ⟨some 38, _, _, _, _, _⟩) rfl _ rfl (w.heap.size + 1) 0 rfl b hBr ?_
    refine store_bod (op := ⟨none, _, _, _, _, _⟩) rfl _ _ rfl (w.heap.size + 1 + 1) 0 rfl b rfl hRt ?_
    generalize hwn : World.setCells _ _ _ _ = wn
    rw [hwn] at hRs hbs
    clear hwn
    repeat go_step
    refine bodyPost_ret (res_bod2 rfl rfl rfl hRs) rfl ?_
    exact ⟨by rw [HN.out], hbs⟩
  | true =>
  have HBK := Lib.hid hbo
  clear hbo
  by_cases hk : ¬ b.kind = 0
  · have HN := Lib.hid (HNO.out fun e => hk e.1)
    have x1 : (b.kind == 0) = false := beq_eq_false_iff_ne.2 hk
    go_upto_region 2 with (fail)
    have hRt : wa.there (w.heap.size + 1 + 1) 0 9 := hR2.there
    have hBr : wa.rangeAt (w.heap.size + 1) 0 b.cells := hB2.range
    have hRs : (wa.setCells (w.heap.size + 1 + 1) 0 b.cells).rangeAt (w.heap.size + 1 + 1) 0 b.cells := (hR2.setAll b).range
    have hbs := setCells_below (o := 0) (vs := b.cells) hb2 (show w.heap.size ≤ w.heap.size + 1 + 1 by omega)
    apply wp_region_lit
    refine load_bod (op := ⟨some 38, _, _, _, _, _⟩) rfl _ rfl (w.heap.size + 1) 0 rfl b hBr ?_
    refine store_bod (op := ⟨none, _, _, _, _, _⟩) rfl _ _ rfl (w.heap.size + 1 + 1) 0 rfl b rfl hRt ?_
    generalize hwn : World.setCells _ _ _ _ = wn
    rw [hwn] at hRs hbs
    clear hwn
    repeat go_step
    refine bodyPost_ret (res_bod2 rfl rfl rfl hRs) rfl ?_
    exact ⟨by rw [HN.out], hbs⟩
  replace hk := Classical.not_not.1 hk
  have HK := Lib.hid hk
  by_cases hlf : b.life < 1
  · have HN := Lib.hid (HNO.out fun e => by have := e.2.1; omega)
    go_upto_region 2 with (fail)
    have hRt : wa.there (w.heap.size + 1 + 1) 0 9 := hR2.there
    have hBr : wa.rangeAt (w.heap.size + 1) 0 b.cells := hB2.range
    have hRs : (wa.setCells (w.heap.size + 1 + 1) 0 b.cells).rangeAt (w.heap.size + 1 + 1) 0 b.cells := (hR2.setAll b).range
    have hbs := setCells_below (o := 0) (vs := b.cells) hb2 (show w.heap.size ≤ w.heap.size + 1 + 1 by omega)
    apply wp_region_lit
    refine load_bod (op := ⟨some 38, _, _, _, _, _⟩) rfl _ rfl (w.heap.size + 1) 0 rfl b hBr ?_
    refine store_bod (op := ⟨none, _, _, _, _, _⟩) rfl _ _ rfl (w.heap.size + 1 + 1) 0 rfl b rfl hRt ?_
    generalize hwn : World.setCells _ _ _ _ = wn
    rw [hwn] at hRs hbs
    clear hwn
    repeat go_step
    refine bodyPost_ret (res_bod2 rfl rfl rfl hRs) rfl ?_
    exact ⟨by rw [HN.out], hbs⟩
  have x2 : decide (b.life < 1) = false := decide_eq_false hlf
  go_wp2_with fail
  refine (in_any _ _ _ _).mono ?_
  rintro e wx ⟨rfl, rfl⟩
  cases hin : inB i 0 15 with
  | false =>
    have HN := Lib.hid (HNO.out fun e => by rw [inB_yes e.2.2.2.1.1 e.2.2.2.1.2] at hin; cases hin)
    clear hin
    go_upto_region 2 with (fail)
    have hRt : wa.there (w.heap.size + 1 + 1) 0 9 := hR2.there
    have hBr : wa.rangeAt (w.heap.size + 1) 0 b.cells := hB2.range
    have hRs : (wa.setCells (w.heap.size + 1 + 1) 0 b.cells).rangeAt (w.heap.size + 1 + 1) 0 b.cells := (hR2.setAll b).range
    have hbs := setCells_below (o := 0) (vs := b.cells) hb2 (show w.heap.size ≤ w.heap.size + 1 + 1 by omega)
    apply wp_region_lit
    refine load_bod (op := ⟨some 38, _, _, _, _, _⟩) rfl _ rfl (w.heap.size + 1) 0 rfl b hBr ?_
    refine store_bod (op := ⟨none, _, _, _, _, _⟩) rfl _ _ rfl (w.heap.size + 1 + 1) 0 rfl b rfl hRt ?_
    generalize hwn : World.setCells _ _ _ _ = wn
    rw [hwn] at hRs hbs
    clear hwn
    repeat go_step
    refine bodyPost_ret (res_bod2 rfl rfl rfl hRs) rfl ?_
    exact ⟨by rw [HN.out], hbs⟩
  | true =>
  have hi := inB_iff.1 hin
  have HST := Lib.hid (HYES.out ⟨HK.out, by omega, ho, hi, HBK.out⟩)
  obtain ⟨ht, hy, hx⟩ := HPL.out HBK.out HK.out ho.1
  clear hin c0 c1 c2 c3 c4 c5 c6 c7 c8 x2 hk hlf
  have hBr : wa.rangeAt (w.heap.size + 1) 0 b.cells := hB2.range
  go_wp2_with (with_reducible refine load_bod (op := ⟨some 41, _, _, _, _, _⟩) rfl _ rfl (w.heap.size + 1) 0 rfl b hBr ?_)
  refine (HU _ hb2 hi ht HK.out hy hx).mono ?_
  rintro e wq ⟨rfl, hq⟩
  obtain ⟨R, ST, hR⟩ : ∃ R ST, steerU l b i = (R, ST) := ⟨_, _, rfl⟩
  have HE := Lib.hid (HST.out.trans hR)
  rw [hR]
  have hb3 := hb2.trans (hq.mono hb2.size)
  have hR3 := hR2.below hq hR2.lt
  clear hq hb2 hB2 hR2 hL2 hBr hR HST HU HPL HYES HNO
  have hz3 := hb3.size
  have hqz := newB hb3 hz3 56 R
  go_upto_region 4 with (with_reducible refine store_bod (op := ⟨none, _, _, _, _, _⟩) rfl _ _ rfl wq.heap.size 0 rfl R rfl (zthere _ _) ?_)
  generalize hwn : World.setCells (World.alloc wq _) _ _ _ = wn
  rw [hwn] at hqz
  obtain ⟨hBn, hbn, hkn⟩ := hqz
  have hRn := hR3.below hkn hR3.lt
  clear hwn hkn hb3 hR3
  have hRt : wn.there (w.heap.size + 1 + 1) 0 9 := hRn.there
  have hBr : wn.rangeAt wq.heap.size 0 R.cells := hBn.range
  have hRs : (wn.setCells (w.heap.size + 1 + 1) 0 R.cells).rangeAt (w.heap.size + 1 + 1) 0 R.cells := (hRn.setAll R).range
  have hbs := setCells_below (o := 0) (vs := R.cells) hbn (show w.heap.size ≤ w.heap.size + 1 + 1 by omega)
  apply wp_region_lit
  refine load_bod (op := ⟨some 46, _, _, _, _, _⟩) rfl _ rfl wq.heap.size 0 rfl R hBr ?_
  go_step
  go_step
  go_step
  refine store_bod (op := ⟨none, _, _, _, _, _⟩) rfl _ _ rfl (w.heap.size + 1 + 1) 0 rfl R rfl hRt ?_
  generalize hwn : World.setCells _ _ _ _ = wz
  rw [hwn] at hRs hbs
  clear hwn
  repeat go_step
  refine bodyPost_ret (res_bod2 rfl rfl rfl hRs) rfl ?_
  exact ⟨by rw [HE.out], hbs⟩
end Go.Proofs.Ytkcknikaidbeoaa
