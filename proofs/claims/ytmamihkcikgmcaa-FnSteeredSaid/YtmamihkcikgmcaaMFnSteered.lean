/- For every input the law FnSteered returns true and leaves what was in memory as it was. No condition. -/
import Derived.Test.YtmamihkcikgmcaaKX
import Derived.Test.YtmamihkcikgmcaaKS
import Derived.Test.YtmamihkcikgmcaaKN
import Derived.Test.YtmamihkcikgmcaaKK
import Derived.Test.YtmamihkcikgmcaaKY
import Derived.Test.YtmamihkcikgmcaaKL
import Derived.Test.YtmamihkcikgmcaaKA
import Derived.Deep.RegionWith
import Derived.Deep.DeepCutAuto
import Derived.Deep.CutRange
import Derived.Test.YtmamihkcikgmcaaOrd
namespace Go.Proofs.Ytmamihkcikgmcaa.fnSteered
open Go.ChangeShapes Go.WideShapes Go.ChangeAt Go.RowKit
open Go.ChangeMaps (open_string shut_string)
set_option linter.unusedVariables false

theorem and12 {a : Int} (h : 0 ≤ a ∧ a < 16) : bits .and .i64 a 12 = 0 ∨ bits .and .i64 a 12 = 4 ∨ bits .and .i64 a 12 = 8 ∨ bits .and .i64 a 12 = 12 := by
  obtain ⟨h0, h1⟩ := h
  rcases (show a = 0 ∨ a = 1 ∨ a = 2 ∨ a = 3 ∨ a = 4 ∨ a = 5 ∨ a = 6 ∨ a = 7 ∨ a = 8 ∨ a = 9 ∨ a = 10 ∨ a = 11 ∨ a = 12 ∨ a = 13 ∨ a = 14 ∨ a = 15 by omega) with rfl | rfl | rfl | rfl | rfl | rfl | rfl | rfl | rfl | rfl | rfl | rfl | rfl | rfl | rfl | rfl <;> decide
theorem ors {i : Int} (h : i = 0 ∨ i = 4 ∨ i = 8 ∨ i = 12) : bits .or .i64 i 1 = i + 1 ∧ bits .or .i64 (i + 1) 2 = i + 3 ∧ bits .or .i64 i 2 = i + 2 := by
  rcases h with rfl | rfl | rfl | rfl <;> decide
theorem steer_facts (l : List ByteArray) (b : Bd) {i : Int} (h : i = 0 ∨ i = 4 ∨ i = 8 ∨ i = 12) :
    steerU l b (i + 3) = steerU l b i ∧ (steerU l b (i + 1)).2 = (steerU l b i).2 ∧ (steerU l b (i + 2)).2 = (steerU l b i).2 ∧ (steerU l b (i + 1)).1.vx = -3 ∧ (steerU l b (i + 2)).1.vx = 3 ∧ (steerU l b (i + 1)).1.vy = (steerU l b (i + 2)).1.vy ∧ (steerU l b (i + 1)).1.aim = -1 := by
  rcases h with rfl | rfl | rfl | rfl
  all_goals refine ⟨?_, ?_, ?_, ?_, ?_, ?_, ?_⟩
  all_goals simp [steerU, stVX, stAim, stVY, stFire, bitL, bitR, bitJ, bitF]
theorem steer_same (l : List ByteArray) (b : Bd) (i : Int) : (steerU l b i).1.kind = b.kind ∧ (steerU l b i).1.owner = b.owner ∧ (steerU l b i).1.x = b.x ∧ (steerU l b i).1.y = b.y := ⟨rfl, rfl, rfl, rfl⟩
theorem shot_facts {b : Bd} (hx : 0 ≤ b.x ∧ b.x ≤ 320) (hy : 0 ≤ b.y ∧ b.y ≤ 320) (ha : b.aim = -1) (hk : b.kind = 0) : (shotB b).vx = -6 ∧ (shotB b).owner = b.owner ∧ meetB (shotB b) b = true := by
  have e : shotB b = ⟨1, b.owner, b.x + 4, b.y + 4, 6 * b.aim, 0, 0, 0, 25⟩ := if_pos ⟨by omega, by omega, by omega, by omega, by omega, by omega⟩
  rw [e]
  refine ⟨by show 6 * b.aim = -6; omega, rfl, ?_⟩
  unfold meetB meetT
  rw [decide_eq_true_eq, hk]
  show szOf 1 ≠ 0 ∧ szOf 0 ≠ 0 ∧ inR (b.x + 4) ∧ inR (b.y + 4) ∧ inR b.x ∧ inR b.y ∧ b.x + 4 < b.x + szOf 0 ∧ b.x < b.x + 4 + szOf 1 ∧ b.y + 4 < b.y + szOf 0 ∧ b.y < b.y + 4 + szOf 1
  rw [szOf_0, szOf_1]
  unfold inR
  omega
theorem eql_bod (w : World) (b : Bd) : (binOp .eql 42 b.val b.val).run Try.prog w = .ok (.bool true) w := by
  obtain ⟨k0, k1, k2, k3, k4, k5, k6, k7, k8⟩ := b
  show (binOp .eql 42 (.agg #[.int .i64 k0, .int .i64 k1, .int .i64 k2, .int .i64 k3, .int .i64 k4, .int .i64 k5, .int .i64 k6, .int .i64 k7, .int .i64 k8]) (.agg #[.int .i64 k0, .int .i64 k1, .int .i64 k2, .int .i64 k3, .int .i64 k4, .int .i64 k5, .int .i64 k6, .int .i64 k7, .int .i64 k8])).run Try.prog w = _
  go_simp
theorem eqg_bod (w : World) (o1 o2 : Operand) (b : Bd) : (eqGuard .eql 42 o1 o2 b.val b.val).run Try.prog w = .ok () w := by
  obtain ⟨k0, k1, k2, k3, k4, k5, k6, k7, k8⟩ := b
  show (eqGuard .eql 42 o1 o2 (.agg #[.int .i64 k0, .int .i64 k1, .int .i64 k2, .int .i64 k3, .int .i64 k4, .int .i64 k5, .int .i64 k6, .int .i64 k7, .int .i64 k8]) (.agg #[.int .i64 k0, .int .i64 k1, .int .i64 k2, .int .i64 k3, .int .i64 k4, .int .i64 k5, .int .i64 k6, .int .i64 k7, .int .i64 k8])).run Try.prog w = _
  go_simp
set_option maxRecDepth 100000 in
set_option maxHeartbeats 16000000 in
theorem walk (w : World) (a0 : Value) (w0 : Arg_u8s w a0) :
    Calls Try.prog 6 #[a0] w fun e w' => e = .returned (.bool true) ∧ Below w.heap.size w w' := by
  obtain ⟨l, hat, hwf⟩ := w0
  by_cases hbig : (1048576 : Int) < (l.length : Int)
  · obtain ⟨ao, cap, rfl, _⟩ := hat.cell
    go_enter Try.func6, Try.ntmps6
    go_wp2
    go_ret
    exact ⟨rfl, Below.refl _ _⟩
  have hm : l.length ≤ 1048576 := by omega
  have hd : Code8 w a0 l := ⟨hat, hwf, hm⟩
  obtain ⟨ao, cap, rfl, _⟩ := hat.cell
  go_enter Try.func6, Try.ntmps6
  go_wp2_with fail
  refine (big_no _ _ _ _ (by omega)).mono ?_
  rintro e w' ⟨rfl, rfl⟩
  generalize Value.slice ao l.length cap = cv at *
  go_wp2_with fail
  refine (play_ret w hd).mono ?_
  rintro e w1 ⟨x, xs, xb, rv, us, X, L, r, n, s, rfl, hD, hO, hL, hb⟩
  have hpl := hb.size
  have hne : x.ownBlock ≠ some w1.heap.size ∧ xs.ownBlock ≠ some w1.heap.size ∧ xb.ownBlock ≠ some w1.heap.size := ⟨fun e => by have := (hO.r.ge _ e).2; omega, fun e => by have := (hO.s.ge _ e).2; omega, fun e => by have := (hO.b.ge _ e).2; omega⟩
  have o1 := slice_one hO.at_.r
  have o2 := slice_one hO.at_.s
  have o3 := slice_one hO.at_.b
  go_upto_region 4 with (with_reducible refine store_wld (op := ⟨none, _, _, _, _, _⟩) rfl _ _ rfl w1.heap.size rfl x X.tick X.seed xs xb rfl (zwthere _ _) o1 o2 o3 ?_)
  have hq := newW5 hb hb.size 36 x X.tick X.seed xs xb
  generalize hwn : World.setCells (World.alloc w1 _) _ _ _ = w2
  rw [hwn] at hq
  obtain ⟨hG, hb', hk⟩ := hq
  replace hb := hb'
  replace hL := hL.below hk
  replace hO := hO.below hk
  clear hwn hk hb' o1 o2 o3
  have hX := hD.wok
  have hcn := hD.cnt
  have hrw := hD.rows
  have HRW := runworld_spec w2 hO.at_ (wok_small hX) (wok_bwf hX) hL hD.small
  have hYY := runT_ok L hX
  obtain ⟨Y, hYe⟩ : ∃ Y, runT X L = Y := ⟨_, rfl⟩
  rw [hYe] at HRW hYY
  obtain ⟨hY, hYn, hYr⟩ := hYY
  clear hYe
  apply wp_region_lit
  refine load_wld (op := ⟨some 23, _, _, _, _, _⟩) rfl _ rfl w1.heap.size rfl x X.tick X.seed xs xb hG.range ?_
  iterate 3 go_step
  refine wpList_callC rfl 20 _ _ rfl Try.func20 (by kernel_rfl) (by kernel_rfl) #[.agg #[x, .int .i64 X.tick, .int .i64 X.seed, xs, xb], rv] (by kernel_rfl) HRW ?_
  rintro e w3 ⟨y, ys, yb, rfl, hO3, hk⟩
  refine ⟨_, rfl, ?_⟩
  have hb3 := hb.trans (hk.mono hb.size)
  have hG3 := hG.below hk hG.lt
  have hGl := hG.lt
  have hOl := hO3.ge
  have o1 := slice_one hO3.at_.r
  have o2 := slice_one hO3.at_.s
  have o3 := slice_one hO3.at_.b
  simp only [Act.put, List.setIfInBounds_toArray, List.set_cons_zero, List.set_cons_succ]
  refine store_wld (op := ⟨none, _, _, _, _, _⟩) rfl _ _ rfl w1.heap.size rfl y Y.tick Y.seed ys yb rfl hG3.there o1 o2 o3 ?_
  have hq := And.intro (hG3.setAll (u' := y) (us' := ys) (ub' := yb) (tk' := Y.tick) (sd' := Y.seed)) (setCells_grown w3 w1.heap.size 0 (wcells y Y.tick Y.seed ys yb))
  generalize World.setCells w3 _ _ _ = w4 at hq
  obtain ⟨hG4, hgr⟩ := hq
  have hbs := hb.size
  have hOY := (hO3.tch (S := fun i => i = w1.heap.size) (Tch.of_grown1 hgr rfl) (fun i hi e => by have := hOl i hi; omega)).mono (B' := w.heap.size) (by omega)
  have hH : Hd w4 w.heap.size w1.heap.size y ys yb Y := ⟨hG4, hOY, (fun e => by have := hOl _ (.inl e); omega), (fun e => by have := hOl _ (.inr (.inl e)); omega), (fun e => by have := hOl _ (.inr (.inr e)); omega), hpl⟩
  have hb4 : Below w.heap.size w w4 := hb3.grown hgr (by have := hk.size; omega) (fun k h => by simp only [Option.some.injEq] at h; omega)
  clear HRW hO3 hk hb3 hG3 o1 o2 o3 hG4 hgr hOY hOl hbs hGl hb hG hL hO hX
  generalize w1.heap.size = G at *
  have hYl := hY.lv
  obtain ⟨hl12, hl20⟩ := lv_sizes hYl
  have hpl0 := hY.bods.pl 0 (by have := hY.n.1; omega)
  have hmem : 0 < Y.bodies.length := by have := hY.bods.le; have := hY.n.1; omega
  have hwf0 := wok_bwf hY (bAt Y.bodies 0) (by rw [bAt_eq hmem]; exact List.getElem_mem _)
  obtain ⟨b, hbe⟩ : ∃ b, bAt Y.bodies 0 = b := ⟨_, rfl⟩
  obtain ⟨g, cp, rfl, hgw⟩ := hH.formB hmem
  have hE0 := (hH.elemAt hmem).range
  rw [hbe] at hpl0 hwf0 hE0
  rw [Nat.zero_mul] at hE0
  have hOB : ∀ i, 1 ≤ b.life → 0 ≤ i ∧ i ≤ 15 → steerB Y.rows b i = steerU Y.rows b i := fun i h1 hi => by
    refine if_pos ?_
    have hok := pl_okBd (n := 1) hYl hpl0 (by omega)
    have ho := hpl0.owner
    unfold steerOk
    rw [decide_eq_true hpl0.kind, decide_eq_true h1, decide_eq_true (by omega), decide_eq_true hi, show b.owner + 1 = 1 by rw [ho]; rfl]
    exact hok
  have HST : ∀ (i : Int) (wx : World), (1 ≤ b.life ∧ 0 ≤ i ∧ i ≤ 15) → At wx 1 y Y.rows.length (Y.rows.map Value.string) → Calls Try.prog 31 #[.agg #[y], b.val, .int .i64 i] wx fun e w' => e = .returned (.tuple #[(steerU Y.rows b i).1.val, .bool (steerU Y.rows b i).2]) ∧ Below wx.heap.size wx w' := fun i wx hi hz => by
    have h := steer_impl b i wx hz (by omega) (fun t ht => by have := hl20 t ht; omega) hwf0
    rw [hOB i hi.1 hi.2] at h
    exact h
  have hfree := free_bd (lvT_lv hYl) (by omega) (by omega) hpl0.free
  have hlife := hpl0.life
  have hkind := hpl0.kind
  have c4 := hH.blk.c4
  clear hbe hl12 hl20 hOB hY hD hcn hrw hYn hYr hd hpl0 hwf0
  go_upto_region 6 with (first | (with_reducible refine load_bod (op := ⟨some 29, _, _, _, _, _⟩) rfl _ rfl g 0 rfl b hE0 ?_) | (with_reducible refine store_bod (op := ⟨none, _, _, _, _, _⟩) rfl _ _ rfl w4.heap.size 0 rfl b rfl (zthere _ _) ?_))
  have hq := newB (Below.refl w4.heap.size w4) (Nat.le_refl _) 42 b
  generalize hwn : World.setCells (World.alloc w4 _) _ _ _ = w5
  rw [hwn] at hq
  obtain ⟨h5, _, hk⟩ := hq
  have hb := hb4.trans (hk.mono hb4.size)
  replace hH := hH.below hk
  clear hwn hk hb4 hE0 c4
  generalize w4.heap.size = p5 at *
  have hE := h5.range
  have c7 := h5.c7
  have cl := hH.blk.c0
  by_cases hl0 : b.life = 0
  · rw [hl0] at c7
    go_wp2_with fail
    go_ret
    exact ⟨rfl, hb⟩
  have x1 : (b.life == 0) = false := beq_eq_false_iff_ne.2 hl0
  have hl1 : 1 ≤ b.life := by omega
  go_upto_region 8 with (fail)
  clear c7 x1
  go_wp2_with fail
  refine (at_ret cv l 0 _ (hat.below hb) (by omega) (by omega) hm hwf).mono ?_
  rintro e w' ⟨rfl, rfl⟩
  have hA := atV_bd hwf 0
  generalize atV l 0 = A at *
  have hi4 := and12 (a := A % 16) (by omega)
  go_upto_region 9 with (fail)
  generalize bits .and .i64 (A % 16) 12 = i0 at *
  obtain ⟨or1, or2, or3⟩ := ors hi4
  clear hA
  go_wp2_with (with_reducible refine load_bod (op := ⟨some 40, _, _, _, _, _⟩) rfl _ rfl p5 0 rfl b hE ?_)
  refine (HST (i0 + 3) _ (by omega) hH.own.at_.r).mono ?_
  rintro e wa ⟨rfl, hk⟩
  replace hb := hb.trans (hk.mono hb.size)
  replace hH := hH.below hk
  replace h5 := h5.below hk h5.lt
  replace hE := h5.range
  replace cl := hH.blk.c0
  clear hk
  go_upto_region 10 with (with_reducible refine store_bod (op := ⟨none, _, _, _, _, _⟩) rfl _ _ rfl wa.heap.size 0 rfl (steerU Y.rows b (i0 + 3)).1 rfl (zthere _ _) ?_)
  have hq := newB (Below.refl wa.heap.size wa) (Nat.le_refl _) 42 (steerU Y.rows b (i0 + 3)).1
  generalize hwn : World.setCells (World.alloc wa _) _ _ _ = wb
  rw [hwn] at hq
  obtain ⟨h7, _, hk⟩ := hq
  replace hb := hb.trans (hk.mono hb.size)
  replace hH := hH.below hk
  replace h5 := h5.below hk h5.lt
  replace hE := h5.range
  replace cl := hH.blk.c0
  clear hwn hk
  generalize wa.heap.size = p7 at *
  go_wp2_with (with_reducible refine load_bod (op := ⟨some 50, _, _, _, _, _⟩) rfl _ rfl p5 0 rfl b hE ?_)
  refine (HST i0 _ (by omega) hH.own.at_.r).mono ?_
  rintro e wc ⟨rfl, hk⟩
  replace hb := hb.trans (hk.mono hb.size)
  replace hH := hH.below hk
  replace h5 := h5.below hk h5.lt
  replace hE := h5.range
  replace cl := hH.blk.c0
  replace h7 := h7.below hk h7.lt
  clear hk
  go_upto_region 11 with (with_reducible refine store_bod (op := ⟨none, _, _, _, _, _⟩) rfl _ _ rfl wc.heap.size 0 rfl (steerU Y.rows b i0).1 rfl (zthere _ _) ?_)
  have hq := newB (Below.refl wc.heap.size wc) (Nat.le_refl _) 42 (steerU Y.rows b i0).1
  generalize hwn : World.setCells (World.alloc wc _) _ _ _ = wd
  rw [hwn] at hq
  obtain ⟨h9, _, hk⟩ := hq
  replace hb := hb.trans (hk.mono hb.size)
  replace hH := hH.below hk
  replace h5 := h5.below hk h5.lt
  replace hE := h5.range
  replace cl := hH.blk.c0
  replace h7 := h7.below hk h7.lt
  clear hwn hk
  generalize wc.heap.size = p9 at *
  go_wp2_with (with_reducible refine load_bod (op := ⟨some 58, _, _, _, _, _⟩) rfl _ rfl p5 0 rfl b hE ?_)
  refine (HST (i0 + 1) _ (by omega) hH.own.at_.r).mono ?_
  rintro e we ⟨rfl, hk⟩
  replace hb := hb.trans (hk.mono hb.size)
  replace hH := hH.below hk
  replace h5 := h5.below hk h5.lt
  replace hE := h5.range
  replace cl := hH.blk.c0
  replace h7 := h7.below hk h7.lt
  replace h9 := h9.below hk h9.lt
  clear hk
  go_upto_region 12 with (with_reducible refine store_bod (op := ⟨none, _, _, _, _, _⟩) rfl _ _ rfl we.heap.size 0 rfl (steerU Y.rows b (i0 + 1)).1 rfl (zthere _ _) ?_)
  have hq := newB (Below.refl we.heap.size we) (Nat.le_refl _) 42 (steerU Y.rows b (i0 + 1)).1
  generalize hwn : World.setCells (World.alloc we _) _ _ _ = wf
  rw [hwn] at hq
  obtain ⟨h11, _, hk⟩ := hq
  replace hb := hb.trans (hk.mono hb.size)
  replace hH := hH.below hk
  replace h5 := h5.below hk h5.lt
  replace hE := h5.range
  replace cl := hH.blk.c0
  replace h7 := h7.below hk h7.lt
  replace h9 := h9.below hk h9.lt
  clear hwn hk
  generalize we.heap.size = p11 at *
  go_wp2_with (with_reducible refine load_bod (op := ⟨some 67, _, _, _, _, _⟩) rfl _ rfl p5 0 rfl b hE ?_)
  refine (HST (i0 + 2) _ (by omega) hH.own.at_.r).mono ?_
  rintro e wg ⟨rfl, hk⟩
  replace hb := hb.trans (hk.mono hb.size)
  replace hH := hH.below hk
  replace h5 := h5.below hk h5.lt
  replace hE := h5.range
  replace cl := hH.blk.c0
  replace h7 := h7.below hk h7.lt
  replace h9 := h9.below hk h9.lt
  replace h11 := h11.below hk h11.lt
  clear hk
  go_upto_region 13 with (with_reducible refine store_bod (op := ⟨none, _, _, _, _, _⟩) rfl _ _ rfl wg.heap.size 0 rfl (steerU Y.rows b (i0 + 2)).1 rfl (zthere _ _) ?_)
  have hq := newB (Below.refl wg.heap.size wg) (Nat.le_refl _) 42 (steerU Y.rows b (i0 + 2)).1
  generalize hwn : World.setCells (World.alloc wg _) _ _ _ = wh
  rw [hwn] at hq
  obtain ⟨h13, _, hk⟩ := hq
  replace hb := hb.trans (hk.mono hb.size)
  replace hH := hH.below hk
  replace h5 := h5.below hk h5.lt
  replace hE := h5.range
  replace cl := hH.blk.c0
  replace h7 := h7.below hk h7.lt
  replace h9 := h9.below hk h9.lt
  replace h11 := h11.below hk h11.lt
  clear hwn hk
  generalize wg.heap.size = p13 at *
  obtain ⟨f1, f2, f3, f4, f5, f6, f7⟩ := steer_facts Y.rows b hi4
  obtain ⟨s1, s2, s3, s4⟩ := steer_same Y.rows b (i0 + 1)
  clear or1 or2 or3 HST
  rw [f1] at h7 ⊢
  rw [f2, f3]
  clear f1 f2 f3 hi4
  obtain ⟨fi, hfi⟩ : ∃ q, (steerU Y.rows b i0).2 = q := ⟨_, rfl⟩
  rw [hfi]
  clear hfi
  generalize (steerU Y.rows b i0).1 = bA at *
  generalize (steerU Y.rows b (i0 + 1)).1 = bL at *
  generalize (steerU Y.rows b (i0 + 2)).1 = bR at *
  obtain ⟨m1, m2, m3⟩ := shot_facts (b := bL) (by omega) (by omega) f7 (by omega)
  have hE11 := h11.range
  clear cl hE
  go_wp2_with (with_reducible refine load_bod (op := ⟨some 73, _, _, _, _, _⟩) rfl _ rfl p11 0 rfl bL hE11 ?_)
  refine (shotV_impl bL _).mono ?_
  rintro e wi ⟨rfl, hk⟩
  replace hb := hb.trans (hk.mono hb.size)
  replace h5 := h5.below hk h5.lt
  replace h7 := h7.below hk h7.lt
  replace h9 := h9.below hk h9.lt
  replace h11 := h11.below hk h11.lt
  replace h13 := h13.below hk h13.lt
  clear hk hE11 hH
  obtain ⟨bS, hbS⟩ : ∃ q, shotB bL = q := ⟨_, rfl⟩
  rw [hbS] at m1 m2 m3 ⊢
  clear hbS
  go_upto_region 14 with (with_reducible refine store_bod (op := ⟨none, _, _, _, _, _⟩) rfl _ _ rfl wi.heap.size 0 rfl bS rfl (zthere _ _) ?_)
  have hq := newB (Below.refl wi.heap.size wi) (Nat.le_refl _) 42 bS
  generalize hwn : World.setCells (World.alloc wi _) _ _ _ = wj
  rw [hwn] at hq
  obtain ⟨h15, _, hk⟩ := hq
  replace hb := hb.trans (hk.mono hb.size)
  replace h5 := h5.below hk h5.lt
  replace h7 := h7.below hk h7.lt
  replace h9 := h9.below hk h9.lt
  replace h11 := h11.below hk h11.lt
  replace h13 := h13.below hk h13.lt
  clear hwn hk
  generalize wi.heap.size = p15 at *
  have q42 := fun w => eql_bod w bA
  have q43 := fun w o1 o2 => eqg_bod w o1 o2 bA
  have r7 := h7.range
  have r9 := h9.range
  have HMT := meetV_impl bS bL wj
  rw [m3] at HMT
  obtain ⟨_, a0, a1, a2, a3, a4, a5, a6, a7, a8, _⟩ := id h11
  obtain ⟨_, b0, b1, b2, b3, b4, b5, b6, b7, b8, _⟩ := id h15
  have d4 := h13.c4
  have d5 := h13.c5
  have e1 := h5.c1
  rw [f5] at d4
  rw [← f6] at d5
  rw [← s2, ← m2] at e1
  clear h5 h7 h9 h11 h13 h15 f5 f6 s1 s2 s3 s4 m2 m3 hfree hlife hkind hl0 hl1
  have EL := Lib.hid f4
  have EA := Lib.hid f7
  have ES := Lib.hid m1
  rw [f4] at a4
  rw [f7] at a6
  rw [m1] at b4
  clear f4 f7 m1
  go_wp2_with (first | (with_reducible refine load_bod (op := ⟨some 75, _, _, _, _, _⟩) rfl _ rfl p7 0 rfl bA r7 ?_) | (with_reducible refine load_bod (op := ⟨some 76, _, _, _, _, _⟩) rfl _ rfl p9 0 rfl bA r9 ?_))
  have HB1 : bS.val = .agg #[.int .i64 bS.kind, .int .i64 bS.owner, .int .i64 bS.x, .int .i64 bS.y, .int .i64 (-6), .int .i64 bS.vy, .int .i64 bS.aim, .int .i64 bS.life, .int .i64 bS.timer] := by rw [← ES.out]; rfl
  have HB2 : bL.val = .agg #[.int .i64 bL.kind, .int .i64 bL.owner, .int .i64 bL.x, .int .i64 bL.y, .int .i64 (-3), .int .i64 bL.vy, .int .i64 (-1), .int .i64 bL.life, .int .i64 bL.timer] := by rw [← EL.out, ← EA.out]; rfl
  rw [HB1, HB2] at HMT
  refine HMT.mono ?_
  rintro e wk ⟨rfl, hk⟩
  clear HB1 HB2 EL EA ES q42 q43 r7 r9 a0 a1 a2 a3 a4 a5 a6 a7 a8 b0 b1 b2 b3 b4 b5 b6 b7 b8 d4 d5 e1 HMT
  replace hb := hb.trans (hk.mono hb.size)
  go_wp2_with fail
  go_ret
  exact ⟨rfl, hb⟩

set_option maxRecDepth 100000 in
theorem lifted (os : Os) (started : os.Started) (H : Type) (enc : TypeId × Value → H) :
    ReturnsInHanded {} Try.checked os 6 .any (Rows.fnSteeredSpec.pre6 enc Try.prog Try.f6 Rows.fnSteeredRow.domain false) (Rows.fnSteeredSpec.post enc Try.prog Try.f6 false true false false) := by
  refine returnsInHanded_of_change (C := Try.checked) own_ started (by kernel_rfl) Try.func6
    (ChangeSpec.witness6 (enc := enc) (C := Try.checked) false ⟨#[], #[.slice none 0 0], []⟩ 8 (by kernel_rfl) (by kernel_rfl) (by kernel_rfl) (by kernel_rfl)) ?_
  intro W base args ds gs before hval0 hW hcnd _
  have hval : ∀ (j : Nat) t v, Try.f6.params[j]? = some t → args[j]? = some v → Value.okWide Try.prog W .any base t v := hval0
  have hW' := hW
  obtain ⟨p, q, hA0, hV, rfl, hfz, hnd⟩ := hW
  have hA : DataW.TrodAll enc Try.prog W 0 (fun _ => true) true Try.f6.params.toList args.toList ds p := hA0
  rw [Try.params6] at hA hval
  obtain ⟨v0, vs0, d0, ds0, p0, q0, hargs, rfl, rfl, h0, r0⟩ := trodAll_cons hA
  obtain ⟨rfl, rfl, rfl⟩ := trodAll_nil r0
  obtain rfl : args = #[v0] := by cases args; simp_all
  have w0 := open_u8s (hval 0 31 v0 rfl rfl) h0
  refine (walk W v0 w0).mono fun e W' ⟨he, hb⟩ => ?_
  subst he
  exact ⟨_, rfl, law_post laidOut (by kernel_rfl) rfl rfl Try.underlying4 (fun gs' h => by subst h; rfl) hW' hb⟩

theorem closed_ : joinedFacts Try.prog 6 Try.f6 Rows.fnSteeredSpec Rows.fnSteeredRow = true := by
  unfold joinedFacts
  rw [mayEnter_, liftsFinal_, make_, laidOut_, mapsRowed_, stopsHeard_]
  kernel_rfl

theorem proved : Rows.FnSteeredSaid :=
  OpenClaim.holds_of_wide 6 Try.f6 rfl rfl rfl rfl rfl rfl rfl ⟨rfl, rfl, rfl, rfl, rfl⟩ rfl rfl rfl rfl rfl (by kernel_rfl) Try.func6 closed_
    (of_decide_eq_true (by kernel_rfl)) (by unfold Func.isWrapper; first | (rw [if_pos (by decide +kernel)]; kernel_rfl) | (rw [if_neg (by decide +kernel)]; exact ⟨rfl, rfl⟩))
    (fun os started H enc _ => lifted os started H enc)
end Go.Proofs.Ytmamihkcikgmcaa.fnSteered
