/- For every input the law FnMoves returns true and leaves what was in memory as it was. No condition. -/
import Derived.Test.YtmamihkcikgmcaaKX
import Derived.Test.YtmamihkcikgmcaaKS
import Derived.Test.YtmamihkcikgmcaaKM
import Derived.Test.YtmamihkcikgmcaaKY
import Derived.Test.YtmamihkcikgmcaaKL
import Derived.Test.YtmamihkcikgmcaaKA
import Derived.Deep.RegionWith
import Derived.Deep.DeepCutAuto
import Derived.Deep.CutRange
import Derived.Test.YtmamihkcikgmcaaOrd
namespace Go.Proofs.Ytmamihkcikgmcaa.fnMoves
open Go.ChangeShapes Go.WideShapes Go.ChangeAt Go.RowKit
open Go.ChangeMaps (open_string shut_string)
set_option linter.unusedVariables false

theorem bd_free {Y : Wd} (h : WOk Y) {k : Nat} (hk : k < Y.bodies.length) : (0 ≤ (bAt Y.bodies k).kind ∧ (bAt Y.bodies k).kind ≤ 2) ∧ solT Y.rows (bAt Y.bodies k).x (bAt Y.bodies k).y (szOf (bAt Y.bodies k).kind) = false := by
  have hb := h.bods.any_at h.lv hk
  rw [← bAt_eq hk] at hb
  unfold okBd okB at hb
  simp only [Bool.and_eq_true, decide_eq_true_eq, Bool.not_eq_true'] at hb
  exact ⟨hb.2.1, hb.2.2.2.1⟩
theorem mod31 {a : Int} (h : 0 ≤ a ∧ a ≤ 255) : -15 ≤ a % 31 - 15 ∧ a % 31 - 15 ≤ 15 := by omega
theorem wrapz {x : Int} (h : -9223372036854775808 ≤ x ∧ x < 9223372036854775808) : IntKind.i64.wrap x = x := by
  simp [IntKind.wrap, IntKind.bits, IntKind.signed]; omega
set_option maxRecDepth 100000 in
set_option maxHeartbeats 16000000 in
theorem walk (w : World) (a0 : Value) (w0 : Arg_u8s w a0) :
    Calls Try.prog 4 #[a0] w fun e w' => e = .returned (.bool true) ∧ Below w.heap.size w w' := by
  obtain ⟨l, hat, hwf⟩ := w0
  by_cases hbig : (1048576 : Int) < (l.length : Int)
  · obtain ⟨ao, cap, rfl, _⟩ := hat.cell
    go_enter Try.func4, Try.ntmps4
    go_wp2
    go_ret
    exact ⟨rfl, Below.refl _ _⟩
  have hm : l.length ≤ 1048576 := by omega
  have hd : Code8 w a0 l := ⟨hat, hwf, hm⟩
  obtain ⟨ao, cap, rfl, _⟩ := hat.cell
  go_enter Try.func4, Try.ntmps4
  go_wp2_with fail
  refine (big_no _ _ _ _ (by omega)).mono ?_
  rintro e w' ⟨rfl, rfl⟩
  generalize Value.slice ao l.length cap = cv at *
  go_wp2_with fail
  refine (play_ret w hd).mono ?_
  rintro e w1 ⟨x, xs, xb, rv, us, X, L, r, n, s, rfl, hD, hO, hL, hb⟩
  have hpl := hb.size
  have o1 := slice_one hO.at_.r
  have o2 := slice_one hO.at_.s
  have o3 := slice_one hO.at_.b
  go_upto_region 4 with (with_reducible refine store_wld (op := ⟨none, _, _, _, _, _⟩) rfl _ _ rfl w1.heap.size rfl x X.tick X.seed xs xb rfl (zwthere _ _) o1 o2 o3 ?_)
  have hq := newW5 hb hb.size 36 x X.tick X.seed xs xb
  generalize hwn : World.setCells (World.alloc w1 _) _ _ _ = w2
  rw [hwn] at hq
  obtain ⟨hG, hb', hk⟩ := hq
  replace hb := hb'
  replace hL := hL.below hk
  replace hO := hO.below hk
  clear hwn hk hb' o1 o2 o3
  have hX := hD.wok
  have hcn := hD.cnt
  have hrw := hD.rows
  have HRW := runworld_spec w2 hO.at_ (wok_small hX) (wok_bwf hX) hL hD.small
  have hYY := runT_ok L hX
  obtain ⟨Y, hYe⟩ : ∃ Y, runT X L = Y := ⟨_, rfl⟩
  rw [hYe] at HRW hYY
  obtain ⟨hY, hYn, hYr⟩ := hYY
  clear hYe
  apply wp_region_lit
  refine load_wld (op := ⟨some 18, _, _, _, _, _⟩) rfl _ rfl w1.heap.size rfl x X.tick X.seed xs xb hG.range ?_
  iterate 3 go_step
  refine wpList_callC rfl 20 _ _ rfl Try.func20 (by kernel_rfl) (by kernel_rfl) #[.agg #[x, .int .i64 X.tick, .int .i64 X.seed, xs, xb], rv] (by kernel_rfl) HRW ?_
  rintro e w3 ⟨y, ys, yb, rfl, hO3, hk⟩
  refine ⟨_, rfl, ?_⟩
  have hb3 := hb.trans (hk.mono hb.size)
  have hG3 := hG.below hk hG.lt
  have hGl := hG.lt
  have hOl := hO3.ge
  have o1 := slice_one hO3.at_.r
  have o2 := slice_one hO3.at_.s
  have o3 := slice_one hO3.at_.b
  simp only [Act.put, List.setIfInBounds_toArray, List.set_cons_zero, List.set_cons_succ]
  refine store_wld (op := ⟨none, _, _, _, _, _⟩) rfl _ _ rfl w1.heap.size rfl y Y.tick Y.seed ys yb rfl hG3.there o1 o2 o3 ?_
  have hq := And.intro (hG3.setAll (u' := y) (us' := ys) (ub' := yb) (tk' := Y.tick) (sd' := Y.seed)) (setCells_grown w3 w1.heap.size 0 (wcells y Y.tick Y.seed ys yb))
  generalize World.setCells w3 _ _ _ = w4 at hq
  obtain ⟨hG4, hgr⟩ := hq
  have hbs := hb.size
  have hOY := (hO3.tch (S := fun i => i = w1.heap.size) (Tch.of_grown1 hgr rfl) (fun i hi e => by have := hOl i hi; omega)).mono (B' := w.heap.size) (by omega)
  have hH : Hd w4 w.heap.size w1.heap.size y ys yb Y := ⟨hG4, hOY, (fun e => by have := hOl _ (.inl e); omega), (fun e => by have := hOl _ (.inr (.inl e)); omega), (fun e => by have := hOl _ (.inr (.inr e)); omega), hpl⟩
  have hb4 : Below w.heap.size w w4 := hb3.grown hgr (by have := hk.size; omega) (fun k h => by simp only [Option.some.injEq] at h; omega)
  clear HRW hO3 hk hb3 hG3 o1 o2 o3 hG4 hgr hOY hOl hbs hGl hb hG hL hO hX
  generalize w1.heap.size = G at *
  have hYl := hY.lv
  have hat2 := hat
  obtain ⟨hl12, hl20⟩ := lv_sizes hYl
  have HMV : ∀ (b : Bd) (wx : World) (z : Value), BWf b → At wx 1 z Y.rows.length (Y.rows.map Value.string) → Calls Try.prog 22 #[.agg #[z], b.val] wx fun e w' => e = .returned (.tuple #[(moveB Y.rows b).1.val, .bool (moveB Y.rows b).2]) ∧ Below wx.heap.size wx w' := fun b wx z hw hz => move_impl b wx hz (by omega) (fun t ht => by have := hl20 t ht; omega) hw
  have HSO : ∀ (p q t : Int) (wx : World) (z : Value), (-9223372036854775808 ≤ p ∧ p ≤ 9223372036854775807) → (-9223372036854775808 ≤ q ∧ q ≤ 9223372036854775807) → At wx 1 z Y.rows.length (Y.rows.map Value.string) → Calls Try.prog 23 #[.agg #[z], .int .i64 p, .int .i64 q, .int .i64 t] wx fun e w' => e = .returned (.bool (solA Y.rows p q t)) ∧ Below wx.heap.size wx w' := fun p q t wx z hp hq hz => solat_impl p q t wx hz (by omega) (fun t ht => by have := hl20 t ht; omega) hp hq
  have HFR := Lib.hid (fun k hk => bd_free hY (k := k) hk)
  have hmost := hY.bods.most
  have hle := hY.bods.le
  have hn1 := hY.n.1
  have HLV := Lib.hid (lvT_lv hYl)
  have HBW := Lib.hid (wok_bwf hY)
  clear hl12 hl20 hY hD hcn hrw hYn hYr hd
  go_wp2_with fail
  go_loopw [5] (fun i wr => ∃ k : Nat, k ≤ Y.bodies.length ∧ i = .int .i64 (k : Int) ∧ Hd wr w.heap.size G y ys yb Y ∧ Below w.heap.size w wr) (fun i _ => Y.bodies.length - (intOf i).toNat)
  case atStart => exact ⟨0, Nat.zero_le _, rfl, hH, hb4⟩
  case round =>
    clear hH hb4
    obtain ⟨k, hk, rfl, hH, hb⟩ := hrel
    by_cases hlt : k < Y.bodies.length
    · obtain ⟨g, cp, rfl, hgw⟩ := hH.formB (by omega)
      have c4 := hH.blk.c4
      have hE := (hH.elemAt hlt).range
      obtain ⟨hkd, hfree⟩ := HFR.out k hlt
      have hwf0 := HBW.out (bAt Y.bodies k) (by rw [bAt_eq hlt]; exact List.getElem_mem _)
      obtain ⟨b0, hb0⟩ : ∃ b0, bAt Y.bodies k = b0 := ⟨_, rfl⟩
      rw [hb0] at hE hkd hfree hwf0
      clear hb0
      have hlw := fun i (hi : blkW y ys (.slice (some ⟨g, 0, none⟩) Y.bodies.length cp) i) => (hH.own.ge i hi).2
      have x1 : decide ((k : Int) < (Y.bodies.length : Int)) = true := decide_eq_true (by omega)
      go_upto_region 8 with (fail)
      go_upto_region 9 with (first | (with_reducible refine load_bod (op := ⟨some 32, _, _, _, _, _⟩) rfl _ rfl g (k * 9) rfl b0 hE ?_) | (with_reducible refine store_bod (op := ⟨none, _, _, _, _, _⟩) rfl _ _ rfl wr.heap.size 0 rfl b0 rfl (zthere _ _) ?_))
      have hq := newB (Below.refl wr.heap.size wr) (Nat.le_refl _) 42 b0
      generalize hwn : World.setCells (World.alloc wr _) _ _ _ = wA
      rw [hwn] at hq
      obtain ⟨hP6, _, hk⟩ := hq
      have hbA := hb.trans (hk.mono hb.size)
      have hHA := hH.below hk
      have hGl := hH.blk.lt
      have hz := hb.size
      clear hwn hk hE c4 hH hb x1
      generalize wr.heap.size = p6 at *
      go_wp2_with fail
      refine (at_ret cv l (k : Int) _ (hat.below hbA) (by omega) (by omega) hm hwf).mono ?_
      rintro e w' ⟨rfl, rfl⟩
      have hA1 := mod31 (atV_bd hwf (k : Int))
      have hA1b := atV_bd hwf (k : Int)
      generalize atV l (k : Int) = A1 at *
      have q4 := hP6.c4
      have f4 := hP6.f4
      go_upto_region 10 with (with_reducible refine store_cell (o := ⟨none, _, _, _, _, _⟩) rfl _ _ _ rfl p6 4 rfl (.int .i64 (A1 % 31 - 15)) rfl rfl size_int q4 f4 ?_)
      have hP6b := hP6.set4 (A1 % 31 - 15)
      have hgr := setCells_grown wA p6 4 [.int .i64 (A1 % 31 - 15)]
      have hgr' : wA.grownBy (wA.setCell ⟨p6, 4, none⟩ (.int .i64 (A1 % 31 - 15))) (some p6) := hgr
      clear hgr q4 f4
      generalize A1 % 31 - 15 = vx at *
      generalize World.setCell wA _ _ = wB at hP6b hgr' ⊢
      have hbB : Below w.heap.size w wB := hbA.grown hgr' (by have := hP6.lt; omega) (fun k h => by simp only [Option.some.injEq] at h; omega)
      have hHB : Hd wB w.heap.size G y ys _ Y := hHA.tch (S := fun i => i = p6) (Tch.of_grown1 hgr' rfl) (fun i hi e => by rcases hi with rfl | hi; (· omega); (· have := hlw i hi; omega))
      clear hP6 hbA hHA hgr' hA1b
      go_wp2_with fail
      refine (at_ret cv l ((k : Int) + 1) _ (hat.below hbB) (by omega) (by omega) hm hwf).mono ?_
      rintro e w' ⟨rfl, rfl⟩
      have hA2 := mod31 (atV_bd hwf ((k : Int) + 1))
      have hA2b := atV_bd hwf ((k : Int) + 1)
      generalize atV l ((k : Int) + 1) = A2 at *
      have q5 := hP6b.c5
      have f5 := hP6b.f5
      go_upto_region 11 with (with_reducible refine store_cell (o := ⟨none, _, _, _, _, _⟩) rfl _ _ _ rfl p6 5 rfl (.int .i64 (A2 % 31 - 15)) rfl rfl size_int q5 f5 ?_)
      have hP6c := hP6b.set5 (A2 % 31 - 15)
      have hgr := setCells_grown wB p6 5 [.int .i64 (A2 % 31 - 15)]
      have hgr' : wB.grownBy (wB.setCell ⟨p6, 5, none⟩ (.int .i64 (A2 % 31 - 15))) (some p6) := hgr
      clear hgr q5 f5
      generalize A2 % 31 - 15 = vy at *
      generalize World.setCell wB _ _ = wC at hP6c hgr' ⊢
      have hbC : Below w.heap.size w wC := hbB.grown hgr' (by have := hP6b.lt; omega) (fun k h => by simp only [Option.some.injEq] at h; omega)
      have hHC : Hd wC w.heap.size G y ys _ Y := hHB.tch (S := fun i => i = p6) (Tch.of_grown1 hgr' rfl) (fun i hi e => by rcases hi with rfl | hi; (· omega); (· have := hlw i hi; omega))
      clear hP6b hbB hHB hgr' hA2b
      simp only at hP6c
      have hfr2 : solT Y.rows b0.x b0.y (szOf b0.kind) = false := hfree
      obtain ⟨b2, hb2⟩ : ∃ b2 : Bd, b2 = { b0 with vx := vx, vy := vy } := ⟨_, rfl⟩
      have hP6d : Blk wC p6 b2 := by rw [hb2]; exact hP6c
      have e1 : b2.kind = b0.kind ∧ b2.x = b0.x ∧ b2.y = b0.y ∧ b2.vx = vx ∧ b2.vy = vy := by rw [hb2]; exact ⟨rfl, rfl, rfl, rfl, rfl⟩
      clear hb2 hP6c
      obtain ⟨e1, e2, e3, e4, e5⟩ := e1
      rw [← e1, ← e2, ← e3] at hfree
      rw [← e1] at hkd
      have hsz := szOf_pos hkd.1 hkd.2
      have hbd := free_bd HLV.out hsz.1 hsz.2 hfree
      have hMV := HMV b2 wC y ⟨by omega, by omega⟩ hHC.own.at_.r
      have hmv : moveB Y.rows b2 = moveU Y.rows b2 := by
        unfold moveB
        rw [solA_yes hsz.1 hsz.2 hYl, hfree, e4, e5]
        exact if_neg (by rintro (h | h); (· cases h); (· exact h ⟨hA1.1, hA1.2, hA2.1, hA2.2⟩))
      have hM := moveU_moved hfree (by rw [e4]; exact hA1) (by rw [e5]; exact hA2)
      rw [hmv] at hMV
      obtain ⟨c, hc⟩ : ∃ c, (moveU Y.rows b2).1 = c := ⟨_, rfl⟩
      obtain ⟨st, hst⟩ : ∃ st, (moveU Y.rows b2).2 = st := ⟨_, rfl⟩
      rw [hc, hst] at hMV hM
      have hE := hP6d.range
      have c0 := hHC.blk.c0
      clear hc hst hmv e1 e2 e3 hfr2 hwf0
      subst e4
      subst e5
      go_wp2_with (with_reducible refine load_bod (op := ⟨some 49, _, _, _, _, _⟩) rfl _ rfl p6 0 rfl b2 hE ?_)
      refine hMV.mono ?_
      rintro e wD ⟨rfl, hk⟩
      have hbD := hbC.trans (hk.mono hbC.size)
      have hHD := hHC.below hk
      have hP6 := hP6d.below hk hP6d.lt
      have h6l := hP6d.lt
      clear hbC hHC hP6d hE c0 hk hMV
      go_upto_region 12 with (with_reducible refine store_bod (op := ⟨none, _, _, _, _, _⟩) rfl _ _ rfl wD.heap.size 0 rfl c rfl (zthere _ _) ?_)
      have hq := newB (Below.refl wD.heap.size wD) (Nat.le_refl _) 42 c
      generalize hwn : World.setCells (World.alloc wD _) _ _ _ = wE
      rw [hwn] at hq
      obtain ⟨hP7, _, hk⟩ := hq
      have hbE := hbD.trans (hk.mono hbD.size)
      have hHE := hHD.below hk
      have hP6e := hP6.below hk hP6.lt
      clear hwn hk hbD hHD hP6
      generalize wD.heap.size = p7 at *
      have q2 := hP7.c2
      have q3 := hP7.c3
      have r2 := hP6e.c2
      have r3 := hP6e.c3
      have hcb : -9223372036854775808 ≤ c.x - b2.x ∧ c.x - b2.x ≤ 9223372036854775807 ∧ -9223372036854775808 ≤ c.y - b2.y ∧ c.y - b2.y ≤ 9223372036854775807 := by
        obtain ⟨ex, hx1, _, _, _, _, _, hx7, hx8, _⟩ := hM.dx
        obtain ⟨ey, hy1, _, _, _, _, _, hy7, hy8, _⟩ := hM.dy
        omega
      have HM := Lib.hid hM
      clear hM
      go_upto_region 14 with (fail)
      have hM := HM.out
      obtain ⟨ex, hx1, hx2, hx3, hx4, hx5, hx6, hx7, hx8, hx9⟩ := hM.dx
      obtain ⟨ey, hy1, hy2, hy3, hy4, hy5, hy6, hy7, hy8, hy9⟩ := hM.dy
      have hMk := hM.kind
      have hMf := hM.free
      have hMvx := hM.vx
      have hMvy := hM.vy
      have hMs := hM.stop
      clear hM HM hcb
      rw [show c.x - b2.x = ex by omega, show c.y - b2.y = ey by omega]
      have hBd := hbE.drew
      have hHd := hHE.drew
      have hP6f := hP6e.drew
      have hP7f := hP7.drew
      have hcb : -9223372036854775808 ≤ c.x ∧ c.x ≤ 9223372036854775807 ∧ -9223372036854775808 ≤ c.y ∧ c.y ≤ 9223372036854775807 := by omega
      have hkc : 0 ≤ c.kind ∧ c.kind ≤ 2 := by omega
      have hszc := szOf_pos hkc.1 hkc.2
      have hsolc : solA Y.rows c.x c.y (szOf c.kind) = false := by rw [solA_yes hszc.1 hszc.2 hYl]; exact hMf
      clear hHE hP6e hP7 q2 q3 r2 r3 hbE hx1 hy1
      refine wp_region_sch2 (fun wx => Blk wx p6 b2 ∧ Blk wx p7 c ∧ WBlk wx G y Y.tick Y.seed ys (.slice (some ⟨g, 0, none⟩) Y.bodies.length cp)) 44 [0, 1, 2, 3, 4, 5, 6, 7, 10, 11, 12, 13, 14, 15, 16, 17, 18, 19, 20, 21, 22, 23, 24, 25, 26, 27, 28, 29, 30, 31, 32, 33, 34, 35, 36, 37, 38, 39, 40, 41, 42, 43] (.st 0 (.st 1 (.st 2 (.st 3 (.st 4 (.st 5 (.st 6 (.st 7 (.ef 8 (.ef 9 (.st 10 (.st 11 (.st 12 (.st 13 (.st 14 (.st 15 (.st 16 (.st 17 (.st 18 (.st 19 (.st 20 (.st 21 (.st 22 (.st 23 (.st 24 (.st 25 (.st 26 (.st 27 (.st 28 (.st 29 (.st 30 (.st 31 (.st 32 (.st 33 (.st 34 (.st 35 (.st 36 (.st 37 (.st 38 (.st 39 (.st 40 (.st 41 (.st 42 (.st 43 (.fin [44, 45]))))))))))))))))))))))))))))))))))))))))))))) (by kernel_rfl) (by kernel_rfl) (fun _ _ d _ _ h => by cases d <;> exact h) ⟨hP6f, hP7f, hHd.blk⟩ ?_
      refine sch_still (o := ⟨some 63, _, _, _, _, _⟩) (v := .pointer (some ⟨G, 0, none⟩)) rfl rfl ?_ ?_
      · intro wx hSx
        go_simp
      simp only [Act.put, List.setIfInBounds_toArray, List.set_cons_zero, List.set_cons_succ]
      refine sch_still (o := ⟨some 64, _, _, _, _, _⟩) (v := .agg #[y]) rfl rfl ?_ ?_
      · intro wx hSx
        have e := hSx.2.2.c0; go_simp
      simp only [Act.put, List.setIfInBounds_toArray, List.set_cons_zero, List.set_cons_succ]
      refine sch_still (o := ⟨some 65, _, _, _, _, _⟩) (v := .pointer (some ⟨p7, 2, none⟩)) rfl rfl ?_ ?_
      · intro wx hSx
        go_simp
      simp only [Act.put, List.setIfInBounds_toArray, List.set_cons_zero, List.set_cons_succ]
      refine sch_still (o := ⟨some 66, _, _, _, _, _⟩) (v := .int .i64 (c.x)) rfl rfl ?_ ?_
      · intro wx hSx
        have e := hSx.2.1.c2; go_simp
      simp only [Act.put, List.setIfInBounds_toArray, List.set_cons_zero, List.set_cons_succ]
      refine sch_still (o := ⟨some 67, _, _, _, _, _⟩) (v := .pointer (some ⟨p7, 3, none⟩)) rfl rfl ?_ ?_
      · intro wx hSx
        go_simp
      simp only [Act.put, List.setIfInBounds_toArray, List.set_cons_zero, List.set_cons_succ]
      refine sch_still (o := ⟨some 68, _, _, _, _, _⟩) (v := .int .i64 (c.y)) rfl rfl ?_ ?_
      · intro wx hSx
        have e := hSx.2.1.c3; go_simp
      simp only [Act.put, List.setIfInBounds_toArray, List.set_cons_zero, List.set_cons_succ]
      refine sch_still (o := ⟨some 69, _, _, _, _, _⟩) (v := .pointer (some ⟨p7, 0, none⟩)) rfl rfl ?_ ?_
      · intro wx hSx
        go_simp
      simp only [Act.put, List.setIfInBounds_toArray, List.set_cons_zero, List.set_cons_succ]
      refine sch_still (o := ⟨some 70, _, _, _, _, _⟩) (v := .int .i64 (c.kind)) rfl rfl ?_ ?_
      · intro wx hSx
        have e := hSx.2.1.c0; go_simp
      simp only [Act.put, List.setIfInBounds_toArray, List.set_cons_zero, List.set_cons_succ]
      generalize wE.drew = wq at *
      refine sch_ef (o := ⟨some 71, _, _, _, _, _⟩) rfl ?_
      refine wpList_callC rfl 24 _ _ rfl Try.func24 (by kernel_rfl) (by kernel_rfl) #[.int .i64 c.kind] (by kernel_rfl) (sz_impl c.kind wq) ?_
      rintro e wx ⟨rfl, rfl⟩
      refine ⟨_, rfl, ?_⟩
      refine sch_next ⟨hP6f, hP7f, hHd.blk⟩ ?_
      simp only [Act.put, List.setIfInBounds_toArray, List.set_cons_zero, List.set_cons_succ]
      refine sch_ef (o := ⟨some 72, _, _, _, _, _⟩) rfl ?_
      refine wpList_callC rfl 23 _ _ rfl Try.func23 (by kernel_rfl) (by kernel_rfl) #[.agg #[y], .int .i64 c.x, .int .i64 c.y, .int .i64 (szOf c.kind)] (by kernel_rfl) (HSO c.x c.y (szOf c.kind) wq y ⟨hcb.1, hcb.2.1⟩ ⟨hcb.2.2.1, hcb.2.2.2⟩ hHd.own.at_.r) ?_
      rintro e wF ⟨rfl, hk⟩
      refine ⟨_, rfl, ?_⟩
      rw [hsolc]
      have hBf := hBd.trans (hk.mono hBd.size)
      have hHf := hHd.below hk
      have hP6g := hP6f.below hk hP6f.lt
      have hP7g := hP7f.below hk hP7f.lt
      clear hBd hHd hP6f hP7f hk
      refine sch_next ⟨hP6g, hP7g, hHf.blk⟩ ?_
      simp only [Act.put, List.setIfInBounds_toArray, List.set_cons_zero, List.set_cons_succ]
      refine sch_still (o := ⟨some 73, _, _, _, _, _⟩) (v := .bool false) rfl rfl ?_ ?_
      · intro wx hSx
        go_simp
      simp only [Act.put, List.setIfInBounds_toArray, List.set_cons_zero, List.set_cons_succ]
      refine sch_gd (o := ⟨some 74, _, _, _, _, _⟩) (v := .int .i64 (ex)) rfl (by rfl) ?_ ?_
      · intro wx hSx
        go_simp
      simp only [Act.put, List.setIfInBounds_toArray, List.set_cons_zero, List.set_cons_succ]
      refine sch_gd (o := ⟨some 75, _, _, _, _, _⟩) (v := .pointer (some ⟨p6, 4, none⟩)) rfl (by rfl) ?_ ?_
      · intro wx hSx
        go_simp
      simp only [Act.put, List.setIfInBounds_toArray, List.set_cons_zero, List.set_cons_succ]
      refine sch_gd (o := ⟨some 76, _, _, _, _, _⟩) (v := .int .i64 (b2.vx)) rfl (by rfl) ?_ ?_
      · intro wx hSx
        have e := hSx.1.c4; go_simp
      simp only [Act.put, List.setIfInBounds_toArray, List.set_cons_zero, List.set_cons_succ]
      refine sch_gd (o := ⟨some 77, _, _, _, _, _⟩) (v := .int .i64 (ex * b2.vx)) rfl (by rfl) ?_ ?_
      · intro wx hSx
        go_simp; first | done | exact wrapz (by omega)
      simp only [Act.put, List.setIfInBounds_toArray, List.set_cons_zero, List.set_cons_succ]
      refine sch_gd (o := ⟨some 78, _, _, _, _, _⟩) (v := .bool false) rfl (by rfl) ?_ ?_
      · intro wx hSx
        go_simp; first | done | omega
      simp only [Act.put, List.setIfInBounds_toArray, List.set_cons_zero, List.set_cons_succ]
      refine sch_still (o := ⟨some 79, _, _, _, _, _⟩) (v := .bool false) rfl rfl ?_ ?_
      · intro wx hSx
        go_simp
      simp only [Act.put, List.setIfInBounds_toArray, List.set_cons_zero, List.set_cons_succ]
      refine sch_still (o := ⟨some 80, _, _, _, _, _⟩) (v := .bool false) rfl rfl ?_ ?_
      · intro wx hSx
        go_simp
      simp only [Act.put, List.setIfInBounds_toArray, List.set_cons_zero, List.set_cons_succ]
      refine sch_gd (o := ⟨some 81, _, _, _, _, _⟩) (v := .int .i64 (ey)) rfl (by rfl) ?_ ?_
      · intro wx hSx
        go_simp
      simp only [Act.put, List.setIfInBounds_toArray, List.set_cons_zero, List.set_cons_succ]
      refine sch_gd (o := ⟨some 82, _, _, _, _, _⟩) (v := .pointer (some ⟨p6, 5, none⟩)) rfl (by rfl) ?_ ?_
      · intro wx hSx
        go_simp
      simp only [Act.put, List.setIfInBounds_toArray, List.set_cons_zero, List.set_cons_succ]
      refine sch_gd (o := ⟨some 83, _, _, _, _, _⟩) (v := .int .i64 (b2.vy)) rfl (by rfl) ?_ ?_
      · intro wx hSx
        have e := hSx.1.c5; go_simp
      simp only [Act.put, List.setIfInBounds_toArray, List.set_cons_zero, List.set_cons_succ]
      refine sch_gd (o := ⟨some 84, _, _, _, _, _⟩) (v := .int .i64 (ey * b2.vy)) rfl (by rfl) ?_ ?_
      · intro wx hSx
        go_simp; first | done | exact wrapz (by omega)
      simp only [Act.put, List.setIfInBounds_toArray, List.set_cons_zero, List.set_cons_succ]
      refine sch_gd (o := ⟨some 85, _, _, _, _, _⟩) (v := .bool false) rfl (by rfl) ?_ ?_
      · intro wx hSx
        go_simp; first | done | omega
      simp only [Act.put, List.setIfInBounds_toArray, List.set_cons_zero, List.set_cons_succ]
      refine sch_still (o := ⟨some 86, _, _, _, _, _⟩) (v := .bool false) rfl rfl ?_ ?_
      · intro wx hSx
        go_simp
      simp only [Act.put, List.setIfInBounds_toArray, List.set_cons_zero, List.set_cons_succ]
      refine sch_still (o := ⟨some 87, _, _, _, _, _⟩) (v := .bool false) rfl rfl ?_ ?_
      · intro wx hSx
        go_simp
      simp only [Act.put, List.setIfInBounds_toArray, List.set_cons_zero, List.set_cons_succ]
      refine sch_gd (o := ⟨some 88, _, _, _, _, _⟩) (v := .int .i64 (ex)) rfl (by rfl) ?_ ?_
      · intro wx hSx
        go_simp
      simp only [Act.put, List.setIfInBounds_toArray, List.set_cons_zero, List.set_cons_succ]
      refine sch_gd (o := ⟨some 89, _, _, _, _, _⟩) (v := .int .i64 (ex)) rfl (by rfl) ?_ ?_
      · intro wx hSx
        go_simp
      simp only [Act.put, List.setIfInBounds_toArray, List.set_cons_zero, List.set_cons_succ]
      refine sch_gd (o := ⟨some 90, _, _, _, _, _⟩) (v := .int .i64 (ex * ex)) rfl (by rfl) ?_ ?_
      · intro wx hSx
        go_simp; first | done | exact wrapz (by omega)
      simp only [Act.put, List.setIfInBounds_toArray, List.set_cons_zero, List.set_cons_succ]
      refine sch_gd (o := ⟨some 91, _, _, _, _, _⟩) (v := .pointer (some ⟨p6, 4, none⟩)) rfl (by rfl) ?_ ?_
      · intro wx hSx
        go_simp
      simp only [Act.put, List.setIfInBounds_toArray, List.set_cons_zero, List.set_cons_succ]
      refine sch_gd (o := ⟨some 92, _, _, _, _, _⟩) (v := .int .i64 (b2.vx)) rfl (by rfl) ?_ ?_
      · intro wx hSx
        have e := hSx.1.c4; go_simp
      simp only [Act.put, List.setIfInBounds_toArray, List.set_cons_zero, List.set_cons_succ]
      refine sch_gd (o := ⟨some 93, _, _, _, _, _⟩) (v := .pointer (some ⟨p6, 4, none⟩)) rfl (by rfl) ?_ ?_
      · intro wx hSx
        go_simp
      simp only [Act.put, List.setIfInBounds_toArray, List.set_cons_zero, List.set_cons_succ]
      refine sch_gd (o := ⟨some 94, _, _, _, _, _⟩) (v := .int .i64 (b2.vx)) rfl (by rfl) ?_ ?_
      · intro wx hSx
        have e := hSx.1.c4; go_simp
      simp only [Act.put, List.setIfInBounds_toArray, List.set_cons_zero, List.set_cons_succ]
      refine sch_gd (o := ⟨some 95, _, _, _, _, _⟩) (v := .int .i64 (b2.vx * b2.vx)) rfl (by rfl) ?_ ?_
      · intro wx hSx
        go_simp; first | done | exact wrapz (by omega)
      simp only [Act.put, List.setIfInBounds_toArray, List.set_cons_zero, List.set_cons_succ]
      refine sch_gd (o := ⟨some 96, _, _, _, _, _⟩) (v := .bool false) rfl (by rfl) ?_ ?_
      · intro wx hSx
        go_simp; first | done | omega
      simp only [Act.put, List.setIfInBounds_toArray, List.set_cons_zero, List.set_cons_succ]
      refine sch_still (o := ⟨some 97, _, _, _, _, _⟩) (v := .bool false) rfl rfl ?_ ?_
      · intro wx hSx
        go_simp
      simp only [Act.put, List.setIfInBounds_toArray, List.set_cons_zero, List.set_cons_succ]
      refine sch_still (o := ⟨some 98, _, _, _, _, _⟩) (v := .bool false) rfl rfl ?_ ?_
      · intro wx hSx
        go_simp
      simp only [Act.put, List.setIfInBounds_toArray, List.set_cons_zero, List.set_cons_succ]
      refine sch_gd (o := ⟨some 99, _, _, _, _, _⟩) (v := .int .i64 (ey)) rfl (by rfl) ?_ ?_
      · intro wx hSx
        go_simp
      simp only [Act.put, List.setIfInBounds_toArray, List.set_cons_zero, List.set_cons_succ]
      refine sch_gd (o := ⟨some 100, _, _, _, _, _⟩) (v := .int .i64 (ey)) rfl (by rfl) ?_ ?_
      · intro wx hSx
        go_simp
      simp only [Act.put, List.setIfInBounds_toArray, List.set_cons_zero, List.set_cons_succ]
      refine sch_gd (o := ⟨some 101, _, _, _, _, _⟩) (v := .int .i64 (ey * ey)) rfl (by rfl) ?_ ?_
      · intro wx hSx
        go_simp; first | done | exact wrapz (by omega)
      simp only [Act.put, List.setIfInBounds_toArray, List.set_cons_zero, List.set_cons_succ]
      refine sch_gd (o := ⟨some 102, _, _, _, _, _⟩) (v := .pointer (some ⟨p6, 5, none⟩)) rfl (by rfl) ?_ ?_
      · intro wx hSx
        go_simp
      simp only [Act.put, List.setIfInBounds_toArray, List.set_cons_zero, List.set_cons_succ]
      refine sch_gd (o := ⟨some 103, _, _, _, _, _⟩) (v := .int .i64 (b2.vy)) rfl (by rfl) ?_ ?_
      · intro wx hSx
        have e := hSx.1.c5; go_simp
      simp only [Act.put, List.setIfInBounds_toArray, List.set_cons_zero, List.set_cons_succ]
      refine sch_gd (o := ⟨some 104, _, _, _, _, _⟩) (v := .pointer (some ⟨p6, 5, none⟩)) rfl (by rfl) ?_ ?_
      · intro wx hSx
        go_simp
      simp only [Act.put, List.setIfInBounds_toArray, List.set_cons_zero, List.set_cons_succ]
      refine sch_gd (o := ⟨some 105, _, _, _, _, _⟩) (v := .int .i64 (b2.vy)) rfl (by rfl) ?_ ?_
      · intro wx hSx
        have e := hSx.1.c5; go_simp
      simp only [Act.put, List.setIfInBounds_toArray, List.set_cons_zero, List.set_cons_succ]
      refine sch_gd (o := ⟨some 106, _, _, _, _, _⟩) (v := .int .i64 (b2.vy * b2.vy)) rfl (by rfl) ?_ ?_
      · intro wx hSx
        go_simp; first | done | exact wrapz (by omega)
      simp only [Act.put, List.setIfInBounds_toArray, List.set_cons_zero, List.set_cons_succ]
      refine sch_end (.cons (o := ⟨some 107, _, _, _, _, _⟩) rfl (.cons (o := ⟨some 108, _, _, _, _, _⟩) rfl .nil)) ?_
      have x2 : decide (ey * ey > b2.vy * b2.vy) = false := decide_eq_false (by omega)
      have q4 := hP6g.c4
      have q5 := hP6g.c5
      have t4 := hP7g.c4
      have t5 := hP7g.c5
      clear hP6g hP7g hx2 hx3 hx4 hx5 hx6 hy2 hy3 hy4 hy5 hy6
      cases st with
      | false =>
        have y1 : (ex != b2.vx) = false := by rw [hx9 rfl]; simp
        have y2 : (ey != b2.vy) = false := by rw [hy9 rfl]; simp
        have y3 : (c.vx != b2.vx) = false := by rw [hMvx.2 rfl]; simp
        have y4 : (c.vy != b2.vy) = false := by rw [hMvy.2 rfl]; simp
        clear hx9 hy9 hMvx hMvy hMs
        go_wp2_with fail
        go_roundw
        case rel => exact ⟨k + 1, by omega, by go_num, hHf, hBf⟩
        case measure => simp [intOf]; omega
      | true =>
        have hs := hMs rfl
        clear hx9 hy9 hMvx hMvy hMs
        by_cases h0 : c.vx = 0
        · have y1 : (c.vx != 0) = false := by rw [h0]; rfl
          clear hs h0
          go_wp2_with fail
          go_roundw
          case rel => exact ⟨k + 1, by omega, by go_num, hHf, hBf⟩
          case measure => simp [intOf]; omega
        · have y1 : (c.vx != 0) = true := bne_iff_ne.2 h0
          have y2 : (c.vy != 0) = false := by rcases hs with h | h; (· exact absurd h h0); (· rw [h]; rfl)
          clear hs h0
          go_wp2_with fail
          go_roundw
          case rel => exact ⟨k + 1, by omega, by go_num, hHf, hBf⟩
          case measure => simp [intOf]; omega
    · obtain rfl : k = Y.bodies.length := by omega
      obtain ⟨g, cp, rfl, hgw⟩ := hH.formB (by omega)
      have c4 := hH.blk.c4
      have x1 : decide ((Y.bodies.length : Int) > 0) = true := decide_eq_true (by omega)
      go_wp2_with fail
      go_ret
      exact ⟨by first | rfl | exact ret_bool (by simp; omega), hb⟩

set_option maxRecDepth 100000 in
theorem lifted (os : Os) (started : os.Started) (H : Type) (enc : TypeId × Value → H) :
    ReturnsInHanded {} Try.checked os 4 .any (Rows.fnMovesSpec.pre6 enc Try.prog Try.f4 Rows.fnMovesRow.domain false) (Rows.fnMovesSpec.post enc Try.prog Try.f4 false true false false) := by
  refine returnsInHanded_of_change (C := Try.checked) own_ started (by kernel_rfl) Try.func4
    (ChangeSpec.witness6 (enc := enc) (C := Try.checked) false ⟨#[], #[.slice none 0 0], []⟩ 8 (by kernel_rfl) (by kernel_rfl) (by kernel_rfl) (by kernel_rfl)) ?_
  intro W base args ds gs before hval0 hW hcnd _
  have hval : ∀ (j : Nat) t v, Try.f4.params[j]? = some t → args[j]? = some v → Value.okWide Try.prog W .any base t v := hval0
  have hW' := hW
  obtain ⟨p, q, hA0, hV, rfl, hfz, hnd⟩ := hW
  have hA : DataW.TrodAll enc Try.prog W 0 (fun _ => true) true Try.f4.params.toList args.toList ds p := hA0
  rw [Try.params4] at hA hval
  obtain ⟨v0, vs0, d0, ds0, p0, q0, hargs, rfl, rfl, h0, r0⟩ := trodAll_cons hA
  obtain ⟨rfl, rfl, rfl⟩ := trodAll_nil r0
  obtain rfl : args = #[v0] := by cases args; simp_all
  have w0 := open_u8s (hval 0 31 v0 rfl rfl) h0
  refine (walk W v0 w0).mono fun e W' ⟨he, hb⟩ => ?_
  subst he
  exact ⟨_, rfl, law_post laidOut (by kernel_rfl) rfl rfl Try.underlying4 (fun gs' h => by subst h; rfl) hW' hb⟩

theorem closed_ : joinedFacts Try.prog 4 Try.f4 Rows.fnMovesSpec Rows.fnMovesRow = true := by
  unfold joinedFacts
  rw [mayEnter_, liftsFinal_, make_, laidOut_, mapsRowed_, stopsHeard_]
  kernel_rfl

theorem proved : Rows.FnMovesSaid :=
  OpenClaim.holds_of_wide 4 Try.f4 rfl rfl rfl rfl rfl rfl rfl ⟨rfl, rfl, rfl, rfl, rfl⟩ rfl rfl rfl rfl rfl (by kernel_rfl) Try.func4 closed_
    (of_decide_eq_true (by kernel_rfl)) (by unfold Func.isWrapper; first | (rw [if_pos (by decide +kernel)]; kernel_rfl) | (rw [if_neg (by decide +kernel)]; exact ⟨rfl, rfl⟩))
    (fun os started H enc _ => lifted os started H enc)
end Go.Proofs.Ytmamihkcikgmcaa.fnMoves
