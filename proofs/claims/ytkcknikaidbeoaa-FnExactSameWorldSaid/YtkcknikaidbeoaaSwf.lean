/- SameWorld, the reference's. -/
import Derived.Test.YtkcknikaidbeoaaSwe
namespace Go.Proofs.Ytkcknikaidbeoaa
open Go.RowKit

set_option maxRecDepth 100000 in
set_option maxHeartbeats 2000000 in
theorem samelev_spec {u v : Value} {la lb : List ByteArray} (w : World) (ha : At w 1 u la.length (la.map Value.string)) (hb : At w 1 v lb.length (lb.map Value.string)) (hm : la.length ≤ 1048576) (hm2 : lb.length ≤ 1048576) :
    Calls Try.prog 95 #[.agg #[u], .agg #[v]] w fun e w' => e = .returned (.bool (sameS la lb)) ∧ Below w.heap.size w w' := by
  obtain ⟨ao, cap, rfl, hca⟩ := ha.cellS
  obtain ⟨bo, cap2, rfl, hcb⟩ := hb.cellS
  clear ha hb
  by_cases hl : la.length = lb.length
  · have HL := Lib.hid hl
    rw [← hl]
    clear hl
    go_enter Try.func95, Try.ntmps95
    go_upto_region 1 with (fail)
    generalize hw1 : (w.alloc _).alloc _ = w1
    have hb1 : Below w.heap.size w w1 := by rw [← hw1]; exact ((Below.refl _ _).alloc (Nat.le_refl _) _).alloc (by simp) _
    have e1 : w1.cell? ⟨w.heap.size, 0, none⟩ = some (.slice ao la.length cap) := by rw [← hw1]; exact cell_alloc_lt (World.cell?_alloc_new _ _ _ 0) _ (by simp)
    have e2 : w1.cell? ⟨w.heap.size + 1, 0, none⟩ = some (.slice bo la.length cap2) := by rw [← hw1]; simp [World.cell?_alloc_at]
    clear hw1
    go_wp2_with fail
    go_loopw [5] (fun i wr => ∃ k : Nat, k ≤ la.length ∧ i = .int .i64 k ∧ Hid (∀ j (h1 : j < la.length) (h2 : j < lb.length), j < k → la[j]'h1 = lb[j]'h2) ∧ ∃ d, wr = w1.drewN d) (fun i _ => la.length - (intOf i).toNat)
    case atStart => exact ⟨0, Nat.zero_le _, rfl, Lib.hid fun j _ _ h => absurd h (Nat.not_lt_zero _), 0, rfl⟩
    case round =>
      obtain ⟨k, hk, rfl, HE, d, rfl⟩ := hrel
      by_cases hlt : k < la.length
      · have hlt2 : k < lb.length := by have := HL.out; omega
        obtain ⟨g, off, rfl, hg, hcell⟩ := hca (by omega)
        obtain ⟨g2, off2, rfl, hg2, hcell2⟩ := hcb (by omega)
        clear hca hcb
        have c1 := (hb1.cell hg).trans (hcell k hlt)
        have c2 := (hb1.cell hg2).trans (hcell2 k hlt2)
        clear hcell hcell2
        by_cases he : la[k]'hlt = lb[k]'hlt2
        · have HE' : Hid (∀ j (h1 : j < la.length) (h2 : j < lb.length), j < k + 1 → la[j]'h1 = lb[j]'h2) := Lib.hid fun j h1 h2 h3 => by
            by_cases e : j = k
            · subst e; exact he
            · exact HE.out j h1 h2 (by omega)
          rw [← he] at c2
          clear he
          go_wp2
          go_region
          go_wp2
          go_roundw
          case rel => exact ⟨k + 1, by omega, by go_num, HE', d + 1, rfl⟩
          case measure => simp [intOf]; omega
        · have HN := Lib.hid (sameS_ne he)
          have hb' : ((la[k]'hlt).toList == (lb[k]'hlt2).toList) = false := beq_eq_false_iff_ne.2 (fun e => he (toList_inj e))
          go_wp2
          go_region
          go_wp2
          go_ret
          exact ⟨ret_bool (by rw [HN.out]), below_drewN hb1 (d + 1)⟩
      · have HN := Lib.hid (sameS_yes HL.out fun j h1 h2 => HE.out j h1 h2 (by omega))
        go_wp2
        go_ret
        exact ⟨ret_bool (by rw [HN.out]), below_drewN hb1 d⟩
  · have HN := Lib.hid (sameS_len hl)
    have hb' : ((la.length : Int) == (lb.length : Int)) = false := beq_eq_false_iff_ne.2 (by omega)
    go_enter Try.func95, Try.ntmps95
    go_wp2
    go_ret
    exact ⟨ret_bool (by rw [HN.out]), ((Below.refl _ _).alloc (Nat.le_refl _) _).alloc (by simp) _⟩
set_option maxRecDepth 100000 in
set_option maxHeartbeats 4000000 in
theorem sameworld_spec {u us ub v vs vb : Value} {X Y : Wd} (w : World) (h : WAt w u us ub X) (k : WAt w v vs vb Y) (hm : WSmall X) (hm2 : WSmall Y) :
    Calls Try.prog 42 #[.agg #[u, .int .i64 X.tick, .int .i64 X.seed, us, ub], .agg #[v, .int .i64 Y.tick, .int .i64 Y.seed, vs, vb]] w fun e w' => e = .returned (.bool (sameW X Y)) ∧ Below w.heap.size w w' := by
  obtain ⟨hr, hs, hb⟩ := h
  obtain ⟨kr, ks, kb⟩ := k
  have HW : Hid (sameW X Y = (sameS X.rows Y.rows && (decide (X.tick = Y.tick) && (decide (X.seed = Y.seed) && (sameL X.scores Y.scores && sameBs X.bodies Y.bodies))))) := Lib.hid (by rw [sameL_eq]; rfl)
  generalize sameW X Y = R at *
  obtain ⟨rows, tk, sd, sc, bs⟩ := X
  obtain ⟨rows2, tk2, sd2, sc2, bs2⟩ := Y
  obtain ⟨m0, _, m2, m3⟩ := hm
  obtain ⟨n0, _, _, n3⟩ := hm2
  simp only at hr hs hb kr ks kb m0 m2 m3 n0 n3 HW ⊢
  have hb0 := hb
  have kb0 := kb
  obtain ⟨bo, bc, rfl, hbc⟩ := hb.cellB
  obtain ⟨bo2, bc2, rfl, kbc⟩ := kb.cellB
  generalize hub : Value.slice bo bs.length bc = ub at *
  generalize hvb : Value.slice bo2 bs2.length bc2 = vb at *
  go_enter Try.func42, Try.ntmps42
  go_upto_region 1 with (fail)
  generalize hw1 : (w.alloc _).alloc _ = w1
  have hb1 : Below w.heap.size w w1 := by rw [← hw1]; exact ((Below.refl _ _).alloc (Nat.le_refl _) _).alloc (by simp) _
  have hA1 : WBlk w1 w.heap.size u tk sd us ub := by rw [← hw1]; exact (WBlk.new w _ u tk sd us ub).alloc _
  have hC1 : WBlk w1 (w.heap.size + 1) v tk2 sd2 vs vb := by
    rw [← hw1]
    have := WBlk.new (w.alloc (.cells #[u, .int .i64 tk, .int .i64 sd, us, ub] 50)) 50 v tk2 sd2 vs vb
    rwa [show (w.alloc (.cells #[u, .int .i64 tk, .int .i64 sd, us, ub] 50)).heap.size = w.heap.size + 1 by simp] at this
  clear hw1
  subst hub
  subst hvb
  obtain ⟨_, c0, c1, c2, c3, c4, _⟩ := id hA1
  obtain ⟨_, d0, d1, d2, d3, d4, _⟩ := id hC1
  by_cases ht : ¬ tk = tk2
  · have HN : Hid (R = false) := Lib.hid (by rw [HW.out, decide_eq_false ht]; simp)
    have x1 : (tk == tk2) = false := beq_eq_false_iff_ne.2 ht
    go_wp2_with fail
    go_ret
    exact ⟨by rw [HN.out]; rfl, hb1⟩
  replace ht := Classical.not_not.1 ht
  subst ht
  by_cases hq : ¬ sd = sd2
  · have HN : Hid (R = false) := Lib.hid (by rw [HW.out, decide_eq_false hq]; simp)
    have x1 : (sd == sd2) = false := beq_eq_false_iff_ne.2 hq
    go_wp2_with fail
    go_ret
    exact ⟨by rw [HN.out]; rfl, hb1⟩
  replace hq := Classical.not_not.1 hq
  subst hq
  go_wp2_with fail
  refine (l02ints_ret _ (hs.below hb1) (ks.below hb1) (by omega)).mono ?_
  rintro e wb ⟨rfl, n, hwb⟩
  have hb3 : Below w.heap.size w wb := by rw [hwb]; exact below_drewN hb1 n
  have hA3 : WBlk wb w.heap.size u tk sd us (.slice bo bs.length bc) := by rw [hwb]; exact hA1.drewN n
  have hC3 : WBlk wb (w.heap.size + 1) v tk sd vs (.slice bo2 bs2.length bc2) := by rw [hwb]; exact hC1.drewN n
  clear hwb hA1 hC1 hb1 c0 c1 c2 c3 c4 d0 d1 d2 d3 d4
  obtain ⟨_, c0, c1, c2, c3, c4, _⟩ := id hA3
  obtain ⟨_, d0, d1, d2, d3, d4, _⟩ := id hC3
  cases hsl : sameL sc sc2 with
  | false =>
    have HN : Hid (R = false) := Lib.hid (by rw [HW.out, hsl]; simp)
    clear hsl
    go_wp2_with fail
    go_ret
    exact ⟨by rw [HN.out]; rfl, hb3⟩
  | true =>
  have HSL := Lib.hid hsl
  clear hsl
  by_cases hl : ¬ bs.length = bs2.length
  · have HN : Hid (R = false) := Lib.hid (by rw [HW.out, sameBs_len hl]; simp)
    have x1 : ((bs.length : Int) == (bs2.length : Int)) = false := beq_eq_false_iff_ne.2 (by omega)
    go_wp2_with fail
    go_ret
    exact ⟨by rw [HN.out]; rfl, hb3⟩
  replace hl := Classical.not_not.1 hl
  have HLN := Lib.hid hl
  rw [← hl] at hC3 d4
  clear hl
  go_wp2_with fail
  refine (samelev_spec _ (hr.below hb3) (kr.below hb3) m0 n0).mono ?_
  rintro e wc ⟨rfl, hc⟩
  have hb4 := hb3.trans (hc.mono hb3.size)
  have hA4 := hA3.below hc hA3.lt
  have hC4 := hC3.below hc hC3.lt
  clear hc hb3 hA3 hC3 c0 c1 c2 c3 c4 d0 d1 d2 d3 d4
  obtain ⟨_, c0, c1, c2, c3, c4, _⟩ := id hA4
  obtain ⟨_, d0, d1, d2, d3, d4, _⟩ := id hC4
  cases hss : sameS rows rows2 with
  | false =>
    have HN : Hid (R = false) := Lib.hid (by rw [HW.out, hss]; rfl)
    clear hss
    go_wp2_with fail
    go_ret
    exact ⟨by rw [HN.out]; rfl, hb4⟩
  | true =>
  have HR : Hid (R = sameBs bs bs2) := Lib.hid (by rw [HW.out, hss, HSL.out]; simp)
  clear hss
  go_wp2_with fail
  go_loopw [5] (fun i wr => ∃ k : Nat, k ≤ bs.length ∧ i = .int .i64 k ∧ Hid (∀ j, j < k → bAt bs j = bAt bs2 j) ∧ WBlk wr w.heap.size u tk sd us (.slice bo bs.length bc) ∧ WBlk wr (w.heap.size + 1) v tk sd vs (.slice bo2 bs.length bc2) ∧ Below w.heap.size w wr) (fun i _ => bs.length - (intOf i).toNat)
  case atStart => exact ⟨0, Nat.zero_le _, rfl, Lib.hid fun _ h => absurd h (Nat.not_lt_zero _), hA4, hC4, hb4⟩
  case round =>
    clear hA4 hC4 hb4 c0 c1 c2 c3 c4 d0 d1 d2 d3 d4
    obtain ⟨k, hk, rfl, HK, hA, hC, hbl⟩ := hrel
    obtain ⟨_, c0, c1, c2, c3, c4, _⟩ := id hA
    obtain ⟨_, d0, d1, d2, d3, d4, _⟩ := id hC
    by_cases hlt : k < bs.length
    · obtain ⟨g, off, rfl, hg, hcell⟩ := hbc (by omega)
      obtain ⟨g2, off2, rfl, hg2, hcell2⟩ := kbc (by have := HLN.out; omega)
      have hbd := hbl.drew
      have hAd := hA.drew
      have hCd := hC.drew
      have HR1 := (Elem.below (elem_mk (g := g) (off := off) (k := k) (b := bAt bs k) fun j hj => hcell k j hlt hj) hbd hg).range
      have HR2 := (Elem.below (elem_mk (g := g2) (off := off2) (k := k) (b := bAt bs2 k) fun j hj => hcell2 k j (by have := HLN.out; omega) hj) hbd hg2).range
      have HNE := Lib.hid (sameBs_ne (a := bs) (b := bs2) (k := k))
      obtain ⟨x, hx⟩ : ∃ x, bAt bs k = x := ⟨_, rfl⟩
      obtain ⟨y, hy⟩ : ∃ x, bAt bs2 k = x := ⟨_, rfl⟩
      rw [hx] at HR1 HNE
      rw [hy] at HR2 HNE
      have HX := Lib.hid hx
      have HY := Lib.hid hy
      clear hbc kbc hcell hcell2 hx hy hb0 kb0
      go_wp2_with fail
      refine wp_region_tailV 10 (by kernel_rfl) (by kernel_rfl) ?_
      intro OPS HOPS
      simp only [List.take_succ_cons, List.take_zero, List.drop_succ_cons, List.drop_zero]
      still_step
      still_step
      still_step
      still_step
      refine still_bodS (op := ⟨some 54, _, _, _, _, _⟩) rfl _ rfl g (off + k * 9) rfl x HR1 ?_
      simp only [Act.put, List.setIfInBounds_toArray, List.set_cons_zero, List.set_cons_succ]
      still_step
      still_step
      still_step
      still_step
      refine still_bodS (op := ⟨some 59, _, _, _, _, _⟩) rfl _ rfl g2 (off2 + k * 9) rfl y HR2 ?_
      simp only [Act.put, List.setIfInBounds_toArray, List.set_cons_zero, List.set_cons_succ]
      refine wpStill_nil ?_
      change wpList _ _ _ _ _ wr.drew
      by_cases hxy : x = y
      · subst hxy
        obtain ⟨x0, x1, x2, x3, x4, x5, x6, x7, x8⟩ := x
        rw [show (Bd.mk x0 x1 x2 x3 x4 x5 x6 x7 x8).val = .agg #[.int .i64 x0, .int .i64 x1, .int .i64 x2, .int .i64 x3, .int .i64 x4, .int .i64 x5, .int .i64 x6, .int .i64 x7, .int .i64 x8] from rfl]
        have HK2 : Hid (∀ j, j < k + 1 → bAt bs j = bAt bs2 j) := Lib.hid fun j hj => by
          by_cases e : j = k
          · subst e; exact HX.out.trans HY.out.symm
          · exact HK.out j (by omega)
        clear HR1 HR2 HNE HX HY
        go_wp2_with fail
        go_roundw
        case rel => exact ⟨k + 1, by omega, by go_num, HK2, hAd, hCd, hbd⟩
        case measure => simp [intOf]; omega
      · have HN := Lib.hid (HR.out.trans (HNE.out hxy))
        obtain ⟨x0, x1, x2, x3, x4, x5, x6, x7, x8⟩ := x
        obtain ⟨y0, y1, y2, y3, y4, y5, y6, y7, y8⟩ := y
        rw [show (Bd.mk x0 x1 x2 x3 x4 x5 x6 x7 x8).val = .agg #[.int .i64 x0, .int .i64 x1, .int .i64 x2, .int .i64 x3, .int .i64 x4, .int .i64 x5, .int .i64 x6, .int .i64 x7, .int .i64 x8] from rfl, show (Bd.mk y0 y1 y2 y3 y4 y5 y6 y7 y8).val = .agg #[.int .i64 y0, .int .i64 y1, .int .i64 y2, .int .i64 y3, .int .i64 y4, .int .i64 y5, .int .i64 y6, .int .i64 y7, .int .i64 y8] from rfl]
        clear HR1 HR2 HNE HX HY
        rcases bd_diff hxy with hd | ⟨rfl, hd⟩ | ⟨rfl, rfl, hd⟩ | ⟨rfl, rfl, rfl, hd⟩ | ⟨rfl, rfl, rfl, rfl, hd⟩ | ⟨rfl, rfl, rfl, rfl, rfl, hd⟩ | ⟨rfl, rfl, rfl, rfl, rfl, rfl, hd⟩ | ⟨rfl, rfl, rfl, rfl, rfl, rfl, rfl, hd⟩ | ⟨rfl, rfl, rfl, rfl, rfl, rfl, rfl, rfl, hd⟩
        all_goals
          have hdb := beq_eq_false_iff_ne.2 hd
          clear hxy
          go_wp2_with fail
          go_ret
          exact ⟨by rw [HN.out]; rfl, hbd⟩
    · have HN := Lib.hid (HR.out.trans (sameBs_yes HLN.out fun j hj => HK.out j (by omega)))
      go_wp2_with fail
      go_ret
      exact ⟨by rw [HN.out]; rfl, hbl⟩
end Go.Proofs.Ytkcknikaidbeoaa
