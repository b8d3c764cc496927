/- SameWorld: levels compared, the program's SameWorld. -/
import Derived.Test.YtkcknikaidbeoaaSwd
namespace Go.Proofs.Ytkcknikaidbeoaa
open Go.RowKit

theorem toList_inj {a b : ByteArray} (h : a.toList = b.toList) : a = b := by
  rw [ByteArray.toList_eq, ByteArray.toList_eq] at h
  obtain ⟨⟨x⟩⟩ := a
  obtain ⟨⟨y⟩⟩ := b
  simp only at h
  subst h; rfl
theorem sameS_len {a b : List ByteArray} (h : a.length ≠ b.length) : sameS a b = false := decide_eq_false (fun e => h (by rw [e]))
theorem sameS_ne {a b : List ByteArray} {k : Nat} {h1 : k < a.length} {h2 : k < b.length} (h : a[k]'h1 ≠ b[k]'h2) : sameS a b = false := decide_eq_false (fun e => h (by subst e; rfl))
theorem sameS_yes {a b : List ByteArray} (hl : a.length = b.length) (h : ∀ j (h1 : j < a.length) (h2 : j < b.length), a[j]'h1 = b[j]'h2) : sameS a b = true := decide_eq_true (List.ext_getElem hl h)
set_option maxHeartbeats 800000 in
theorem slstrs_ret {va vb : Value} {la lb : List ByteArray} (w : World) (ha : At w 1 va la.length (la.map Value.string)) (hb : At w 1 vb lb.length (lb.map Value.string)) (hm : la.length ≤ 1099511627776) :
    Calls Try.prog 140 #[va, vb] w fun e w' => e = .returned (.bool (sameS la lb)) ∧ ∃ k, w' = w.drewN k := by
  obtain ⟨ao, cap, rfl, hca⟩ := ha.cellS
  obtain ⟨bo, cap2, rfl, hcb⟩ := hb.cellS
  by_cases hl : la.length = lb.length
  · have HL := Lib.hid hl
    rw [← hl]
    go_enter Try.func140, Try.ntmps140
    go_wp2
    go_loopw [13] (fun i wr => ∃ k : Nat, k ≤ la.length ∧ i = .int .i64 k ∧ Hid (∀ j (h1 : j < la.length) (h2 : j < lb.length), j < k → la[j]'h1 = lb[j]'h2) ∧ ∃ d, wr = w.drewN d) (fun i _ => la.length - (intOf i).toNat)
    case atStart => exact ⟨0, Nat.zero_le _, rfl, Lib.hid fun j _ _ h => by omega, 0, rfl⟩
    case round =>
      obtain ⟨k, hk, rfl, HE, d, rfl⟩ := hrel
      by_cases hlt : k < la.length
      · have hlt2 : k < lb.length := by have := HL.out; omega
        obtain ⟨g, off, rfl, hg, hcell⟩ := hca (by omega)
        obtain ⟨g2, off2, rfl, hg2, hcell2⟩ := hcb (by omega)
        clear hca hcb
        have c1 := hcell k hlt
        have c2 := hcell2 k hlt2
        clear hcell hcell2
        by_cases he : la[k]'hlt = lb[k]'hlt2
        · have HE' : Hid (∀ j (h1 : j < la.length) (h2 : j < lb.length), j < k + 1 → la[j]'h1 = lb[j]'h2) := Lib.hid fun j h1 h2 h3 => by
            by_cases e : j = k
            · subst e; exact he
            · exact HE.out j h1 h2 (by omega)
          rw [← he] at c2
          clear he hl
          go_wp2
          go_region
          go_wp2
          go_roundw
          case rel => exact ⟨k + 1, by omega, by go_num, HE', d + 1, rfl⟩
          case measure => simp [intOf]; omega
        · have HN := Lib.hid (sameS_ne he)
          have hb' : ((la[k]'hlt).toList == (lb[k]'hlt2).toList) = false := beq_eq_false_iff_ne.2 (fun e => he (toList_inj e))
          clear hl
          go_wp2
          go_region
          go_wp2
          go_ret
          exact ⟨ret_bool (by rw [HN.out]), d + 1, rfl⟩
      · have HN := Lib.hid (sameS_yes hl fun j h1 h2 => HE.out j h1 h2 (by omega))
        go_wp2
        go_ret
        exact ⟨ret_bool (by rw [HN.out]), d, rfl⟩
  · have HN := Lib.hid (sameS_len hl)
    have hb' : ((la.length : Int) == (lb.length : Int)) = false := beq_eq_false_iff_ne.2 (by omega)
    go_enter Try.func140, Try.ntmps140
    go_wp2
    go_ret
    exact ⟨ret_bool (by rw [HN.out]), 0, rfl⟩

theorem samelev_impl {u v : Value} {la lb : List ByteArray} (w : World) (ha : At w 1 u la.length (la.map Value.string)) (hb : At w 1 v lb.length (lb.map Value.string)) (hm : la.length ≤ 1048576) :
    Calls Try.prog 97 #[.agg #[u], .agg #[v]] w fun e w' => e = .returned (.bool (sameS la lb)) ∧ Below w.heap.size w w' := by
  have hu' := ha
  have hv' := hb
  obtain ⟨ao, cap, rfl, hc⟩ := ha.cellS
  obtain ⟨bo, cap2, rfl, hc2⟩ := hb.cellS
  clear hc hc2 ha hb
  have hbl : ∀ (A B : Obj), Below w.heap.size w ((w.alloc A).alloc B) := fun A B => ((Below.refl _ _).alloc (Nat.le_refl _) _).alloc (by simp) _
  go_enter Try.func97, Try.ntmps97
  go_wp2_with fail
  refine (slstrs_ret _ (hu'.below (hbl _ _)) (hv'.below (hbl _ _)) (by omega)).mono ?_
  rintro e w1 ⟨rfl, k, rfl⟩
  go_wp2_with fail
  go_ret
  exact ⟨rfl, below_drewN (hbl _ _) k⟩
theorem sameL_eq (a b : List Int) : sameL a b = decide (a = b) := by
  unfold sameL
  by_cases h : a = b
  · subst h; simp
  · rw [beq_eq_false_iff_ne.2 h, decide_eq_false h]
set_option maxRecDepth 100000 in
set_option maxHeartbeats 4000000 in
theorem sameworld_impl {u us ub v vs vb : Value} {X Y : Wd} (w : World) (h : WAt w u us ub X) (k : WAt w v vs vb Y) (hm : WSmall X) (hm2 : WSmall Y) :
    Calls Try.prog 44 #[.agg #[u, .int .i64 X.tick, .int .i64 X.seed, us, ub], .agg #[v, .int .i64 Y.tick, .int .i64 Y.seed, vs, vb]] w fun e w' => e = .returned (.bool (sameW X Y)) ∧ Below w.heap.size w w' := by
  obtain ⟨hr, hs, hb⟩ := h
  obtain ⟨kr, ks, kb⟩ := k
  have HW : Hid (sameW X Y = (sameS X.rows Y.rows && (decide (X.tick = Y.tick) && (decide (X.seed = Y.seed) && (sameL X.scores Y.scores && sameBs X.bodies Y.bodies))))) := Lib.hid (by rw [sameL_eq]; rfl)
  generalize sameW X Y = R at *
  obtain ⟨rows, tk, sd, sc, bs⟩ := X
  obtain ⟨rows2, tk2, sd2, sc2, bs2⟩ := Y
  obtain ⟨m0, _, m2, m3⟩ := hm
  obtain ⟨_, _, _, n3⟩ := hm2
  simp only at hr hs hb kr ks kb m0 m2 m3 n3 HW ⊢
  go_enter Try.func44, Try.ntmps44
  go_upto_region 1 with (fail)
  generalize hw1 : (w.alloc _).alloc _ = w1
  have hb1 : Below w.heap.size w w1 := by rw [← hw1]; exact ((Below.refl _ _).alloc (Nat.le_refl _) _).alloc (by simp) _
  have hA1 : WBlk w1 w.heap.size u tk sd us ub := by rw [← hw1]; exact (WBlk.new w _ u tk sd us ub).alloc _
  have hC1 : WBlk w1 (w.heap.size + 1) v tk2 sd2 vs vb := by
    rw [← hw1]
    have := WBlk.new (w.alloc (.cells #[u, .int .i64 tk, .int .i64 sd, us, ub] 50)) 50 v tk2 sd2 vs vb
    rwa [show (w.alloc (.cells #[u, .int .i64 tk, .int .i64 sd, us, ub] 50)).heap.size = w.heap.size + 1 by simp] at this
  clear hw1
  obtain ⟨_, c0, c1, c2, c3, c4, _⟩ := id hA1
  obtain ⟨_, d0, d1, d2, d3, d4, _⟩ := id hC1
  go_wp2_with fail
  refine (samelev_impl _ (hr.below hb1) (kr.below hb1) m0).mono ?_
  rintro e wa ⟨rfl, ha⟩
  have hb2 := hb1.trans (ha.mono hb1.size)
  have hA2 := hA1.below ha hA1.lt
  have hC2 := hC1.below ha hC1.lt
  clear ha hA1 hC1 hb1 c0 c1 c2 c3 c4 d0 d1 d2 d3 d4
  obtain ⟨_, c0, c1, c2, c3, c4, _⟩ := id hA2
  obtain ⟨_, d0, d1, d2, d3, d4, _⟩ := id hC2
  cases hss : sameS rows rows2 with
  | false =>
    have HN : Hid (R = false) := Lib.hid (by rw [HW.out, hss]; rfl)
    clear hss
    go_wp2_with fail
    go_ret
    exact ⟨by rw [HN.out]; rfl, hb2⟩
  | true =>
  have HSS := Lib.hid hss
  clear hss
  by_cases ht : ¬ tk = tk2
  · have HN : Hid (R = false) := Lib.hid (by rw [HW.out, decide_eq_false ht]; simp)
    have x1 : (tk == tk2) = false := beq_eq_false_iff_ne.2 ht
    go_wp2_with fail
    go_ret
    exact ⟨by rw [HN.out]; rfl, hb2⟩
  replace ht := Classical.not_not.1 ht
  subst ht
  by_cases hq : ¬ sd = sd2
  · have HN : Hid (R = false) := Lib.hid (by rw [HW.out, decide_eq_false hq]; simp)
    have x1 : (sd == sd2) = false := beq_eq_false_iff_ne.2 hq
    go_wp2_with fail
    go_ret
    exact ⟨by rw [HN.out]; rfl, hb2⟩
  replace hq := Classical.not_not.1 hq
  subst hq
  go_wp2_with fail
  refine (slequal_ret _ (hs.below hb2) (ks.below hb2) (by omega)).mono ?_
  rintro e wb ⟨rfl, n, hwb⟩
  have hb3 : Below w.heap.size w wb := by rw [hwb]; exact below_drewN hb2 n
  have hA3 : WBlk wb w.heap.size u tk sd us ub := by rw [hwb]; exact hA2.drewN n
  have hC3 : WBlk wb (w.heap.size + 1) v tk sd vs vb := by rw [hwb]; exact hC2.drewN n
  clear hwb hA2 hC2 hb2 c0 c1 c2 c3 c4 d0 d1 d2 d3 d4
  obtain ⟨_, c0, c1, c2, c3, c4, _⟩ := id hA3
  obtain ⟨_, d0, d1, d2, d3, d4, _⟩ := id hC3
  cases hsl : sameL sc sc2 with
  | false =>
    have HN : Hid (R = false) := Lib.hid (by rw [HW.out, hsl]; simp)
    clear hsl
    go_wp2_with fail
    go_ret
    exact ⟨by rw [HN.out]; rfl, hb3⟩
  | true =>
  have HN : Hid (R = sameBs bs bs2) := Lib.hid (by rw [HW.out, hsl, HSS.out]; simp)
  clear hsl
  go_wp2_with fail
  refine (slbods_ret _ (hb.below hb3) (kb.below hb3) m3 n3).mono ?_
  rintro e wc ⟨rfl, hc⟩
  go_wp2_with fail
  go_ret
  exact ⟨by rw [HN.out]; rfl, hb3.trans (hc.mono hb3.size)⟩
end Go.Proofs.Ytkcknikaidbeoaa
