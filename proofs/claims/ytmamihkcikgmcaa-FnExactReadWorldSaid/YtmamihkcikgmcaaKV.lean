/- Texts Rds in one. -/
import Derived.Test.YtmamihkcikgmcaaKH
import Derived.Test.YtmamihkcikgmcaaKU
/- ReadWorld, the reference's. -/
namespace Go.Proofs.Ytmamihkcikgmcaa
open Go.RowKit

theorem bytes_inj {a b : ByteArray} (h : a.toList = b.toList) : a = b := by
  rw [ByteArray.toList_eq, ByteArray.toList_eq] at h
  obtain ⟨⟨x⟩⟩ := a
  obtain ⟨⟨y⟩⟩ := b
  simp only at h
  subst h; rfl
theorem wrapq {x : Int} (h : 0 ≤ x ∧ x < 9223372036854775808) : IntKind.i64.wrap x = x := by
  simp [IntKind.wrap, IntKind.bits, IntKind.signed]; omega
/-- the world in the making, its scores in place -/
structure RdK (wa wx : World) (X : Wd) (p : Value) : Prop where
  ex : ∃ G x xs, p = .pointer (some ⟨G, 0, none⟩) ∧ Hd wx wa.heap.size G x xs nilV X
  bl : Below wa.heap.size wa wx
theorem Hd.new2 {wn : World} {B G : Nat} {x v : Value} {l : List ByteArray} {tk sd : Int} {sc : List Int} (hG : WBlk wn G x tk sd v nilV) (hx : Own wn B 1 x l.length (l.map Value.string)) (hv : Own wn B 1 v sc.length (ints sc)) (hn : x.ownBlock ≠ some G) (hn2 : v.ownBlock ≠ some G) (hd : Dj x v) (hB : B ≤ G) : Hd wn B G x v nilV ⟨l, tk, sd, sc, []⟩ :=
  ⟨hG, ⟨hx, hv, Own.nil _ _ _, hd, Dj.symm (.inl rfl), Dj.symm (.inl rfl)⟩, hn, hn2, (fun e => by cases e), hB⟩
set_option maxRecDepth 100000 in
set_option maxHeartbeats 16000000 in
theorem readworld_spec {u : Value} {l : List ByteArray} (s : ByteArray) (w : World) (h : At w 1 u l.length (l.map Value.string)) (hm : l.length ≤ 1048576) (hz : ∀ s ∈ l, s.size ≤ 1048576) (hs : s.size ≤ 1048576) :
    Calls Try.prog 36 #[.agg #[u], .string s] w fun e w' => ∃ x xs xb, e = .returned (.tuple #[.agg #[x, .int .i64 (readW l s).1.tick, .int .i64 (readW l s).1.seed, xs, xb], .bool (readW l s).2]) ∧ WOwn w' w.heap.size x xs xb (readW l s).1 ∧ Below w.heap.size w w' := by
  have HC : ∀ wx, Below w.heap.size w wx → Calls Try.prog 69 #[.agg #[u]] wx fun e w' => ∃ x, e = .returned (.agg #[x]) ∧ Own w' wx.heap.size 1 x l.length (l.map Value.string) ∧ Below wx.heap.size wx w' := fun wx hx => copylev_spec wx (h.below hx) hm
  have HU : ∀ wx, Calls Try.prog 89 #[.string s, .int .i64 0] wx fun e w' => ∃ u, e = .returned (.tuple #[u, .int .i64 (unpI s 0).2.1, .bool (unpI s 0).2.2]) ∧ Own w' wx.heap.size 1 u (unpI s 0).1.length (ints (unpI s 0).1) ∧ Below wx.heap.size wx w' := fun wx => upk_spec s 0 wx (by omega)
  have HNO := Lib.hid (readW_no (rows := l) (s := s))
  have HBAD := Lib.hid (fun hw => readW_bad (rows := l) (s := s) rfl hw)
  have HYES := Lib.hid (fun h1 hw => readW_yes (rows := l) (s := s) rfl h1 hw)
  have HSA := Lib.hid (fun h1 hw => bytes_same (rows := l) (s := s) rfl h1 hw)
  have HOT := Lib.hid (fun h1 hw => bytes_other (rows := l) (s := s) rfl h1 hw)
  have HR1 := Lib.hid (readOk_ok (s := s))
  have HR2 := Lib.hid (readOk_sz (s := s))
  have HR3 := Lib.hid (readOk_fit (s := s))
  have HR4 := Lib.hid (readOk_yes (s := s))
  have HOK := Lib.hid (unpI_okS s)
  have hlm := unpI_len s
  generalize (unpI s 0).1 = L at *
  generalize (unpI s 0).2.1 = z at *
  generalize (unpI s 0).2.2 = ok at *
  go_enter Try.func36, Try.ntmps36
  go_upto_region 1 with (fail)
  generalize hw1 : (w.alloc _).alloc _ = w1
  have hb1 : Below w.heap.size w w1 := by rw [← hw1]; exact ((Below.refl _ _).alloc (Nat.le_refl _) _).alloc (by simp) _
  have hL1 : w1.cell? ⟨w.heap.size, 0, none⟩ = some u := by rw [← hw1]; exact cell_alloc_lt (World.cell?_alloc_new w _ _ 0) _ (by simp)
  have hR1 : WBlk w1 (w.heap.size + 1) nilV 0 0 nilV nilV := by
    rw [← hw1]
    have := WBlk.new (w.alloc (.cells #[u] 27)) 36 nilV 0 0 nilV nilV
    rwa [show (w.alloc (.cells #[u] 27)).heap.size = w.heap.size + 1 by simp] at this
  clear hw1
  apply wp_region_lit
  iterate 3 go_step
  refine wpList_callC rfl 89 _ _ rfl Try.func89 (by kernel_rfl) (by kernel_rfl) #[.string s, .int .i64 0] (by kernel_rfl) (HU w1) ?_
  rintro e wa ⟨v, rfl, hv, hk⟩
  refine ⟨_, rfl, ?_⟩
  have hb := hb1.trans (hk.mono hb1.size)
  have hR := hR1.below hk hR1.lt
  have hlt1 := hR1.lt
  have hL : wa.cell? ⟨w.heap.size, 0, none⟩ = some u := (hk.cell (p := ⟨w.heap.size, 0, none⟩) (by show w.heap.size < _; omega)).trans hL1
  have hsz : w.heap.size + 2 ≤ wa.heap.size := by have := hk.size; omega
  obtain ⟨_, ao, cap, rfl, hcn, hcm, _⟩ := id hv.at_
  clear hb1 hL1 hR1 hk HU hlt1 hcn hcm
  simp only [Act.put, List.setIfInBounds_toArray, List.set_cons_zero, List.set_cons_succ]
  go_upto_region 2 with (fail)
  cases ok with
  | false =>
    have HN := Lib.hid (HNO.out (HR1.out rfl))
    go_upto_region 3 with (fail)
    have hRs := (hR.setAll (u' := nilV) (us' := nilV) (ub' := nilV) (tk' := 0) (sd' := 0)).range
    have hbs := setCells_below (o := 0) (vs := wcells nilV 0 0 nilV nilV) hb (show w.heap.size ≤ w.heap.size + 1 by omega)
    have hRt := hR.there
    apply wp_region_lit
    iterate 3 go_step
    refine store_wld (op := ⟨none, _, _, _, _, _⟩) rfl _ _ rfl (w.heap.size + 1) rfl nilV 0 0 nilV nilV rfl hRt rfl rfl rfl ?_
    generalize hwn : World.setCells _ _ _ _ = wn
    rw [hwn] at hRs hbs
    clear hwn
    repeat go_step
    refine bodyPost_ret (res_wld2 rfl rfl rfl hRs) rfl ?_
    exact ⟨nilV, nilV, nilV, by rw [HN.out]; rfl, by rw [HN.out]; exact wown_nil _ _, hbs⟩
  | true =>
  by_cases hzz : z = (s.size : Int)
  rotate_left
  · have HN := Lib.hid (HNO.out (HR2.out hzz))
    have x1 : (z != (s.size : Int)) = true := bne_iff_ne.2 hzz
    go_upto_region 3 with (fail)
    have hRs := (hR.setAll (u' := nilV) (us' := nilV) (ub' := nilV) (tk' := 0) (sd' := 0)).range
    have hbs := setCells_below (o := 0) (vs := wcells nilV 0 0 nilV nilV) hb (show w.heap.size ≤ w.heap.size + 1 by omega)
    have hRt := hR.there
    apply wp_region_lit
    iterate 3 go_step
    refine store_wld (op := ⟨none, _, _, _, _, _⟩) rfl _ _ rfl (w.heap.size + 1) rfl nilV 0 0 nilV nilV rfl hRt rfl rfl rfl ?_
    generalize hwn : World.setCells _ _ _ _ = wn
    rw [hwn] at hRs hbs
    clear hwn
    repeat go_step
    refine bodyPost_ret (res_wld2 rfl rfl rfl hRs) rfl ?_
    exact ⟨nilV, nilV, nilV, by rw [HN.out]; rfl, by rw [HN.out]; exact wown_nil _ _, hbs⟩
  by_cases hl3 : L.length < 3
  · have HN := Lib.hid (HNO.out (HR3.out fun e => by have := e.1; omega))
    subst hzz
    have x1 : decide ((L.length : Int) < 3) = true := decide_eq_true (by omega)
    go_upto_region 3 with (fail)
    have hRs := (hR.setAll (u' := nilV) (us' := nilV) (ub' := nilV) (tk' := 0) (sd' := 0)).range
    have hbs := setCells_below (o := 0) (vs := wcells nilV 0 0 nilV nilV) hb (show w.heap.size ≤ w.heap.size + 1 by omega)
    have hRt := hR.there
    apply wp_region_lit
    iterate 3 go_step
    refine store_wld (op := ⟨none, _, _, _, _, _⟩) rfl _ _ rfl (w.heap.size + 1) rfl nilV 0 0 nilV nilV rfl hRt rfl rfl rfl ?_
    generalize hwn : World.setCells _ _ _ _ = wn
    rw [hwn] at hRs hbs
    clear hwn
    repeat go_step
    refine bodyPost_ret (res_wld2 rfl rfl rfl hRs) rfl ?_
    exact ⟨nilV, nilV, nilV, by rw [HN.out]; rfl, by rw [HN.out]; exact wown_nil _ _, hbs⟩
  have x1 : decide ((L.length : Int) < 3) = false := decide_eq_false (by omega)
  subst hzz
  obtain ⟨g, rfl, hgw⟩ : ∃ g, ao = some ⟨g, 0, none⟩ ∧ g < wa.heap.size := by
    rcases hv.val with ⟨_, e⟩ | ⟨g, cap', e, _, hg, _⟩
    · omega
    · simp only [Value.slice.injEq] at e
      exact ⟨g, e.1, hg⟩
  have hcell := fun k hk => hv.iAt_cell (k := k) hk
  have hatL := hv.at_
  have hcap : L.length ≤ cap := by
    obtain ⟨_, ao', cap', he, hn, _⟩ := hatL
    simp only [Value.slice.injEq] at he
    omega
  have e2 := hcell 2 (by omega)
  obtain ⟨n, hn⟩ : ∃ n, iAt L 2 = n := ⟨_, rfl⟩
  rw [hn] at e2
  go_wp2_with fail
  refine (in_any _ _ _ _).mono ?_
  rintro e wx ⟨rfl, rfl⟩
  cases hin : inB n 1 4 with
  | false =>
    have HN := Lib.hid (HNO.out (HR3.out fun e => by unfold fitL at e; rw [hn] at e; have := inB_yes e.2.1 e.2.2.1; rw [hin] at this; cases this))
    go_upto_region 3 with (fail)
    have hRs := (hR.setAll (u' := nilV) (us' := nilV) (ub' := nilV) (tk' := 0) (sd' := 0)).range
    have hbs := setCells_below (o := 0) (vs := wcells nilV 0 0 nilV nilV) hb (show w.heap.size ≤ w.heap.size + 1 by omega)
    have hRt := hR.there
    apply wp_region_lit
    iterate 3 go_step
    refine store_wld (op := ⟨none, _, _, _, _, _⟩) rfl _ _ rfl (w.heap.size + 1) rfl nilV 0 0 nilV nilV rfl hRt rfl rfl rfl ?_
    generalize hwn : World.setCells _ _ _ _ = wn
    rw [hwn] at hRs hbs
    clear hwn
    repeat go_step
    refine bodyPost_ret (res_wld2 rfl rfl rfl hRs) rfl ?_
    exact ⟨nilV, nilV, nilV, by rw [HN.out]; rfl, by rw [HN.out]; exact wown_nil _ _, hbs⟩
  | true =>
  have hn2 := inB_iff.1 hin
  clear hin
  obtain ⟨m, rfl⟩ : ∃ m : Nat, n = m := ⟨n.toNat, by omega⟩
  by_cases hl4 : L.length < 3 + m
  · have HN := Lib.hid (HNO.out (HR3.out fun e => by unfold fitL at e; have := e.2.2.2.1; rw [hn, Int.toNat_natCast] at this; omega))
    have x2 : decide ((L.length : Int) < 3 + (m : Int)) = true := decide_eq_true (by omega)
    go_upto_region 3 with (fail)
    have hRs := (hR.setAll (u' := nilV) (us' := nilV) (ub' := nilV) (tk' := 0) (sd' := 0)).range
    have hbs := setCells_below (o := 0) (vs := wcells nilV 0 0 nilV nilV) hb (show w.heap.size ≤ w.heap.size + 1 by omega)
    have hRt := hR.there
    apply wp_region_lit
    iterate 3 go_step
    refine store_wld (op := ⟨none, _, _, _, _, _⟩) rfl _ _ rfl (w.heap.size + 1) rfl nilV 0 0 nilV nilV rfl hRt rfl rfl rfl ?_
    generalize hwn : World.setCells _ _ _ _ = wn
    rw [hwn] at hRs hbs
    clear hwn
    repeat go_step
    refine bodyPost_ret (res_wld2 rfl rfl rfl hRs) rfl ?_
    exact ⟨nilV, nilV, nilV, by rw [HN.out]; rfl, by rw [HN.out]; exact wown_nil _ _, hbs⟩
  have x2 : decide ((L.length : Int) < 3 + (m : Int)) = false := decide_eq_false (by omega)
  by_cases h9 : (L.length - (3 + m)) % 9 = 0
  rotate_left
  · have HN := Lib.hid (HNO.out (HR3.out fun e => by unfold fitL at e; have := e.2.2.2.2; rw [hn, Int.toNat_natCast] at this; omega))
    go_upto_region 3 with (fail)
    have hRs := (hR.setAll (u' := nilV) (us' := nilV) (ub' := nilV) (tk' := 0) (sd' := 0)).range
    have hbs := setCells_below (o := 0) (vs := wcells nilV 0 0 nilV nilV) hb (show w.heap.size ≤ w.heap.size + 1 by omega)
    have hRt := hR.there
    apply wp_region_lit
    iterate 3 go_step
    refine store_wld (op := ⟨none, _, _, _, _, _⟩) rfl _ _ rfl (w.heap.size + 1) rfl nilV 0 0 nilV nilV rfl hRt rfl rfl rfl ?_
    generalize hwn : World.setCells _ _ _ _ = wn
    rw [hwn] at hRs hbs
    clear hwn
    repeat go_step
    refine bodyPost_ret (res_wld2 rfl rfl rfl hRs) rfl ?_
    exact ⟨nilV, nilV, nilV, by rw [HN.out]; rfl, by rw [HN.out]; exact wown_nil _ _, hbs⟩
  go_upto_region 4 with (fail)
  go_upto_region 5 with (fail)
  clear x1 x2
  have e0 := hcell 0 (by omega)
  have e1 := hcell 1 (by omega)
  have hB0 := (Below.refl wa.heap.size wa).drew
  have hbd := hb.drew
  go_cut [10] (fun p wx => RdK wa wx ⟨l, iAt L 0, iAt L 1, (L.drop 3).take m, []⟩ p)
  case first =>
    refine wp_region_sch (fun wx => Below wa.heap.size wa wx) 15 6 (.st 0 (.st 2 (.st 3 (.st 4 (.st 5 (.st 6 (.st 7 (.st 9 (.st 10 (.st 11 (.three 1 (.two 8 (.two 12 (.st 13 (.ef 14 (.fin [15]))) 14 (.ef 12 (.st 13 (.fin [15])))) 14 (.ef 8 (.ef 12 (.st 13 (.fin [15]))))) 8 (.two 1 (.two 12 (.st 13 (.ef 14 (.fin [15]))) 14 (.ef 12 (.st 13 (.fin [15])))) 14 (.ef 1 (.ef 12 (.st 13 (.fin [15]))))) 14 (.two 1 (.ef 8 (.ef 12 (.st 13 (.fin [15])))) 8 (.ef 1 (.ef 12 (.st 13 (.fin [15])))))))))))))))) (by kernel_rfl) (by kernel_rfl) (fun _ _ d _ _ h => by cases d <;> exact h) hB0 ?_
    refine sch_still (o := ⟨some 63, _, _, _, _, _⟩) (v := .agg #[u]) rfl rfl ?_ ?_
    · intro wx hSx
      have c := (hSx.cell (p := ⟨w.heap.size, 0, none⟩) (by show w.heap.size < _; omega)).trans hL; go_simp
    simp only [Act.put, List.setIfInBounds_toArray, List.set_cons_zero, List.set_cons_succ]
    refine sch_still (o := ⟨some 65, _, _, _, _, _⟩) (v := .slice (some ⟨g, 0, none⟩) L.length cap) rfl rfl ?_ ?_
    · intro wx hSx
      go_simp
    simp only [Act.put, List.setIfInBounds_toArray, List.set_cons_zero, List.set_cons_succ]
    refine sch_still (o := ⟨some 66, _, _, _, _, _⟩) (v := .pointer (some ⟨g, 0, none⟩)) rfl rfl ?_ ?_
    · intro wx hSx
      go_simp; intro e; rw [e] at hl3; simp at hl3
    simp only [Act.put, List.setIfInBounds_toArray, List.set_cons_zero, List.set_cons_succ]
    refine sch_still (o := ⟨some 67, _, _, _, _, _⟩) (v := .int .i64 (iAt L 0)) rfl rfl ?_ ?_
    · intro wx hSx
      have c := (hSx.cell (p := ⟨g, 0, none⟩) hgw).trans e0; go_simp
    simp only [Act.put, List.setIfInBounds_toArray, List.set_cons_zero, List.set_cons_succ]
    refine sch_still (o := ⟨some 68, _, _, _, _, _⟩) (v := .slice (some ⟨g, 0, none⟩) L.length cap) rfl rfl ?_ ?_
    · intro wx hSx
      go_simp
    simp only [Act.put, List.setIfInBounds_toArray, List.set_cons_zero, List.set_cons_succ]
    refine sch_still (o := ⟨some 69, _, _, _, _, _⟩) (v := .pointer (some ⟨g, 1, none⟩)) rfl rfl ?_ ?_
    · intro wx hSx
      go_simp; intro e; omega
    simp only [Act.put, List.setIfInBounds_toArray, List.set_cons_zero, List.set_cons_succ]
    refine sch_still (o := ⟨some 70, _, _, _, _, _⟩) (v := .int .i64 (iAt L 1)) rfl rfl ?_ ?_
    · intro wx hSx
      have c := (hSx.cell (p := ⟨g, 1, none⟩) hgw).trans e1; go_simp
    simp only [Act.put, List.setIfInBounds_toArray, List.set_cons_zero, List.set_cons_succ]
    refine sch_still (o := ⟨some 72, _, _, _, _, _⟩) (v := .slice (some ⟨g, 0, none⟩) L.length cap) rfl rfl ?_ ?_
    · intro wx hSx
      go_simp
    simp only [Act.put, List.setIfInBounds_toArray, List.set_cons_zero, List.set_cons_succ]
    refine sch_still (o := ⟨some 73, _, _, _, _, _⟩) (v := .int .i64 (3 + (m : Int))) rfl rfl ?_ ?_
    · intro wx hSx
      go_simp
    simp only [Act.put, List.setIfInBounds_toArray, List.set_cons_zero, List.set_cons_succ]
    refine sch_still (o := ⟨some 74, _, _, _, _, _⟩) (v := sliced (some ⟨g, 0, none⟩) 3 (3 + m) cap 1) rfl rfl ?_ ?_
    · intro wx hSx
      exact still_slice_lh _ _ _ rfl (lo := 3) (hi := 3 + m) rfl rfl rfl rfl rfl (by omega) (by omega)
    simp only [Act.put, List.setIfInBounds_toArray, List.set_cons_zero, List.set_cons_succ]
    have hat2 := fun (wz : World) (hz : At wz 1 (.slice (some ⟨g, 0, none⟩) L.length cap) L.length (ints L)) => At.sub hz (lo := 3) (hi := 3 + m) (by omega) (by omega)
    rw [show 3 + m - 3 = m by omega] at hat2
    generalize sliced (some ⟨g, 0, none⟩) 3 (3 + m) cap 1 = v2 at hat2 ⊢
    obtain ⟨SC, hSC⟩ : ∃ SC, (L.drop 3).take m = SC := ⟨_, rfl⟩
    have hscl : SC.length ≤ 4 := by rw [← hSC, List.length_take]; omega
    rw [hSC] at hat2
    have HSC := Lib.hid hSC
    clear hSC
    have hs0 : wa.heap.size ≤ wa.drew.heap.size := Nat.le_refl _
    generalize wa.drew = wq at hB0 hbd hs0 ⊢
    refine sch_3 (o := ⟨some 64, _, _, _, _, _⟩) (p := ⟨some 71, _, _, _, _, _⟩) (q := ⟨some 10, _, _, _, _, _⟩) rfl rfl rfl ?_ ?_ ?_
    · refine wpList_callC rfl 69 _ _ rfl Try.func69 (by kernel_rfl) (by kernel_rfl) #[.agg #[u]] (by kernel_rfl) (HC _ (hb.trans (hB0.mono hb.size))) ?_
      rintro e wc1 ⟨x, rfl, hx, hk⟩
      refine ⟨_, rfl, ?_⟩
      have hxg : ∀ i, x.ownBlock = some i → wq.heap.size ≤ i ∧ i < wc1.heap.size := hx.ge
      have hB1 := hB0.trans (hk.mono (by omega))
      have hs1 := hk.size
      clear hk
      refine sch_next hB1 ?_
      simp only [Act.put, List.setIfInBounds_toArray, List.set_cons_zero, List.set_cons_succ]
      refine sch_2 (o := ⟨some 71, _, _, _, _, _⟩) (p := ⟨some 10, _, _, _, _, _⟩) rfl rfl ?_ ?_
      · iterate 3 go_step
        have hy := own_lit0 wc1
        have hk : Below wc1.heap.size wc1 (wc1.alloc (.cells #[] 3)) := (Below.refl _ _).alloc (Nat.le_refl _) _
        generalize World.alloc wc1 _ = wz2 at hy hk ⊢
        have hyl : wc1.heap.size < wz2.heap.size := (hy.ge _ rfl).2
        have hB2 := hB1.trans (hk.mono (by omega))
        have hs2 := hk.size
        replace hx := hx.belowS hk
        clear hk
        refine sch_next hB2 ?_
        refine sch_2 (o := ⟨some 75, _, _, _, _, _⟩) (p := ⟨some 10, _, _, _, _, _⟩) rfl rfl ?_ ?_
        · refine app_ints (o := ⟨some 75, _, _, _, _, _⟩) wz2 rfl _ _ rfl wa.heap.size (hy.mono (by omega)) rfl (hat2 _ (hatL.below hB2)) rfl (by simp only [List.length_nil]; omega) (by omega) ?_
          intro v3 wp3 hv3 hg hvb
          simp only [List.nil_append] at hv3
          obtain ⟨vo, vc, rfl⟩ := hv3.slice_
          have hBg : Below wa.heap.size wa wp3 := hB2.grown hg (by omega) (fun k h => by have := (hy.ge k h).1; omega)
          have hvg : ∀ i, (Value.slice vo SC.length vc).ownBlock = some i → i = wc1.heap.size ∨ wz2.heap.size ≤ i := fun i hi => by rcases hvb with e | ⟨g', e, hgg⟩; (· rw [e] at hi; exact .inl (Option.some.inj (show some wc1.heap.size = some i from hi)).symm); (· rw [e] at hi; simp only [Option.some.injEq] at hi; exact .inr (by omega))
          have hvl : ∀ i, (Value.slice vo SC.length vc).ownBlock = some i → i < wp3.heap.size := fun i hi => (hv3.ge i hi).2
          have hsp := hg.size
          replace hx := hx.kept hg (.inr (by intro e; have := hxg wc1.heap.size e; omega))
          clear hy hg hvb
          refine sch_next hBg ?_
          simp only [Act.put, List.setIfInBounds_toArray, List.set_cons_zero, List.set_cons_succ]
          refine sch_still (o := ⟨some 76, _, _, _, _, _⟩) (v := .agg #[x, .int .i64 (iAt L 0), .int .i64 (iAt L 1), (Value.slice vo SC.length vc), nilV]) rfl rfl ?_ ?_
          · intro wx hSx
            go_simp; rfl
          simp only [Act.put, List.setIfInBounds_toArray, List.set_cons_zero, List.set_cons_succ]
          refine sch_ef (o := ⟨some 10, _, _, _, _, _⟩) rfl ?_
          refine alloc_wld rfl rfl ?_
          have hG := WBlk.new wp3 36 nilV 0 0 nilV nilV
          have hk : Below wp3.heap.size wp3 (wp3.alloc (.cells #[nilV, .int .i64 0, .int .i64 0, nilV, nilV] 36)) := (Below.refl _ _).alloc (Nat.le_refl _) _
          generalize World.alloc wp3 _ = wa4 at hG hk ⊢
          have hGl := hG.lt
          have hB4 := hBg.trans (hk.mono (by omega))
          have hs4 := hk.size
          replace hx := hx.belowS hk
          replace hv3 := hv3.belowS hk
          clear hk
          refine sch_next hB4 ?_
          simp only [Act.put, List.setIfInBounds_toArray, List.set_cons_zero, List.set_cons_succ]
          refine sch_end (.cons (o := ⟨none, _, _, _, _, _⟩) rfl .nil) ?_
          have ox := slice_one hx.at_
          have ov := slice_one hv3.at_
          refine store_wld (op := ⟨none, _, _, _, _, _⟩) rfl _ _ rfl (wp3.heap.size) rfl x (iAt L 0) (iAt L 1) (Value.slice vo SC.length vc) nilV rfl hG.there ox ov rfl ?_
          have hq := And.intro (hG.setAll (u' := x) (us' := (Value.slice vo SC.length vc)) (ub' := nilV) (tk' := iAt L 0) (sd' := iAt L 1)) (setCells_grown wa4 (wp3.heap.size) 0 (wcells x (iAt L 0) (iAt L 1) (Value.slice vo SC.length vc) nilV))
          generalize World.setCells wa4 _ _ _ = wn at hq
          obtain ⟨hGn, hgr⟩ := hq
          have hxn := (hx.kept hgr (.inr (by intro e; have := hxg _ e; omega))).mono (base' := wa.heap.size) (by omega)
          have hvn := (hv3.kept hgr (.inr (by intro e; have := hvg _ e; have := hvl _ e; omega))).mono (base' := wa.heap.size) (by omega)
          have hBn : Below wa.heap.size wa wn := hB4.grown hgr (by omega) (fun k h => by simp only [Option.some.injEq] at h; omega)
          have hN := Hd.new2 hGn hxn hvn (by intro e; have := hxg _ e; omega) (by intro e; have := hvg _ e; have := hvl _ e; omega) (dj_ge fun i j hi hj e => by have h1 := hxg i hi; have h2 := hvg j hj; have h3 := hvl j hj; omega) (by omega)
          clear hG hx hv3 hGn hxn hvn hgr
          go_wp2_with fail
          go_meet
          case rel => exact ⟨⟨_, _, _, rfl, by rw [HSC.out]; exact hN⟩, hBn⟩
        · refine alloc_wld rfl rfl ?_
          have hG := WBlk.new wz2 36 nilV 0 0 nilV nilV
          have hk : Below wz2.heap.size wz2 (wz2.alloc (.cells #[nilV, .int .i64 0, .int .i64 0, nilV, nilV] 36)) := (Below.refl _ _).alloc (Nat.le_refl _) _
          generalize World.alloc wz2 _ = wa3 at hG hk ⊢
          have hGl := hG.lt
          have hB3 := hB2.trans (hk.mono (by omega))
          have hs3 := hk.size
          replace hx := hx.belowS hk
          replace hy := hy.belowS hk
          clear hk
          refine sch_next hB3 ?_
          simp only [Act.put, List.setIfInBounds_toArray, List.set_cons_zero, List.set_cons_succ]
          refine sch_ef (o := ⟨some 75, _, _, _, _, _⟩) rfl ?_
          refine app_ints (o := ⟨some 75, _, _, _, _, _⟩) wa3 rfl _ _ rfl wa.heap.size (hy.mono (by omega)) rfl (hat2 _ (hatL.below hB3)) rfl (by simp only [List.length_nil]; omega) (by omega) ?_
          intro v3 wp4 hv3 hg hvb
          simp only [List.nil_append] at hv3
          obtain ⟨vo, vc, rfl⟩ := hv3.slice_
          have hBg : Below wa.heap.size wa wp4 := hB3.grown hg (by omega) (fun k h => by have := (hy.ge k h).1; omega)
          have hvg : ∀ i, (Value.slice vo SC.length vc).ownBlock = some i → i = wc1.heap.size ∨ wa3.heap.size ≤ i := fun i hi => by rcases hvb with e | ⟨g', e, hgg⟩; (· rw [e] at hi; exact .inl (Option.some.inj (show some wc1.heap.size = some i from hi)).symm); (· rw [e] at hi; simp only [Option.some.injEq] at hi; exact .inr (by omega))
          have hvl : ∀ i, (Value.slice vo SC.length vc).ownBlock = some i → i < wp4.heap.size := fun i hi => (hv3.ge i hi).2
          have hsp := hg.size
          replace hx := hx.kept hg (.inr (by intro e; have := hxg wc1.heap.size e; omega))
          replace hG := hG.grown hg (by intro e; have := Option.some.inj (show some wc1.heap.size = some _ from e); omega)
          clear hy hg hvb
          refine sch_next hBg ?_
          simp only [Act.put, List.setIfInBounds_toArray, List.set_cons_zero, List.set_cons_succ]
          refine sch_still (o := ⟨some 76, _, _, _, _, _⟩) (v := .agg #[x, .int .i64 (iAt L 0), .int .i64 (iAt L 1), (Value.slice vo SC.length vc), nilV]) rfl rfl ?_ ?_
          · intro wx hSx
            go_simp; rfl
          simp only [Act.put, List.setIfInBounds_toArray, List.set_cons_zero, List.set_cons_succ]
          refine sch_end (.cons (o := ⟨none, _, _, _, _, _⟩) rfl .nil) ?_
          have ox := slice_one hx.at_
          have ov := slice_one hv3.at_
          refine store_wld (op := ⟨none, _, _, _, _, _⟩) rfl _ _ rfl (wz2.heap.size) rfl x (iAt L 0) (iAt L 1) (Value.slice vo SC.length vc) nilV rfl hG.there ox ov rfl ?_
          have hq := And.intro (hG.setAll (u' := x) (us' := (Value.slice vo SC.length vc)) (ub' := nilV) (tk' := iAt L 0) (sd' := iAt L 1)) (setCells_grown wp4 (wz2.heap.size) 0 (wcells x (iAt L 0) (iAt L 1) (Value.slice vo SC.length vc) nilV))
          generalize World.setCells wp4 _ _ _ = wn at hq
          obtain ⟨hGn, hgr⟩ := hq
          have hxn := (hx.kept hgr (.inr (by intro e; have := hxg _ e; omega))).mono (base' := wa.heap.size) (by omega)
          have hvn := (hv3.kept hgr (.inr (by intro e; have := hvg _ e; have := hvl _ e; omega))).mono (base' := wa.heap.size) (by omega)
          have hBn : Below wa.heap.size wa wn := hBg.grown hgr (by omega) (fun k h => by simp only [Option.some.injEq] at h; omega)
          have hN := Hd.new2 hGn hxn hvn (by intro e; have := hxg _ e; omega) (by intro e; have := hvg _ e; have := hvl _ e; omega) (dj_ge fun i j hi hj e => by have h1 := hxg i hi; have h2 := hvg j hj; have h3 := hvl j hj; omega) (by omega)
          clear hG hx hv3 hGn hxn hvn hgr
          go_wp2_with fail
          go_meet
          case rel => exact ⟨⟨_, _, _, rfl, by rw [HSC.out]; exact hN⟩, hBn⟩
      · refine alloc_wld rfl rfl ?_
        have hG := WBlk.new wc1 36 nilV 0 0 nilV nilV
        have hk : Below wc1.heap.size wc1 (wc1.alloc (.cells #[nilV, .int .i64 0, .int .i64 0, nilV, nilV] 36)) := (Below.refl _ _).alloc (Nat.le_refl _) _
        generalize World.alloc wc1 _ = wa2 at hG hk ⊢
        have hGl := hG.lt
        have hB2 := hB1.trans (hk.mono (by omega))
        have hs2 := hk.size
        replace hx := hx.belowS hk
        clear hk
        refine sch_next hB2 ?_
        simp only [Act.put, List.setIfInBounds_toArray, List.set_cons_zero, List.set_cons_succ]
        refine sch_ef (o := ⟨some 71, _, _, _, _, _⟩) rfl ?_
        iterate 3 go_step
        have hy := own_lit0 wa2
        have hk : Below wa2.heap.size wa2 (wa2.alloc (.cells #[] 3)) := (Below.refl _ _).alloc (Nat.le_refl _) _
        generalize World.alloc wa2 _ = wz3 at hy hk ⊢
        have hyl : wa2.heap.size < wz3.heap.size := (hy.ge _ rfl).2
        have hB3 := hB2.trans (hk.mono (by omega))
        have hs3 := hk.size
        replace hx := hx.belowS hk
        replace hG := hG.below hk hG.lt
        clear hk
        refine sch_next hB3 ?_
        refine sch_ef (o := ⟨some 75, _, _, _, _, _⟩) rfl ?_
        refine app_ints (o := ⟨some 75, _, _, _, _, _⟩) wz3 rfl _ _ rfl wa.heap.size (hy.mono (by omega)) rfl (hat2 _ (hatL.below hB3)) rfl (by simp only [List.length_nil]; omega) (by omega) ?_
        intro v3 wp4 hv3 hg hvb
        simp only [List.nil_append] at hv3
        obtain ⟨vo, vc, rfl⟩ := hv3.slice_
        have hBg : Below wa.heap.size wa wp4 := hB3.grown hg (by omega) (fun k h => by have := (hy.ge k h).1; omega)
        have hvg : ∀ i, (Value.slice vo SC.length vc).ownBlock = some i → i = wa2.heap.size ∨ wz3.heap.size ≤ i := fun i hi => by rcases hvb with e | ⟨g', e, hgg⟩; (· rw [e] at hi; exact .inl (Option.some.inj (show some wa2.heap.size = some i from hi)).symm); (· rw [e] at hi; simp only [Option.some.injEq] at hi; exact .inr (by omega))
        have hvl : ∀ i, (Value.slice vo SC.length vc).ownBlock = some i → i < wp4.heap.size := fun i hi => (hv3.ge i hi).2
        have hsp := hg.size
        replace hx := hx.kept hg (.inr (by intro e; have := hxg wa2.heap.size e; omega))
        replace hG := hG.grown hg (by intro e; have := Option.some.inj (show some wa2.heap.size = some _ from e); omega)
        clear hy hg hvb
        refine sch_next hBg ?_
        simp only [Act.put, List.setIfInBounds_toArray, List.set_cons_zero, List.set_cons_succ]
        refine sch_still (o := ⟨some 76, _, _, _, _, _⟩) (v := .agg #[x, .int .i64 (iAt L 0), .int .i64 (iAt L 1), (Value.slice vo SC.length vc), nilV]) rfl rfl ?_ ?_
        · intro wx hSx
          go_simp; rfl
        simp only [Act.put, List.setIfInBounds_toArray, List.set_cons_zero, List.set_cons_succ]
        refine sch_end (.cons (o := ⟨none, _, _, _, _, _⟩) rfl .nil) ?_
        have ox := slice_one hx.at_
        have ov := slice_one hv3.at_
        refine store_wld (op := ⟨none, _, _, _, _, _⟩) rfl _ _ rfl (wc1.heap.size) rfl x (iAt L 0) (iAt L 1) (Value.slice vo SC.length vc) nilV rfl hG.there ox ov rfl ?_
        have hq := And.intro (hG.setAll (u' := x) (us' := (Value.slice vo SC.length vc)) (ub' := nilV) (tk' := iAt L 0) (sd' := iAt L 1)) (setCells_grown wp4 (wc1.heap.size) 0 (wcells x (iAt L 0) (iAt L 1) (Value.slice vo SC.length vc) nilV))
        generalize World.setCells wp4 _ _ _ = wn at hq
        obtain ⟨hGn, hgr⟩ := hq
        have hxn := (hx.kept hgr (.inr (by intro e; have := hxg _ e; omega))).mono (base' := wa.heap.size) (by omega)
        have hvn := (hv3.kept hgr (.inr (by intro e; have := hvg _ e; have := hvl _ e; omega))).mono (base' := wa.heap.size) (by omega)
        have hBn : Below wa.heap.size wa wn := hBg.grown hgr (by omega) (fun k h => by simp only [Option.some.injEq] at h; omega)
        have hN := Hd.new2 hGn hxn hvn (by intro e; have := hxg _ e; omega) (by intro e; have := hvg _ e; have := hvl _ e; omega) (dj_ge fun i j hi hj e => by have h1 := hxg i hi; have h2 := hvg j hj; have h3 := hvl j hj; omega) (by omega)
        clear hG hx hv3 hGn hxn hvn hgr
        go_wp2_with fail
        go_meet
        case rel => exact ⟨⟨_, _, _, rfl, by rw [HSC.out]; exact hN⟩, hBn⟩
    · iterate 3 go_step
      have hy := own_lit0 wq
      have hk : Below wq.heap.size wq (wq.alloc (.cells #[] 3)) := (Below.refl _ _).alloc (Nat.le_refl _) _
      generalize World.alloc wq _ = wz1 at hy hk ⊢
      have hyl : wq.heap.size < wz1.heap.size := (hy.ge _ rfl).2
      have hB1 := hB0.trans (hk.mono (by omega))
      have hs1 := hk.size
      clear hk
      refine sch_next hB1 ?_
      refine sch_2 (o := ⟨some 64, _, _, _, _, _⟩) (p := ⟨some 10, _, _, _, _, _⟩) rfl rfl ?_ ?_
      · refine wpList_callC rfl 69 _ _ rfl Try.func69 (by kernel_rfl) (by kernel_rfl) #[.agg #[u]] (by kernel_rfl) (HC _ (hb.trans (hB1.mono hb.size))) ?_
        rintro e wc2 ⟨x, rfl, hx, hk⟩
        refine ⟨_, rfl, ?_⟩
        have hxg : ∀ i, x.ownBlock = some i → wz1.heap.size ≤ i ∧ i < wc2.heap.size := hx.ge
        have hB2 := hB1.trans (hk.mono (by omega))
        have hs2 := hk.size
        replace hy := hy.belowS hk
        clear hk
        refine sch_next hB2 ?_
        simp only [Act.put, List.setIfInBounds_toArray, List.set_cons_zero, List.set_cons_succ]
        refine sch_2 (o := ⟨some 75, _, _, _, _, _⟩) (p := ⟨some 10, _, _, _, _, _⟩) rfl rfl ?_ ?_
        · refine app_ints (o := ⟨some 75, _, _, _, _, _⟩) wc2 rfl _ _ rfl wa.heap.size (hy.mono (by omega)) rfl (hat2 _ (hatL.below hB2)) rfl (by simp only [List.length_nil]; omega) (by omega) ?_
          intro v3 wp3 hv3 hg hvb
          simp only [List.nil_append] at hv3
          obtain ⟨vo, vc, rfl⟩ := hv3.slice_
          have hBg : Below wa.heap.size wa wp3 := hB2.grown hg (by omega) (fun k h => by have := (hy.ge k h).1; omega)
          have hvg : ∀ i, (Value.slice vo SC.length vc).ownBlock = some i → i = wq.heap.size ∨ wc2.heap.size ≤ i := fun i hi => by rcases hvb with e | ⟨g', e, hgg⟩; (· rw [e] at hi; exact .inl (Option.some.inj (show some wq.heap.size = some i from hi)).symm); (· rw [e] at hi; simp only [Option.some.injEq] at hi; exact .inr (by omega))
          have hvl : ∀ i, (Value.slice vo SC.length vc).ownBlock = some i → i < wp3.heap.size := fun i hi => (hv3.ge i hi).2
          have hsp := hg.size
          replace hx := hx.kept hg (.inr (by intro e; have := hxg wq.heap.size e; omega))
          clear hy hg hvb
          refine sch_next hBg ?_
          simp only [Act.put, List.setIfInBounds_toArray, List.set_cons_zero, List.set_cons_succ]
          refine sch_still (o := ⟨some 76, _, _, _, _, _⟩) (v := .agg #[x, .int .i64 (iAt L 0), .int .i64 (iAt L 1), (Value.slice vo SC.length vc), nilV]) rfl rfl ?_ ?_
          · intro wx hSx
            go_simp; rfl
          simp only [Act.put, List.setIfInBounds_toArray, List.set_cons_zero, List.set_cons_succ]
          refine sch_ef (o := ⟨some 10, _, _, _, _, _⟩) rfl ?_
          refine alloc_wld rfl rfl ?_
          have hG := WBlk.new wp3 36 nilV 0 0 nilV nilV
          have hk : Below wp3.heap.size wp3 (wp3.alloc (.cells #[nilV, .int .i64 0, .int .i64 0, nilV, nilV] 36)) := (Below.refl _ _).alloc (Nat.le_refl _) _
          generalize World.alloc wp3 _ = wa4 at hG hk ⊢
          have hGl := hG.lt
          have hB4 := hBg.trans (hk.mono (by omega))
          have hs4 := hk.size
          replace hx := hx.belowS hk
          replace hv3 := hv3.belowS hk
          clear hk
          refine sch_next hB4 ?_
          simp only [Act.put, List.setIfInBounds_toArray, List.set_cons_zero, List.set_cons_succ]
          refine sch_end (.cons (o := ⟨none, _, _, _, _, _⟩) rfl .nil) ?_
          have ox := slice_one hx.at_
          have ov := slice_one hv3.at_
          refine store_wld (op := ⟨none, _, _, _, _, _⟩) rfl _ _ rfl (wp3.heap.size) rfl x (iAt L 0) (iAt L 1) (Value.slice vo SC.length vc) nilV rfl hG.there ox ov rfl ?_
          have hq := And.intro (hG.setAll (u' := x) (us' := (Value.slice vo SC.length vc)) (ub' := nilV) (tk' := iAt L 0) (sd' := iAt L 1)) (setCells_grown wa4 (wp3.heap.size) 0 (wcells x (iAt L 0) (iAt L 1) (Value.slice vo SC.length vc) nilV))
          generalize World.setCells wa4 _ _ _ = wn at hq
          obtain ⟨hGn, hgr⟩ := hq
          have hxn := (hx.kept hgr (.inr (by intro e; have := hxg _ e; omega))).mono (base' := wa.heap.size) (by omega)
          have hvn := (hv3.kept hgr (.inr (by intro e; have := hvg _ e; have := hvl _ e; omega))).mono (base' := wa.heap.size) (by omega)
          have hBn : Below wa.heap.size wa wn := hB4.grown hgr (by omega) (fun k h => by simp only [Option.some.injEq] at h; omega)
          have hN := Hd.new2 hGn hxn hvn (by intro e; have := hxg _ e; omega) (by intro e; have := hvg _ e; have := hvl _ e; omega) (dj_ge fun i j hi hj e => by have h1 := hxg i hi; have h2 := hvg j hj; have h3 := hvl j hj; omega) (by omega)
          clear hG hx hv3 hGn hxn hvn hgr
          go_wp2_with fail
          go_meet
          case rel => exact ⟨⟨_, _, _, rfl, by rw [HSC.out]; exact hN⟩, hBn⟩
        · refine alloc_wld rfl rfl ?_
          have hG := WBlk.new wc2 36 nilV 0 0 nilV nilV
          have hk : Below wc2.heap.size wc2 (wc2.alloc (.cells #[nilV, .int .i64 0, .int .i64 0, nilV, nilV] 36)) := (Below.refl _ _).alloc (Nat.le_refl _) _
          generalize World.alloc wc2 _ = wa3 at hG hk ⊢
          have hGl := hG.lt
          have hB3 := hB2.trans (hk.mono (by omega))
          have hs3 := hk.size
          replace hy := hy.belowS hk
          replace hx := hx.belowS hk
          clear hk
          refine sch_next hB3 ?_
          simp only [Act.put, List.setIfInBounds_toArray, List.set_cons_zero, List.set_cons_succ]
          refine sch_ef (o := ⟨some 75, _, _, _, _, _⟩) rfl ?_
          refine app_ints (o := ⟨some 75, _, _, _, _, _⟩) wa3 rfl _ _ rfl wa.heap.size (hy.mono (by omega)) rfl (hat2 _ (hatL.below hB3)) rfl (by simp only [List.length_nil]; omega) (by omega) ?_
          intro v3 wp4 hv3 hg hvb
          simp only [List.nil_append] at hv3
          obtain ⟨vo, vc, rfl⟩ := hv3.slice_
          have hBg : Below wa.heap.size wa wp4 := hB3.grown hg (by omega) (fun k h => by have := (hy.ge k h).1; omega)
          have hvg : ∀ i, (Value.slice vo SC.length vc).ownBlock = some i → i = wq.heap.size ∨ wa3.heap.size ≤ i := fun i hi => by rcases hvb with e | ⟨g', e, hgg⟩; (· rw [e] at hi; exact .inl (Option.some.inj (show some wq.heap.size = some i from hi)).symm); (· rw [e] at hi; simp only [Option.some.injEq] at hi; exact .inr (by omega))
          have hvl : ∀ i, (Value.slice vo SC.length vc).ownBlock = some i → i < wp4.heap.size := fun i hi => (hv3.ge i hi).2
          have hsp := hg.size
          replace hx := hx.kept hg (.inr (by intro e; have := hxg wq.heap.size e; omega))
          replace hG := hG.grown hg (by intro e; have := Option.some.inj (show some wq.heap.size = some _ from e); omega)
          clear hy hg hvb
          refine sch_next hBg ?_
          simp only [Act.put, List.setIfInBounds_toArray, List.set_cons_zero, List.set_cons_succ]
          refine sch_still (o := ⟨some 76, _, _, _, _, _⟩) (v := .agg #[x, .int .i64 (iAt L 0), .int .i64 (iAt L 1), (Value.slice vo SC.length vc), nilV]) rfl rfl ?_ ?_
          · intro wx hSx
            go_simp; rfl
          simp only [Act.put, List.setIfInBounds_toArray, List.set_cons_zero, List.set_cons_succ]
          refine sch_end (.cons (o := ⟨none, _, _, _, _, _⟩) rfl .nil) ?_
          have ox := slice_one hx.at_
          have ov := slice_one hv3.at_
          refine store_wld (op := ⟨none, _, _, _, _, _⟩) rfl _ _ rfl (wc2.heap.size) rfl x (iAt L 0) (iAt L 1) (Value.slice vo SC.length vc) nilV rfl hG.there ox ov rfl ?_
          have hq := And.intro (hG.setAll (u' := x) (us' := (Value.slice vo SC.length vc)) (ub' := nilV) (tk' := iAt L 0) (sd' := iAt L 1)) (setCells_grown wp4 (wc2.heap.size) 0 (wcells x (iAt L 0) (iAt L 1) (Value.slice vo SC.length vc) nilV))
          generalize World.setCells wp4 _ _ _ = wn at hq
          obtain ⟨hGn, hgr⟩ := hq
          have hxn := (hx.kept hgr (.inr (by intro e; have := hxg _ e; omega))).mono (base' := wa.heap.size) (by omega)
          have hvn := (hv3.kept hgr (.inr (by intro e; have := hvg _ e; have := hvl _ e; omega))).mono (base' := wa.heap.size) (by omega)
          have hBn : Below wa.heap.size wa wn := hBg.grown hgr (by omega) (fun k h => by simp only [Option.some.injEq] at h; omega)
          have hN := Hd.new2 hGn hxn hvn (by intro e; have := hxg _ e; omega) (by intro e; have := hvg _ e; have := hvl _ e; omega) (dj_ge fun i j hi hj e => by have h1 := hxg i hi; have h2 := hvg j hj; have h3 := hvl j hj; omega) (by omega)
          clear hG hx hv3 hGn hxn hvn hgr
          go_wp2_with fail
          go_meet
          case rel => exact ⟨⟨_, _, _, rfl, by rw [HSC.out]; exact hN⟩, hBn⟩
      · refine alloc_wld rfl rfl ?_
        have hG := WBlk.new wz1 36 nilV 0 0 nilV nilV
        have hk : Below wz1.heap.size wz1 (wz1.alloc (.cells #[nilV, .int .i64 0, .int .i64 0, nilV, nilV] 36)) := (Below.refl _ _).alloc (Nat.le_refl _) _
        generalize World.alloc wz1 _ = wa2 at hG hk ⊢
        have hGl := hG.lt
        have hB2 := hB1.trans (hk.mono (by omega))
        have hs2 := hk.size
        replace hy := hy.belowS hk
        clear hk
        refine sch_next hB2 ?_
        simp only [Act.put, List.setIfInBounds_toArray, List.set_cons_zero, List.set_cons_succ]
        refine sch_ef (o := ⟨some 64, _, _, _, _, _⟩) rfl ?_
        refine wpList_callC rfl 69 _ _ rfl Try.func69 (by kernel_rfl) (by kernel_rfl) #[.agg #[u]] (by kernel_rfl) (HC _ (hb.trans (hB2.mono hb.size))) ?_
        rintro e wc3 ⟨x, rfl, hx, hk⟩
        refine ⟨_, rfl, ?_⟩
        have hxg : ∀ i, x.ownBlock = some i → wa2.heap.size ≤ i ∧ i < wc3.heap.size := hx.ge
        have hB3 := hB2.trans (hk.mono (by omega))
        have hs3 := hk.size
        replace hy := hy.belowS hk
        replace hG := hG.below hk hG.lt
        clear hk
        refine sch_next hB3 ?_
        simp only [Act.put, List.setIfInBounds_toArray, List.set_cons_zero, List.set_cons_succ]
        refine sch_ef (o := ⟨some 75, _, _, _, _, _⟩) rfl ?_
        refine app_ints (o := ⟨some 75, _, _, _, _, _⟩) wc3 rfl _ _ rfl wa.heap.size (hy.mono (by omega)) rfl (hat2 _ (hatL.below hB3)) rfl (by simp only [List.length_nil]; omega) (by omega) ?_
        intro v3 wp4 hv3 hg hvb
        simp only [List.nil_append] at hv3
        obtain ⟨vo, vc, rfl⟩ := hv3.slice_
        have hBg : Below wa.heap.size wa wp4 := hB3.grown hg (by omega) (fun k h => by have := (hy.ge k h).1; omega)
        have hvg : ∀ i, (Value.slice vo SC.length vc).ownBlock = some i → i = wq.heap.size ∨ wc3.heap.size ≤ i := fun i hi => by rcases hvb with e | ⟨g', e, hgg⟩; (· rw [e] at hi; exact .inl (Option.some.inj (show some wq.heap.size = some i from hi)).symm); (· rw [e] at hi; simp only [Option.some.injEq] at hi; exact .inr (by omega))
        have hvl : ∀ i, (Value.slice vo SC.length vc).ownBlock = some i → i < wp4.heap.size := fun i hi => (hv3.ge i hi).2
        have hsp := hg.size
        replace hG := hG.grown hg (by intro e; have := Option.some.inj (show some wq.heap.size = some _ from e); omega)
        replace hx := hx.kept hg (.inr (by intro e; have := hxg wq.heap.size e; omega))
        clear hy hg hvb
        refine sch_next hBg ?_
        simp only [Act.put, List.setIfInBounds_toArray, List.set_cons_zero, List.set_cons_succ]
        refine sch_still (o := ⟨some 76, _, _, _, _, _⟩) (v := .agg #[x, .int .i64 (iAt L 0), .int .i64 (iAt L 1), (Value.slice vo SC.length vc), nilV]) rfl rfl ?_ ?_
        · intro wx hSx
          go_simp; rfl
        simp only [Act.put, List.setIfInBounds_toArray, List.set_cons_zero, List.set_cons_succ]
        refine sch_end (.cons (o := ⟨none, _, _, _, _, _⟩) rfl .nil) ?_
        have ox := slice_one hx.at_
        have ov := slice_one hv3.at_
        refine store_wld (op := ⟨none, _, _, _, _, _⟩) rfl _ _ rfl (wz1.heap.size) rfl x (iAt L 0) (iAt L 1) (Value.slice vo SC.length vc) nilV rfl hG.there ox ov rfl ?_
        have hq := And.intro (hG.setAll (u' := x) (us' := (Value.slice vo SC.length vc)) (ub' := nilV) (tk' := iAt L 0) (sd' := iAt L 1)) (setCells_grown wp4 (wz1.heap.size) 0 (wcells x (iAt L 0) (iAt L 1) (Value.slice vo SC.length vc) nilV))
        generalize World.setCells wp4 _ _ _ = wn at hq
        obtain ⟨hGn, hgr⟩ := hq
        have hxn := (hx.kept hgr (.inr (by intro e; have := hxg _ e; omega))).mono (base' := wa.heap.size) (by omega)
        have hvn := (hv3.kept hgr (.inr (by intro e; have := hvg _ e; have := hvl _ e; omega))).mono (base' := wa.heap.size) (by omega)
        have hBn : Below wa.heap.size wa wn := hBg.grown hgr (by omega) (fun k h => by simp only [Option.some.injEq] at h; omega)
        have hN := Hd.new2 hGn hxn hvn (by intro e; have := hxg _ e; omega) (by intro e; have := hvg _ e; have := hvl _ e; omega) (dj_ge fun i j hi hj e => by have h1 := hxg i hi; have h2 := hvg j hj; have h3 := hvl j hj; omega) (by omega)
        clear hG hx hv3 hGn hxn hvn hgr
        go_wp2_with fail
        go_meet
        case rel => exact ⟨⟨_, _, _, rfl, by rw [HSC.out]; exact hN⟩, hBn⟩
    · refine alloc_wld rfl rfl ?_
      have hG := WBlk.new wq 36 nilV 0 0 nilV nilV
      have hk : Below wq.heap.size wq (wq.alloc (.cells #[nilV, .int .i64 0, .int .i64 0, nilV, nilV] 36)) := (Below.refl _ _).alloc (Nat.le_refl _) _
      generalize World.alloc wq _ = wa1 at hG hk ⊢
      have hGl := hG.lt
      have hB1 := hB0.trans (hk.mono (by omega))
      have hs1 := hk.size
      clear hk
      refine sch_next hB1 ?_
      simp only [Act.put, List.setIfInBounds_toArray, List.set_cons_zero, List.set_cons_succ]
      refine sch_2 (o := ⟨some 64, _, _, _, _, _⟩) (p := ⟨some 71, _, _, _, _, _⟩) rfl rfl ?_ ?_
      · refine wpList_callC rfl 69 _ _ rfl Try.func69 (by kernel_rfl) (by kernel_rfl) #[.agg #[u]] (by kernel_rfl) (HC _ (hb.trans (hB1.mono hb.size))) ?_
        rintro e wc2 ⟨x, rfl, hx, hk⟩
        refine ⟨_, rfl, ?_⟩
        have hxg : ∀ i, x.ownBlock = some i → wa1.heap.size ≤ i ∧ i < wc2.heap.size := hx.ge
        have hB2 := hB1.trans (hk.mono (by omega))
        have hs2 := hk.size
        replace hG := hG.below hk hG.lt
        clear hk
        refine sch_next hB2 ?_
        simp only [Act.put, List.setIfInBounds_toArray, List.set_cons_zero, List.set_cons_succ]
        refine sch_ef (o := ⟨some 71, _, _, _, _, _⟩) rfl ?_
        iterate 3 go_step
        have hy := own_lit0 wc2
        have hk : Below wc2.heap.size wc2 (wc2.alloc (.cells #[] 3)) := (Below.refl _ _).alloc (Nat.le_refl _) _
        generalize World.alloc wc2 _ = wz3 at hy hk ⊢
        have hyl : wc2.heap.size < wz3.heap.size := (hy.ge _ rfl).2
        have hB3 := hB2.trans (hk.mono (by omega))
        have hs3 := hk.size
        replace hG := hG.below hk hG.lt
        replace hx := hx.belowS hk
        clear hk
        refine sch_next hB3 ?_
        refine sch_ef (o := ⟨some 75, _, _, _, _, _⟩) rfl ?_
        refine app_ints (o := ⟨some 75, _, _, _, _, _⟩) wz3 rfl _ _ rfl wa.heap.size (hy.mono (by omega)) rfl (hat2 _ (hatL.below hB3)) rfl (by simp only [List.length_nil]; omega) (by omega) ?_
        intro v3 wp4 hv3 hg hvb
        simp only [List.nil_append] at hv3
        obtain ⟨vo, vc, rfl⟩ := hv3.slice_
        have hBg : Below wa.heap.size wa wp4 := hB3.grown hg (by omega) (fun k h => by have := (hy.ge k h).1; omega)
        have hvg : ∀ i, (Value.slice vo SC.length vc).ownBlock = some i → i = wc2.heap.size ∨ wz3.heap.size ≤ i := fun i hi => by rcases hvb with e | ⟨g', e, hgg⟩; (· rw [e] at hi; exact .inl (Option.some.inj (show some wc2.heap.size = some i from hi)).symm); (· rw [e] at hi; simp only [Option.some.injEq] at hi; exact .inr (by omega))
        have hvl : ∀ i, (Value.slice vo SC.length vc).ownBlock = some i → i < wp4.heap.size := fun i hi => (hv3.ge i hi).2
        have hsp := hg.size
        replace hG := hG.grown hg (by intro e; have := Option.some.inj (show some wc2.heap.size = some _ from e); omega)
        replace hx := hx.kept hg (.inr (by intro e; have := hxg wc2.heap.size e; omega))
        clear hy hg hvb
        refine sch_next hBg ?_
        simp only [Act.put, List.setIfInBounds_toArray, List.set_cons_zero, List.set_cons_succ]
        refine sch_still (o := ⟨some 76, _, _, _, _, _⟩) (v := .agg #[x, .int .i64 (iAt L 0), .int .i64 (iAt L 1), (Value.slice vo SC.length vc), nilV]) rfl rfl ?_ ?_
        · intro wx hSx
          go_simp; rfl
        simp only [Act.put, List.setIfInBounds_toArray, List.set_cons_zero, List.set_cons_succ]
        refine sch_end (.cons (o := ⟨none, _, _, _, _, _⟩) rfl .nil) ?_
        have ox := slice_one hx.at_
        have ov := slice_one hv3.at_
        refine store_wld (op := ⟨none, _, _, _, _, _⟩) rfl _ _ rfl (wq.heap.size) rfl x (iAt L 0) (iAt L 1) (Value.slice vo SC.length vc) nilV rfl hG.there ox ov rfl ?_
        have hq := And.intro (hG.setAll (u' := x) (us' := (Value.slice vo SC.length vc)) (ub' := nilV) (tk' := iAt L 0) (sd' := iAt L 1)) (setCells_grown wp4 (wq.heap.size) 0 (wcells x (iAt L 0) (iAt L 1) (Value.slice vo SC.length vc) nilV))
        generalize World.setCells wp4 _ _ _ = wn at hq
        obtain ⟨hGn, hgr⟩ := hq
        have hxn := (hx.kept hgr (.inr (by intro e; have := hxg _ e; omega))).mono (base' := wa.heap.size) (by omega)
        have hvn := (hv3.kept hgr (.inr (by intro e; have := hvg _ e; have := hvl _ e; omega))).mono (base' := wa.heap.size) (by omega)
        have hBn : Below wa.heap.size wa wn := hBg.grown hgr (by omega) (fun k h => by simp only [Option.some.injEq] at h; omega)
        have hN := Hd.new2 hGn hxn hvn (by intro e; have := hxg _ e; omega) (by intro e; have := hvg _ e; have := hvl _ e; omega) (dj_ge fun i j hi hj e => by have h1 := hxg i hi; have h2 := hvg j hj; have h3 := hvl j hj; omega) (by omega)
        clear hG hx hv3 hGn hxn hvn hgr
        go_wp2_with fail
        go_meet
        case rel => exact ⟨⟨_, _, _, rfl, by rw [HSC.out]; exact hN⟩, hBn⟩
      · iterate 3 go_step
        have hy := own_lit0 wa1
        have hk : Below wa1.heap.size wa1 (wa1.alloc (.cells #[] 3)) := (Below.refl _ _).alloc (Nat.le_refl _) _
        generalize World.alloc wa1 _ = wz2 at hy hk ⊢
        have hyl : wa1.heap.size < wz2.heap.size := (hy.ge _ rfl).2
        have hB2 := hB1.trans (hk.mono (by omega))
        have hs2 := hk.size
        replace hG := hG.below hk hG.lt
        clear hk
        refine sch_next hB2 ?_
        refine sch_ef (o := ⟨some 64, _, _, _, _, _⟩) rfl ?_
        refine wpList_callC rfl 69 _ _ rfl Try.func69 (by kernel_rfl) (by kernel_rfl) #[.agg #[u]] (by kernel_rfl) (HC _ (hb.trans (hB2.mono hb.size))) ?_
        rintro e wc3 ⟨x, rfl, hx, hk⟩
        refine ⟨_, rfl, ?_⟩
        have hxg : ∀ i, x.ownBlock = some i → wz2.heap.size ≤ i ∧ i < wc3.heap.size := hx.ge
        have hB3 := hB2.trans (hk.mono (by omega))
        have hs3 := hk.size
        replace hG := hG.below hk hG.lt
        replace hy := hy.belowS hk
        clear hk
        refine sch_next hB3 ?_
        simp only [Act.put, List.setIfInBounds_toArray, List.set_cons_zero, List.set_cons_succ]
        refine sch_ef (o := ⟨some 75, _, _, _, _, _⟩) rfl ?_
        refine app_ints (o := ⟨some 75, _, _, _, _, _⟩) wc3 rfl _ _ rfl wa.heap.size (hy.mono (by omega)) rfl (hat2 _ (hatL.below hB3)) rfl (by simp only [List.length_nil]; omega) (by omega) ?_
        intro v3 wp4 hv3 hg hvb
        simp only [List.nil_append] at hv3
        obtain ⟨vo, vc, rfl⟩ := hv3.slice_
        have hBg : Below wa.heap.size wa wp4 := hB3.grown hg (by omega) (fun k h => by have := (hy.ge k h).1; omega)
        have hvg : ∀ i, (Value.slice vo SC.length vc).ownBlock = some i → i = wa1.heap.size ∨ wc3.heap.size ≤ i := fun i hi => by rcases hvb with e | ⟨g', e, hgg⟩; (· rw [e] at hi; exact .inl (Option.some.inj (show some wa1.heap.size = some i from hi)).symm); (· rw [e] at hi; simp only [Option.some.injEq] at hi; exact .inr (by omega))
        have hvl : ∀ i, (Value.slice vo SC.length vc).ownBlock = some i → i < wp4.heap.size := fun i hi => (hv3.ge i hi).2
        have hsp := hg.size
        replace hG := hG.grown hg (by intro e; have := Option.some.inj (show some wa1.heap.size = some _ from e); omega)
        replace hx := hx.kept hg (.inr (by intro e; have := hxg wa1.heap.size e; omega))
        clear hy hg hvb
        refine sch_next hBg ?_
        simp only [Act.put, List.setIfInBounds_toArray, List.set_cons_zero, List.set_cons_succ]
        refine sch_still (o := ⟨some 76, _, _, _, _, _⟩) (v := .agg #[x, .int .i64 (iAt L 0), .int .i64 (iAt L 1), (Value.slice vo SC.length vc), nilV]) rfl rfl ?_ ?_
        · intro wx hSx
          go_simp; rfl
        simp only [Act.put, List.setIfInBounds_toArray, List.set_cons_zero, List.set_cons_succ]
        refine sch_end (.cons (o := ⟨none, _, _, _, _, _⟩) rfl .nil) ?_
        have ox := slice_one hx.at_
        have ov := slice_one hv3.at_
        refine store_wld (op := ⟨none, _, _, _, _, _⟩) rfl _ _ rfl (wq.heap.size) rfl x (iAt L 0) (iAt L 1) (Value.slice vo SC.length vc) nilV rfl hG.there ox ov rfl ?_
        have hq := And.intro (hG.setAll (u' := x) (us' := (Value.slice vo SC.length vc)) (ub' := nilV) (tk' := iAt L 0) (sd' := iAt L 1)) (setCells_grown wp4 (wq.heap.size) 0 (wcells x (iAt L 0) (iAt L 1) (Value.slice vo SC.length vc) nilV))
        generalize World.setCells wp4 _ _ _ = wn at hq
        obtain ⟨hGn, hgr⟩ := hq
        have hxn := (hx.kept hgr (.inr (by intro e; have := hxg _ e; omega))).mono (base' := wa.heap.size) (by omega)
        have hvn := (hv3.kept hgr (.inr (by intro e; have := hvg _ e; have := hvl _ e; omega))).mono (base' := wa.heap.size) (by omega)
        have hBn : Below wa.heap.size wa wn := hBg.grown hgr (by omega) (fun k h => by simp only [Option.some.injEq] at h; omega)
        have hN := Hd.new2 hGn hxn hvn (by intro e; have := hxg _ e; omega) (by intro e; have := hvg _ e; have := hvl _ e; omega) (dj_ge fun i j hi hj e => by have h1 := hxg i hi; have h2 := hvg j hj; have h3 := hvl j hj; omega) (by omega)
        clear hG hx hv3 hGn hxn hvn hgr
        go_wp2_with fail
        go_meet
        case rel => exact ⟨⟨_, _, _, rfl, by rw [HSC.out]; exact hN⟩, hBn⟩
  case rest =>
  clear hbd hB0 HC e0 e1 e2
  obtain ⟨⟨G, x, xs, rfl, hH⟩, hbl⟩ := hcut
  have hJ : RdJ wa wc G (mkN l L m 0) := ⟨⟨_, _, _, hH⟩, hbl⟩
  have hlc : L.length ≤ 3 + m + 9 * ((L.length - (3 + m)) / 9) ∧ 3 + m + 9 * ((L.length - (3 + m)) / 9) ≤ L.length := by omega
  obtain ⟨c, hc⟩ : ∃ c, c = (L.length - (3 + m)) / 9 := ⟨_, rfl⟩
  rw [← hc] at hlc
  have HCE := Lib.hid hc
  clear hc hH hbl
  go_upto_region 7 with (fail)
  go_loopw [11] (fun i wr => ∃ (k q : Nat), k ≤ c ∧ (q ≤ 3 + m + 9 * k ∧ 3 + m + 9 * k ≤ q) ∧ i = .int .i64 (q : Int) ∧ RdJ wa wr G (mkN l L m k)) (fun i _ => L.length - (intOf i).toNat)
  case atStart => exact ⟨0, 3 + m, Nat.zero_le _, by omega, by first | rfl | go_num, hJ⟩
  case round =>
    clear hJ
    obtain ⟨k, q, hk, hq, rfl, ⟨⟨x, xs, xb, hH⟩, hbl⟩⟩ := hrel
    by_cases hlt : k < c
    · have hXb : (mkN l L m k).bodies.length = k := by unfold mkN; simp only [bdsF_len]
      obtain ⟨F, hF⟩ : ∃ F : Bd, F = ⟨iAt L q, iAt L (q + 1), iAt L (q + 2), iAt L (q + 3), iAt L (q + 4), iAt L (q + 5), iAt L (q + 6), iAt L (q + 7), iAt L (q + 8)⟩ := ⟨_, rfl⟩
      have HS : Hid (mkN l L m (k + 1) = { mkN l L m k with bodies := (mkN l L m k).bodies ++ [F] }) := Lib.hid (by
        have e := mkN_succ L m k
        rw [List.drop_drop, rowB_drop, show 3 + m + 9 * k = q by omega, ← hF] at e
        unfold mkN
        rw [e])
      have hFv : F.val = .agg #[.int .i64 (iAt L q), .int .i64 (iAt L (q + 1)), .int .i64 (iAt L (q + 2)), .int .i64 (iAt L (q + 3)), .int .i64 (iAt L (q + 4)), .int .i64 (iAt L (q + 5)), .int .i64 (iAt L (q + 6)), .int .i64 (iAt L (q + 7)), .int .i64 (iAt L (q + 8))] := by rw [hF]; rfl
      have HFV := Lib.hid hFv
      clear hFv hF
      obtain ⟨X, hX⟩ : ∃ X, mkN l L m k = X := ⟨_, rfl⟩
      rw [hX] at hH hXb HS
      clear hX
      have hcl : k ≤ 1048576 := by omega
      have x1 : decide ((q : Int) < (L.length : Int)) = true := decide_eq_true (by omega)
      have hq8 : q + 8 < L.length := by omega
      go_upto_region 9 with (fail)
      clear x1
      have hB0 := (Below.refl wr.heap.size wr).drew
      have e4 := hH.blk.c4
      have hGw := hH.blk.lt
      have hHd := hH.drew
      have hz0 := hbl.size
      have hgr : g < wr.heap.size := by omega
      have hcr := fun j hj => (hbl.cell (p := ⟨g, j, none⟩) hgw).trans (hcell j hj)
      refine wp_region_sch (fun wx => Below wr.heap.size wr wx) 48 5 (.st 0 (.st 1 (.st 2 (.st 3 (.st 4 (.st 5 (.st 6 (.st 7 (.st 8 (.st 9 (.st 10 (.st 11 (.st 12 (.st 13 (.st 14 (.st 15 (.st 16 (.st 17 (.st 18 (.st 19 (.st 20 (.st 21 (.st 22 (.st 23 (.st 24 (.st 25 (.st 26 (.st 27 (.st 28 (.st 29 (.st 30 (.st 31 (.st 32 (.st 33 (.st 34 (.st 35 (.st 36 (.st 37 (.st 38 (.st 39 (.st 40 (.st 41 (.st 42 (.st 43 (.st 44 (.st 45 (.st 46 (.ef 47 (.fin [48, 49, 50]))))))))))))))))))))))))))))))))))))))))))))))))) (by kernel_rfl) (by kernel_rfl) (fun _ _ d _ _ h => by cases d <;> exact h) hB0 ?_
      refine sch_still (o := ⟨some 84, _, _, _, _, _⟩) (v := .pointer (some ⟨G, 4, none⟩)) rfl rfl ?_ ?_
      · intro wx hSx
        go_simp
      simp only [Act.put, List.setIfInBounds_toArray, List.set_cons_zero, List.set_cons_succ]
      refine sch_still (o := ⟨some 85, _, _, _, _, _⟩) (v := xb) rfl rfl ?_ ?_
      · intro wx hSx
        have c := (hSx.cell (p := ⟨G, 4, none⟩) hGw).trans e4; go_simp
      simp only [Act.put, List.setIfInBounds_toArray, List.set_cons_zero, List.set_cons_succ]
      refine sch_still (o := ⟨some 86, _, _, _, _, _⟩) (v := .slice (some ⟨g, 0, none⟩) L.length cap) rfl rfl ?_ ?_
      · intro wx hSx
        go_simp
      simp only [Act.put, List.setIfInBounds_toArray, List.set_cons_zero, List.set_cons_succ]
      refine sch_still (o := ⟨some 87, _, _, _, _, _⟩) (v := .int .i64 (q : Int)) rfl rfl ?_ ?_
      · intro wx hSx
        go_simp
      simp only [Act.put, List.setIfInBounds_toArray, List.set_cons_zero, List.set_cons_succ]
      refine sch_still (o := ⟨some 88, _, _, _, _, _⟩) (v := .pointer (some ⟨g, q, none⟩)) rfl rfl ?_ ?_
      · intro wx hSx
        go_simp
      simp only [Act.put, List.setIfInBounds_toArray, List.set_cons_zero, List.set_cons_succ]
      refine sch_still (o := ⟨some 89, _, _, _, _, _⟩) (v := .int .i64 (iAt L (q))) rfl rfl ?_ ?_
      · intro wx hSx
        have c := (hSx.cell (p := ⟨g, q, none⟩) hgr).trans (hcr (q) (by omega)); go_simp
      simp only [Act.put, List.setIfInBounds_toArray, List.set_cons_zero, List.set_cons_succ]
      refine sch_still (o := ⟨some 90, _, _, _, _, _⟩) (v := .slice (some ⟨g, 0, none⟩) L.length cap) rfl rfl ?_ ?_
      · intro wx hSx
        go_simp
      simp only [Act.put, List.setIfInBounds_toArray, List.set_cons_zero, List.set_cons_succ]
      refine sch_still (o := ⟨some 91, _, _, _, _, _⟩) (v := .int .i64 (q : Int)) rfl rfl ?_ ?_
      · intro wx hSx
        go_simp
      simp only [Act.put, List.setIfInBounds_toArray, List.set_cons_zero, List.set_cons_succ]
      refine sch_still (o := ⟨some 92, _, _, _, _, _⟩) (v := .int .i64 ((q : Int) + 1)) rfl rfl ?_ ?_
      · intro wx hSx
        go_simp; exact wrapq (by omega)
      simp only [Act.put, List.setIfInBounds_toArray, List.set_cons_zero, List.set_cons_succ]
      refine sch_still (o := ⟨some 93, _, _, _, _, _⟩) (v := .pointer (some ⟨g, q + 1, none⟩)) rfl rfl ?_ ?_
      · intro wx hSx
        go_simp; first | (intro e; exact absurd (e (by omega)) (by omega)) | rw [if_pos ⟨by omega, by omega⟩, show ((q : Int) + 1).toNat = q + 1 by omega]
      simp only [Act.put, List.setIfInBounds_toArray, List.set_cons_zero, List.set_cons_succ]
      refine sch_still (o := ⟨some 94, _, _, _, _, _⟩) (v := .int .i64 (iAt L (q + 1))) rfl rfl ?_ ?_
      · intro wx hSx
        have c := (hSx.cell (p := ⟨g, q + 1, none⟩) hgr).trans (hcr (q + 1) (by omega)); go_simp
      simp only [Act.put, List.setIfInBounds_toArray, List.set_cons_zero, List.set_cons_succ]
      refine sch_still (o := ⟨some 95, _, _, _, _, _⟩) (v := .slice (some ⟨g, 0, none⟩) L.length cap) rfl rfl ?_ ?_
      · intro wx hSx
        go_simp
      simp only [Act.put, List.setIfInBounds_toArray, List.set_cons_zero, List.set_cons_succ]
      refine sch_still (o := ⟨some 96, _, _, _, _, _⟩) (v := .int .i64 (q : Int)) rfl rfl ?_ ?_
      · intro wx hSx
        go_simp
      simp only [Act.put, List.setIfInBounds_toArray, List.set_cons_zero, List.set_cons_succ]
      refine sch_still (o := ⟨some 97, _, _, _, _, _⟩) (v := .int .i64 ((q : Int) + 2)) rfl rfl ?_ ?_
      · intro wx hSx
        go_simp; exact wrapq (by omega)
      simp only [Act.put, List.setIfInBounds_toArray, List.set_cons_zero, List.set_cons_succ]
      refine sch_still (o := ⟨some 98, _, _, _, _, _⟩) (v := .pointer (some ⟨g, q + 2, none⟩)) rfl rfl ?_ ?_
      · intro wx hSx
        go_simp; first | (intro e; exact absurd (e (by omega)) (by omega)) | rw [if_pos ⟨by omega, by omega⟩, show ((q : Int) + 2).toNat = q + 2 by omega]
      simp only [Act.put, List.setIfInBounds_toArray, List.set_cons_zero, List.set_cons_succ]
      refine sch_still (o := ⟨some 99, _, _, _, _, _⟩) (v := .int .i64 (iAt L (q + 2))) rfl rfl ?_ ?_
      · intro wx hSx
        have c := (hSx.cell (p := ⟨g, q + 2, none⟩) hgr).trans (hcr (q + 2) (by omega)); go_simp
      simp only [Act.put, List.setIfInBounds_toArray, List.set_cons_zero, List.set_cons_succ]
      refine sch_still (o := ⟨some 100, _, _, _, _, _⟩) (v := .slice (some ⟨g, 0, none⟩) L.length cap) rfl rfl ?_ ?_
      · intro wx hSx
        go_simp
      simp only [Act.put, List.setIfInBounds_toArray, List.set_cons_zero, List.set_cons_succ]
      refine sch_still (o := ⟨some 101, _, _, _, _, _⟩) (v := .int .i64 (q : Int)) rfl rfl ?_ ?_
      · intro wx hSx
        go_simp
      simp only [Act.put, List.setIfInBounds_toArray, List.set_cons_zero, List.set_cons_succ]
      refine sch_still (o := ⟨some 102, _, _, _, _, _⟩) (v := .int .i64 ((q : Int) + 3)) rfl rfl ?_ ?_
      · intro wx hSx
        go_simp; exact wrapq (by omega)
      simp only [Act.put, List.setIfInBounds_toArray, List.set_cons_zero, List.set_cons_succ]
      refine sch_still (o := ⟨some 103, _, _, _, _, _⟩) (v := .pointer (some ⟨g, q + 3, none⟩)) rfl rfl ?_ ?_
      · intro wx hSx
        go_simp; first | (intro e; exact absurd (e (by omega)) (by omega)) | rw [if_pos ⟨by omega, by omega⟩, show ((q : Int) + 3).toNat = q + 3 by omega]
      simp only [Act.put, List.setIfInBounds_toArray, List.set_cons_zero, List.set_cons_succ]
      refine sch_still (o := ⟨some 104, _, _, _, _, _⟩) (v := .int .i64 (iAt L (q + 3))) rfl rfl ?_ ?_
      · intro wx hSx
        have c := (hSx.cell (p := ⟨g, q + 3, none⟩) hgr).trans (hcr (q + 3) (by omega)); go_simp
      simp only [Act.put, List.setIfInBounds_toArray, List.set_cons_zero, List.set_cons_succ]
      refine sch_still (o := ⟨some 105, _, _, _, _, _⟩) (v := .slice (some ⟨g, 0, none⟩) L.length cap) rfl rfl ?_ ?_
      · intro wx hSx
        go_simp
      simp only [Act.put, List.setIfInBounds_toArray, List.set_cons_zero, List.set_cons_succ]
      refine sch_still (o := ⟨some 106, _, _, _, _, _⟩) (v := .int .i64 (q : Int)) rfl rfl ?_ ?_
      · intro wx hSx
        go_simp
      simp only [Act.put, List.setIfInBounds_toArray, List.set_cons_zero, List.set_cons_succ]
      refine sch_still (o := ⟨some 107, _, _, _, _, _⟩) (v := .int .i64 ((q : Int) + 4)) rfl rfl ?_ ?_
      · intro wx hSx
        go_simp; exact wrapq (by omega)
      simp only [Act.put, List.setIfInBounds_toArray, List.set_cons_zero, List.set_cons_succ]
      refine sch_still (o := ⟨some 108, _, _, _, _, _⟩) (v := .pointer (some ⟨g, q + 4, none⟩)) rfl rfl ?_ ?_
      · intro wx hSx
        go_simp; first | (intro e; exact absurd (e (by omega)) (by omega)) | rw [if_pos ⟨by omega, by omega⟩, show ((q : Int) + 4).toNat = q + 4 by omega]
      simp only [Act.put, List.setIfInBounds_toArray, List.set_cons_zero, List.set_cons_succ]
      refine sch_still (o := ⟨some 109, _, _, _, _, _⟩) (v := .int .i64 (iAt L (q + 4))) rfl rfl ?_ ?_
      · intro wx hSx
        have c := (hSx.cell (p := ⟨g, q + 4, none⟩) hgr).trans (hcr (q + 4) (by omega)); go_simp
      simp only [Act.put, List.setIfInBounds_toArray, List.set_cons_zero, List.set_cons_succ]
      refine sch_still (o := ⟨some 110, _, _, _, _, _⟩) (v := .slice (some ⟨g, 0, none⟩) L.length cap) rfl rfl ?_ ?_
      · intro wx hSx
        go_simp
      simp only [Act.put, List.setIfInBounds_toArray, List.set_cons_zero, List.set_cons_succ]
      refine sch_still (o := ⟨some 111, _, _, _, _, _⟩) (v := .int .i64 (q : Int)) rfl rfl ?_ ?_
      · intro wx hSx
        go_simp
      simp only [Act.put, List.setIfInBounds_toArray, List.set_cons_zero, List.set_cons_succ]
      refine sch_still (o := ⟨some 112, _, _, _, _, _⟩) (v := .int .i64 ((q : Int) + 5)) rfl rfl ?_ ?_
      · intro wx hSx
        go_simp; exact wrapq (by omega)
      simp only [Act.put, List.setIfInBounds_toArray, List.set_cons_zero, List.set_cons_succ]
      refine sch_still (o := ⟨some 113, _, _, _, _, _⟩) (v := .pointer (some ⟨g, q + 5, none⟩)) rfl rfl ?_ ?_
      · intro wx hSx
        go_simp; first | (intro e; exact absurd (e (by omega)) (by omega)) | rw [if_pos ⟨by omega, by omega⟩, show ((q : Int) + 5).toNat = q + 5 by omega]
      simp only [Act.put, List.setIfInBounds_toArray, List.set_cons_zero, List.set_cons_succ]
      refine sch_still (o := ⟨some 114, _, _, _, _, _⟩) (v := .int .i64 (iAt L (q + 5))) rfl rfl ?_ ?_
      · intro wx hSx
        have c := (hSx.cell (p := ⟨g, q + 5, none⟩) hgr).trans (hcr (q + 5) (by omega)); go_simp
      simp only [Act.put, List.setIfInBounds_toArray, List.set_cons_zero, List.set_cons_succ]
      refine sch_still (o := ⟨some 115, _, _, _, _, _⟩) (v := .slice (some ⟨g, 0, none⟩) L.length cap) rfl rfl ?_ ?_
      · intro wx hSx
        go_simp
      simp only [Act.put, List.setIfInBounds_toArray, List.set_cons_zero, List.set_cons_succ]
      refine sch_still (o := ⟨some 116, _, _, _, _, _⟩) (v := .int .i64 (q : Int)) rfl rfl ?_ ?_
      · intro wx hSx
        go_simp
      simp only [Act.put, List.setIfInBounds_toArray, List.set_cons_zero, List.set_cons_succ]
      refine sch_still (o := ⟨some 117, _, _, _, _, _⟩) (v := .int .i64 ((q : Int) + 6)) rfl rfl ?_ ?_
      · intro wx hSx
        go_simp; exact wrapq (by omega)
      simp only [Act.put, List.setIfInBounds_toArray, List.set_cons_zero, List.set_cons_succ]
      refine sch_still (o := ⟨some 118, _, _, _, _, _⟩) (v := .pointer (some ⟨g, q + 6, none⟩)) rfl rfl ?_ ?_
      · intro wx hSx
        go_simp; first | (intro e; exact absurd (e (by omega)) (by omega)) | rw [if_pos ⟨by omega, by omega⟩, show ((q : Int) + 6).toNat = q + 6 by omega]
      simp only [Act.put, List.setIfInBounds_toArray, List.set_cons_zero, List.set_cons_succ]
      refine sch_still (o := ⟨some 119, _, _, _, _, _⟩) (v := .int .i64 (iAt L (q + 6))) rfl rfl ?_ ?_
      · intro wx hSx
        have c := (hSx.cell (p := ⟨g, q + 6, none⟩) hgr).trans (hcr (q + 6) (by omega)); go_simp
      simp only [Act.put, List.setIfInBounds_toArray, List.set_cons_zero, List.set_cons_succ]
      refine sch_still (o := ⟨some 120, _, _, _, _, _⟩) (v := .slice (some ⟨g, 0, none⟩) L.length cap) rfl rfl ?_ ?_
      · intro wx hSx
        go_simp
      simp only [Act.put, List.setIfInBounds_toArray, List.set_cons_zero, List.set_cons_succ]
      refine sch_still (o := ⟨some 121, _, _, _, _, _⟩) (v := .int .i64 (q : Int)) rfl rfl ?_ ?_
      · intro wx hSx
        go_simp
      simp only [Act.put, List.setIfInBounds_toArray, List.set_cons_zero, List.set_cons_succ]
      refine sch_still (o := ⟨some 122, _, _, _, _, _⟩) (v := .int .i64 ((q : Int) + 7)) rfl rfl ?_ ?_
      · intro wx hSx
        go_simp; exact wrapq (by omega)
      simp only [Act.put, List.setIfInBounds_toArray, List.set_cons_zero, List.set_cons_succ]
      refine sch_still (o := ⟨some 123, _, _, _, _, _⟩) (v := .pointer (some ⟨g, q + 7, none⟩)) rfl rfl ?_ ?_
      · intro wx hSx
        go_simp; first | (intro e; exact absurd (e (by omega)) (by omega)) | rw [if_pos ⟨by omega, by omega⟩, show ((q : Int) + 7).toNat = q + 7 by omega]
      simp only [Act.put, List.setIfInBounds_toArray, List.set_cons_zero, List.set_cons_succ]
      refine sch_still (o := ⟨some 124, _, _, _, _, _⟩) (v := .int .i64 (iAt L (q + 7))) rfl rfl ?_ ?_
      · intro wx hSx
        have c := (hSx.cell (p := ⟨g, q + 7, none⟩) hgr).trans (hcr (q + 7) (by omega)); go_simp
      simp only [Act.put, List.setIfInBounds_toArray, List.set_cons_zero, List.set_cons_succ]
      refine sch_still (o := ⟨some 125, _, _, _, _, _⟩) (v := .slice (some ⟨g, 0, none⟩) L.length cap) rfl rfl ?_ ?_
      · intro wx hSx
        go_simp
      simp only [Act.put, List.setIfInBounds_toArray, List.set_cons_zero, List.set_cons_succ]
      refine sch_still (o := ⟨some 126, _, _, _, _, _⟩) (v := .int .i64 (q : Int)) rfl rfl ?_ ?_
      · intro wx hSx
        go_simp
      simp only [Act.put, List.setIfInBounds_toArray, List.set_cons_zero, List.set_cons_succ]
      refine sch_still (o := ⟨some 127, _, _, _, _, _⟩) (v := .int .i64 ((q : Int) + 8)) rfl rfl ?_ ?_
      · intro wx hSx
        go_simp; exact wrapq (by omega)
      simp only [Act.put, List.setIfInBounds_toArray, List.set_cons_zero, List.set_cons_succ]
      refine sch_still (o := ⟨some 128, _, _, _, _, _⟩) (v := .pointer (some ⟨g, q + 8, none⟩)) rfl rfl ?_ ?_
      · intro wx hSx
        go_simp; first | (intro e; exact absurd (e (by omega)) (by omega)) | rw [if_pos ⟨by omega, by omega⟩, show ((q : Int) + 8).toNat = q + 8 by omega]
      simp only [Act.put, List.setIfInBounds_toArray, List.set_cons_zero, List.set_cons_succ]
      refine sch_still (o := ⟨some 129, _, _, _, _, _⟩) (v := .int .i64 (iAt L (q + 8))) rfl rfl ?_ ?_
      · intro wx hSx
        have c := (hSx.cell (p := ⟨g, q + 8, none⟩) hgr).trans (hcr (q + 8) (by omega)); go_simp
      simp only [Act.put, List.setIfInBounds_toArray, List.set_cons_zero, List.set_cons_succ]
      refine sch_still (o := ⟨some 130, _, _, _, _, _⟩) (v := F.val) rfl rfl ?_ ?_
      · intro wx hSx
        rw [HFV.out]; go_simp
      simp only [Act.put, List.setIfInBounds_toArray, List.set_cons_zero, List.set_cons_succ]
      generalize wr.drew = wq at *
      refine sch_ef (o := ⟨some 131, _, _, _, _, _⟩) rfl ?_
      refine lit_bod (o := ⟨some 131, _, _, _, _, _⟩) rfl _ rfl F rfl ?_
      have hqb := own_lit wq F
      have hk2 : Below wq.heap.size wq (wq.alloc (.cells F.cells.toArray 42)) := (Below.refl _ _).alloc (Nat.le_refl _) _
      generalize World.alloc wq _ = wl at hqb hk2
      have hH2 := hHd.below hk2
      have hB2 : Below wr.heap.size wr wl := hB0.trans (hk2.mono hB0.size)
      have hzl := hB2.size
      clear hB0 hHd hH hk2 e4 hcr
      refine sch_next hB2 ?_
      simp only [Act.put, List.setIfInBounds_toArray, List.set_cons_zero, List.set_cons_succ]
      refine sch_end (.cons (o := ⟨some 132, _, _, _, _, _⟩) rfl (.cons (o := ⟨some 133, _, _, _, _, _⟩) rfl (.cons (o := ⟨none, _, _, _, _, _⟩) rfl .nil))) ?_
      refine app_bods (o := ⟨some 132, _, _, _, _, _⟩) wl rfl _ _ rfl wa.heap.size hH2.own.b rfl hqb.at_ rfl (by omega) (by omega) ?_
      intro v6 wz hv6 hg hvb
      have hHe := hH2.appB hv6 hg hvb
      have g4 := (hH2.blk.grown hg hH2.n3).c4
      have p4 := (hH2.blk.grown hg hH2.n3).f4
      have ov := slice_one hv6.at_
      clear hv6 hg hvb hqb
      simp only [Act.put, List.setIfInBounds_toArray, List.set_cons_zero, List.set_cons_succ]
      iterate 3 go_step
      refine store_cell (o := ⟨none, _, _, _, _, _⟩) rfl _ _ _ rfl G 4 rfl v6 rfl ov size_bods g4 p4 ?_
      generalize World.setCell wz _ _ = wn at hHe
      obtain ⟨hH3, ht⟩ := hHe
      have hk3 : Below wa.heap.size wl wn := hH2.tchBelow ht (fun i hi => hi.imp id fun e => .inr (.inr e))
      have hbl3 := (hbl.trans (hB2.mono hz0)).trans hk3
      clear hH2 ht hk3 g4 p4 ov hB2 hbl hzl
      go_wp2_with fail
      go_roundw
      case rel => exact ⟨k + 1, q + 9, by omega, by omega, by first | rfl | go_num, ⟨⟨x, xs, v6, by rw [HS.out]; exact hH3⟩, hbl3⟩⟩
      case measure => simp [intOf]; omega
    · obtain rfl : k = c := by omega
      have hXX : Hid (mkN l L m k = mkW l L) := Lib.hid (by rw [← mkN_end hn, ← HCE.out])
      have hsm : WSmall (mkN l L m k) := mkN_small hm hz (by omega) (by omega)
      have hfit : fitL L := by
        unfold fitL
        rw [hn, Int.toNat_natCast]
        omega
      rw [hXX.out] at hH hsm
      obtain ⟨X, hX⟩ : ∃ X, mkW l L = X := ⟨_, rfl⟩
      rw [hX] at hH hsm HBAD HYES HSA HOT
      clear hX hXX
      have HWB := wbytes_spec wr hH.own.at_ hsm
      have x1 : decide ((q : Int) < (L.length : Int)) = false := decide_eq_false (by omega)
      have hbw := hb.trans (hbl.mono hb.size)
      have hRw := hR.below hbl hR.lt
      have hRO := HR4.out (by first | rfl | trivial) (by first | rfl | trivial) hfit
      have HRO := Lib.hid hRO
      clear hsm hm hz hatL hcell hRO
      go_upto_region 10 with (fail)
      apply wp_region_lit
      refine load_wld (op := ⟨some 134, _, _, _, _, _⟩) rfl _ rfl G rfl _ _ _ _ _ hH.blk.range ?_
      refine wpList_callC rfl 91 _ _ rfl Try.func91 (by kernel_rfl) (by kernel_rfl) #[.agg #[x, .int .i64 X.tick, .int .i64 X.seed, xs, xb]] (by kernel_rfl) HWB ?_
      rintro e wf ⟨rfl, hk1⟩
      refine ⟨_, rfl, ?_⟩
      have hbf := hbw.trans (hk1.mono hbw.size)
      have hRf := hRw.below hk1 hRw.lt
      have hHf := hH.below hk1
      clear hbw hRw hH hk1 HWB x1
      simp only [Act.put, List.setIfInBounds_toArray, List.set_cons_zero, List.set_cons_succ]
      cases hok : okW X with
      | false =>
        have HN := Lib.hid (HBAD.out hok)
        have hne := HOT.out HRO.out hok
        have x1 : ((bytesW X).toList == s.toList) = false := beq_eq_false_iff_ne.2 (fun e => hne (bytes_inj e))
        generalize bytesW X = t at *
        go_upto_region 11 with (fail)
        have hRs := (hRf.setAll (u' := nilV) (us' := nilV) (ub' := nilV) (tk' := 0) (sd' := 0)).range
        have hbs := setCells_below (o := 0) (vs := wcells nilV 0 0 nilV nilV) hbf (show w.heap.size ≤ w.heap.size + 1 by omega)
        have hRt := hRf.there
        apply wp_region_lit
        iterate 3 go_step
        refine store_wld (op := ⟨none, _, _, _, _, _⟩) rfl _ _ rfl (w.heap.size + 1) rfl nilV 0 0 nilV nilV rfl hRt rfl rfl rfl ?_
        generalize hwn : World.setCells _ _ _ _ = wn
        rw [hwn] at hRs hbs
        clear hwn
        repeat go_step
        refine bodyPost_ret (res_wld2 rfl rfl rfl hRs) rfl ?_
        exact ⟨nilV, nilV, nilV, by rw [HN.out]; rfl, by rw [HN.out]; exact wown_nil _ _, hbs⟩
      | true =>
        have HN := Lib.hid (HYES.out HRO.out hok)
        have hOz := hHf.own
        have oz := slice_one hOz.at_.r
        have ozs := slice_one hOz.at_.s
        have ozb := slice_one hOz.at_.b
        rw [HSA.out HRO.out hok]
        go_upto_region 12 with (fail)
        apply wp_region_lit
        refine load_wld (op := ⟨some 139, _, _, _, _, _⟩) rfl _ rfl G rfl _ _ _ _ _ hHf.blk.range ?_
        refine store_wld (op := ⟨none, _, _, _, _, _⟩) rfl _ _ rfl (w.heap.size + 1) rfl _ _ _ _ _ rfl hRf.there oz ozs ozb ?_
        have hq := And.intro (hRf.setAll (u' := x) (us' := xs) (ub' := xb) (tk' := X.tick) (sd' := X.seed)) (setCells_grown wf (w.heap.size + 1) 0 (wcells x X.tick X.seed xs xb))
        generalize World.setCells wf _ _ _ = wn at hq
        obtain ⟨hRn, hgr⟩ := hq
        have hOn := (hOz.tch (S := fun i => i = w.heap.size + 1) (Tch.of_grown1 hgr rfl) (fun i hi e => by have := (hOz.ge i hi).1; omega)).mono (B' := w.heap.size) (by omega)
        have hbn : Below w.heap.size w wn := hbf.grown hgr (by have := hRf.lt; omega) (fun k h => by simp only [Option.some.injEq] at h; omega)
        repeat go_step
        refine bodyPost_ret (res_wld2 rfl rfl rfl hRn.range) rfl ?_
        exact ⟨x, _, _, by rw [HN.out], by rw [HN.out]; exact hOn, hbn⟩
end Go.Proofs.Ytmamihkcikgmcaa
