/- Texts Nwi, Nws in one. -/
import Derived.Test.YtmamihkcikgmcaaKB
import Derived.Test.YtmamihkcikgmcaaKH
import Derived.Test.YtmamihkcikgmcaaKI
/- NewWorld, the program's. -/
namespace Go.Proofs.Ytmamihkcikgmcaa
open Go.RowKit

def newT (l : List ByteArray) (n s : Int) : Wd × Bool := if lvT l = true ∧ (1 ≤ n ∧ n ≤ 4) ∧ (0 ≤ s ∧ s ≤ 65535) then (newW l n.toNat s, true) else (zW, false)
theorem newT_no {l : List ByteArray} {n s : Int} (h : lvT l = false ∨ inB n 1 4 = false ∨ inB s 0 65535 = false) : newT l n s = (zW, false) := by
  unfold newT
  rw [if_neg]
  rintro ⟨h1, h2, h3⟩
  rcases h with h | h | h
  · rw [h1] at h; cases h
  · rw [inB_yes h2.1 h2.2] at h; cases h
  · rw [inB_yes h3.1 h3.2] at h; cases h
theorem newT_yes {l : List ByteArray} {n s : Int} (h : lvT l = true) (h2 : 1 ≤ n ∧ n ≤ 4) (h3 : 0 ≤ s ∧ s ≤ 65535) : newT l n s = (newW l n.toNat s, true) := if_pos ⟨h, h2, h3⟩
theorem wown_nil (w : World) (B : Nat) : WOwn w B nilV nilV nilV zW := ⟨Own.nil _ _ _, Own.nil _ _ _, Own.nil _ _ _, .inl rfl, .inl rfl, .inl rfl⟩
/-- a world in the making: behind a pointer, its slices owned; the level's cell and the result's block stand -/
structure NwI (w : World) (u : Value) (X : Wd) (p : Value) (wx : World) : Prop where
  ex : ∃ G x xs xb, p = .pointer (some ⟨G, 0, none⟩) ∧ WBlk wx G x X.tick X.seed xs xb ∧ WOwn wx (w.heap.size + 2) x xs xb X ∧ x.ownBlock ≠ some G ∧ xs.ownBlock ≠ some G ∧ xb.ownBlock ≠ some G ∧ w.heap.size + 2 ≤ G
  bl : Below w.heap.size w wx
  lv : wx.cell? ⟨w.heap.size, 0, none⟩ = some u
  rs : WBlk wx (w.heap.size + 1) nilV 0 0 nilV nilV
set_option maxRecDepth 100000 in
set_option maxHeartbeats 8000000 in
theorem newworld_impl {u : Value} {l : List ByteArray} (n s : Int) (w : World) (h : At w 1 u l.length (l.map Value.string)) (hm : l.length ≤ 1048576) (hz : ∀ s ∈ l, s.size ≤ 1048576) :
    Calls Try.prog 26 #[.agg #[u], .int .i64 n, .int .i64 s] w fun e w' => ∃ x xs xb, e = .returned (.tuple #[.agg #[x, .int .i64 (newT l n s).1.tick, .int .i64 (newT l n s).1.seed, xs, xb], .bool (newT l n s).2]) ∧ WOwn w' w.heap.size x xs xb (newT l n s).1 ∧ Below w.heap.size w w' := by
  have HL : ∀ wx, Below w.heap.size w wx → Calls Try.prog 58 #[.agg #[u]] wx fun e w' => e = .returned (.bool (lvT l)) ∧ Below wx.heap.size wx w' := fun wx hx => lvok_impl wx (h.below hx) hm hz
  have HC : ∀ wx, Below w.heap.size w wx → Calls Try.prog 72 #[.agg #[u]] wx fun e w' => ∃ x, e = .returned (.agg #[x]) ∧ Own w' wx.heap.size 1 x l.length (l.map Value.string) ∧ Below wx.heap.size wx w' := fun wx hx => copylev_impl wx (h.below hx) hm
  have HF : ∀ (k : Nat) wx, Below w.heap.size w wx → Calls Try.prog 73 #[.agg #[u], .int .i64 (k : Int)] wx fun e w' => e = .returned (freshB l k).val ∧ Below wx.heap.size wx w' := fun k wx hx => fresh_impl k wx (h.below hx) hm hz
  have HNO := Lib.hid (newT_no (l := l) (n := n) (s := s))
  have HYES := Lib.hid (newT_yes (l := l) (n := n) (s := s))
  go_enter Try.func26, Try.ntmps26
  go_upto_region 1 with (fail)
  generalize hw1 : (w.alloc _).alloc _ = w1
  have hb1 : Below w.heap.size w w1 := by rw [← hw1]; exact ((Below.refl _ _).alloc (Nat.le_refl _) _).alloc (by simp) _
  have hL1 : w1.cell? ⟨w.heap.size, 0, none⟩ = some u := by rw [← hw1]; exact cell_alloc_lt (World.cell?_alloc_new w _ _ 0) _ (by simp)
  have hR1 : WBlk w1 (w.heap.size + 1) nilV 0 0 nilV nilV := by
    rw [← hw1]
    have := WBlk.new (w.alloc (.cells #[u] 27)) 36 nilV 0 0 nilV nilV
    rwa [show (w.alloc (.cells #[u] 27)).heap.size = w.heap.size + 1 by simp] at this
  clear hw1
  go_wp2_with fail
  refine (HL _ hb1).mono ?_
  rintro e wa ⟨rfl, ha⟩
  have hb2 := hb1.trans (ha.mono hb1.size)
  have hR2 := hR1.below ha hR1.lt
  have hL2 : wa.cell? ⟨w.heap.size, 0, none⟩ = some u := (ha.cell (p := ⟨w.heap.size, 0, none⟩) (by have := hR1.lt; show w.heap.size < _; omega)).trans hL1
  clear hb1 hR1 hL1 ha HL
  by_cases hno : lvT l = false ∨ inB n 1 4 = false ∨ inB s 0 65535 = false
  · have HN := Lib.hid (HNO.out hno)
    cases hlv : lvT l with
    | false =>
      clear hno
      go_upto_region 2 with (fail)
      have hRs := (hR2.setAll (u' := nilV) (us' := nilV) (ub' := nilV) (tk' := 0) (sd' := 0)).range
      have hbs := setCells_below (o := 0) (vs := wcells nilV 0 0 nilV nilV) hb2 (show w.heap.size ≤ w.heap.size + 1 by omega)
      have hRt := hR2.there
      apply wp_region_lit
      iterate 3 go_step
      refine store_wld (op := ⟨none, _, _, _, _, _⟩) rfl _ _ rfl (w.heap.size + 1) rfl nilV 0 0 nilV nilV rfl hRt rfl rfl rfl ?_
      generalize hwn : World.setCells _ _ _ _ = wn
      rw [hwn] at hRs hbs
      clear hwn
      repeat go_step
      refine bodyPost_ret (res_wld2 rfl rfl rfl hRs) rfl ?_
      exact ⟨nilV, nilV, nilV, by rw [HN.out]; rfl, by rw [HN.out]; exact wown_nil _ _, hbs⟩
    | true =>
      rw [hlv] at hno
      clear hlv
      go_wp2_with fail
      refine (between_any _ _ _ _).mono ?_
      rintro e wx ⟨rfl, rfl⟩
      cases hn : inB n 1 4 with
      | false =>
        clear hno hn
        go_upto_region 2 with (fail)
        have hRs := (hR2.setAll (u' := nilV) (us' := nilV) (ub' := nilV) (tk' := 0) (sd' := 0)).range
        have hbs := setCells_below (o := 0) (vs := wcells nilV 0 0 nilV nilV) hb2 (show w.heap.size ≤ w.heap.size + 1 by omega)
        have hRt := hR2.there
        apply wp_region_lit
        iterate 3 go_step
        refine store_wld (op := ⟨none, _, _, _, _, _⟩) rfl _ _ rfl (w.heap.size + 1) rfl nilV 0 0 nilV nilV rfl hRt rfl rfl rfl ?_
        generalize hwn : World.setCells _ _ _ _ = wn
        rw [hwn] at hRs hbs
        clear hwn
        repeat go_step
        refine bodyPost_ret (res_wld2 rfl rfl rfl hRs) rfl ?_
        exact ⟨nilV, nilV, nilV, by rw [HN.out]; rfl, by rw [HN.out]; exact wown_nil _ _, hbs⟩
      | true =>
        rw [hn] at hno
        clear hn
        go_wp2_with fail
        refine (between_any _ _ _ _).mono ?_
        rintro e wx ⟨rfl, rfl⟩
        cases hs : inB s 0 65535 with
        | false =>
          clear hno hs
          go_upto_region 2 with (fail)
          have hRs := (hR2.setAll (u' := nilV) (us' := nilV) (ub' := nilV) (tk' := 0) (sd' := 0)).range
          have hbs := setCells_below (o := 0) (vs := wcells nilV 0 0 nilV nilV) hb2 (show w.heap.size ≤ w.heap.size + 1 by omega)
          have hRt := hR2.there
          apply wp_region_lit
          iterate 3 go_step
          refine store_wld (op := ⟨none, _, _, _, _, _⟩) rfl _ _ rfl (w.heap.size + 1) rfl nilV 0 0 nilV nilV rfl hRt rfl rfl rfl ?_
          generalize hwn : World.setCells _ _ _ _ = wn
          rw [hwn] at hRs hbs
          clear hwn
          repeat go_step
          refine bodyPost_ret (res_wld2 rfl rfl rfl hRs) rfl ?_
          exact ⟨nilV, nilV, nilV, by rw [HN.out]; rfl, by rw [HN.out]; exact wown_nil _ _, hbs⟩
        | true => rw [hs] at hno; simp at hno
  have hlv : lvT l = true := by cases e : lvT l with | true => rfl | false => exact absurd (.inl e) hno
  have hn : inB n 1 4 = true := by cases e : inB n 1 4 with | true => rfl | false => exact absurd (.inr (.inl e)) hno
  have hs : inB s 0 65535 = true := by cases e : inB s 0 65535 with | true => rfl | false => exact absurd (.inr (.inr e)) hno
  have hn' := inB_iff.1 hn
  have hs' := inB_iff.1 hs
  have HN := Lib.hid (HYES.out hlv hn' hs')
  obtain ⟨m, rfl⟩ : ∃ m : Nat, n = m := ⟨n.toNat, by omega⟩
  rw [hlv]
  clear hno HNO HYES
  have HLV := Lib.hid hlv
  clear hlv
  go_wp2_with fail
  refine (between_any _ _ _ _).mono ?_
  rintro e wx ⟨rfl, rfl⟩
  rw [hn]
  clear hn
  go_wp2_with fail
  refine (between_any _ _ _ _).mono ?_
  rintro e wx ⟨rfl, rfl⟩
  rw [hs]
  clear hs
  go_upto_region 3 with (fail)
  have hRd := hR2.drew
  have hBd := hb2.drew
  have hLd : wa.drew.cell? ⟨w.heap.size, 0, none⟩ = some u := hL2
  have hsz : w.heap.size + 2 ≤ wa.drew.heap.size := by have := hRd.lt; omega
  clear hb2 hR2 hL2
  generalize hwq : wa.drew = wq at hRd hBd hLd hsz
  go_cut [8] (fun p wx => NwI w u ⟨l, 0, s, List.replicate m 0, []⟩ p wx)
  case first =>
    refine wp_region_sch (fun wx => wx.cell? ⟨w.heap.size, 0, none⟩ = some u) 7 8 (.st 0 (.st 2 (.st 3 (.three 1 (.two 4 (.st 5 (.ef 6 (.fin [7]))) 6 (.ef 4 (.st 5 (.fin [7])))) 4 (.two 1 (.st 5 (.ef 6 (.fin [7]))) 6 (.ef 1 (.st 5 (.fin [7])))) 6 (.two 1 (.ef 4 (.st 5 (.fin [7]))) 4 (.ef 1 (.st 5 (.fin [7])))))))) (by kernel_rfl) (by kernel_rfl) (fun _ _ d _ _ h => by cases d <;> exact h) (by rw [hwq]; exact hLd) ?_
    rw [hwq]
    clear hwq
    refine sch_still (o := ⟨some 24, _, _, _, _, _⟩) (v := .agg #[u]) rfl rfl ?_ ?_
    · intro wx hSx
      go_simp
    simp only [Act.put, List.setIfInBounds_toArray, List.set_cons_zero, List.set_cons_succ]
    refine sch_still (o := ⟨some 26, _, _, _, _, _⟩) (v := .int .i64 s) rfl rfl ?_ ?_
    · intro wx hSx
      go_simp
    simp only [Act.put, List.setIfInBounds_toArray, List.set_cons_zero, List.set_cons_succ]
    refine sch_still (o := ⟨some 27, _, _, _, _, _⟩) (v := .int .i64 m) rfl rfl ?_ ?_
    · intro wx hSx
      go_simp
    simp only [Act.put, List.setIfInBounds_toArray, List.set_cons_zero, List.set_cons_succ]
    refine sch_3 (o := ⟨some 25, _, _, _, _, _⟩) (p := ⟨some 28, _, _, _, _, _⟩) (q := ⟨some 8, _, _, _, _, _⟩) rfl rfl rfl ?_ ?_ ?_
    · refine wpList_callC rfl 72 _ _ rfl Try.func72 (by kernel_rfl) (by kernel_rfl) #[.agg #[u]] (by kernel_rfl) (HC _ hBd) ?_
      rintro e wc1 ⟨x, rfl, hx, hk⟩
      refine ⟨_, rfl, ?_⟩
      have hxg1 : ∀ g, x.ownBlock = some g → wq.heap.size ≤ g ∧ g < wc1.heap.size := hx.ge
      have hb1 := hBd.trans (hk.mono hBd.size)
      have hL1 : wc1.cell? ⟨w.heap.size, 0, none⟩ = some u := (hk.cell (p := ⟨w.heap.size, 0, none⟩) (by show w.heap.size < wq.heap.size; omega)).trans hLd
      have hR1 := hRd.below hk hRd.lt
      have hz1 : w.heap.size + 2 ≤ wc1.heap.size := Nat.le_trans hsz hk.size
      have hs1 := hk.size
      clear hk
      refine sch_next hL1 ?_
      simp only [Act.put, List.setIfInBounds_toArray, List.set_cons_zero, List.set_cons_succ]
      refine sch_2 (o := ⟨some 28, _, _, _, _, _⟩) (p := ⟨some 8, _, _, _, _, _⟩) rfl rfl ?_ ?_
      · refine make_int (o := ⟨some 28, _, _, _, _, _⟩) wc1 rfl _ _ rfl wc1.heap.size m rfl rfl (by omega) (Nat.le_refl _) ?_
        intro wm2 hy hg
        have hk : Below wc1.heap.size wc1 wm2 := (Below.refl _ _).grown hg (Nat.le_refl _) (fun k h => by cases h)
        clear hg
        have hym2 := hy.ge
        have hb2 := hb1.trans (hk.mono hb1.size)
        have hL2 : wm2.cell? ⟨w.heap.size, 0, none⟩ = some u := (hk.cell (p := ⟨w.heap.size, 0, none⟩) (by show w.heap.size < wc1.heap.size; omega)).trans hL1
        have hR2 := hR1.below hk hR1.lt
        have hz2 : w.heap.size + 2 ≤ wm2.heap.size := Nat.le_trans hz1 hk.size
        have hs2 := hk.size
        replace hx := hx.belowS hk
        clear hk
        refine sch_next hL2 ?_
        simp only [Act.put, List.setIfInBounds_toArray, List.set_cons_zero, List.set_cons_succ]
        refine sch_still (o := ⟨some 29, _, _, _, _, _⟩) (v := .agg #[x, .int .i64 0, .int .i64 s, (.slice (some ⟨wc1.heap.size, 0, none⟩) m m), nilV]) rfl rfl ?_ ?_
        · intro wx hSx
          go_simp; rfl
        simp only [Act.put, List.setIfInBounds_toArray, List.set_cons_zero, List.set_cons_succ]
        refine sch_ef (o := ⟨some 8, _, _, _, _, _⟩) rfl ?_
        refine alloc_wld rfl rfl ?_
        have hG := WBlk.new wm2 36 nilV 0 0 nilV nilV
        have hk : Below wm2.heap.size wm2 (wm2.alloc (.cells #[nilV, .int .i64 0, .int .i64 0, nilV, nilV] 36)) := (Below.refl _ _).alloc (Nat.le_refl _) _
        generalize World.alloc wm2 _ = wa3 at hG hk
        have hGl3 := hG.lt
        have hb3 := hb2.trans (hk.mono hb2.size)
        have hL3 : wa3.cell? ⟨w.heap.size, 0, none⟩ = some u := (hk.cell (p := ⟨w.heap.size, 0, none⟩) (by show w.heap.size < wm2.heap.size; omega)).trans hL2
        have hR3 := hR2.below hk hR2.lt
        have hz3 : w.heap.size + 2 ≤ wa3.heap.size := Nat.le_trans hz2 hk.size
        have hs3 := hk.size
        replace hx := hx.belowS hk
        replace hy := hy.belowS hk
        clear hk
        refine sch_next hL3 ?_
        simp only [Act.put, List.setIfInBounds_toArray, List.set_cons_zero, List.set_cons_succ]
        refine sch_end (.cons (o := ⟨none, _, _, _, _, _⟩) rfl .nil) ?_
        have ox := slice_one hx.at_
        refine store_wld (op := ⟨none, _, _, _, _, _⟩) rfl _ _ rfl (wm2.heap.size) rfl x 0 s (.slice (some ⟨wc1.heap.size, 0, none⟩) m m) nilV rfl hG.there ox rfl rfl ?_
        have hq := And.intro (hG.setAll (u' := x) (us' := (.slice (some ⟨wc1.heap.size, 0, none⟩) m m)) (ub' := nilV) (tk' := 0) (sd' := s)) (setCells_grown wa3 (wm2.heap.size) 0 (wcells x 0 s (.slice (some ⟨wc1.heap.size, 0, none⟩) m m) nilV))
        generalize World.setCells wa3 _ _ _ = wn at hq
        obtain ⟨hGn, hgr⟩ := hq
        have hxn := hx.kept hgr (.inr (by intro e; have := hxg1 _ e; omega))
        have hyn := hy.kept hgr (.inr (by intro e; have := hym2 _ e; omega))
        have hRn := hR3.grown hgr (by simp only [ne_eq, Option.some.injEq]; omega)
        have hLn : wn.cell? ⟨w.heap.size, 0, none⟩ = some u := (World.cell?_of_block (hgr.block w.heap.size (by omega) (by simp only [ne_eq, Option.some.injEq]; omega))).trans hL3
        have hbn : Below w.heap.size w wn := hb3.grown hgr (by omega) (fun k h => by simp only [Option.some.injEq] at h; omega)
        go_wp2_with fail
        go_meet
        case rel =>
          refine ⟨⟨_, x, _, nilV, rfl, hGn, ⟨hxn.mono (by omega), (by show Own _ _ _ _ (List.replicate m (0 : Int)).length _; rw [List.length_replicate]; exact hyn.mono (by omega)), Own.nil _ _ _, ?_, Dj.symm (.inl rfl), Dj.symm (.inl rfl)⟩, ?_, ?_, ?_, ?_⟩, hbn, hLn, hRn⟩
          · exact dj_ge fun i j hi hj e => by have h1 := hxg1 i hi; have h2 := hym2 j hj; omega
          · intro e; have := hxg1 _ e; omega
          · intro e; have := hym2 _ e; omega
          · intro e; cases e
          · omega
      · refine alloc_wld rfl rfl ?_
        have hG := WBlk.new wc1 36 nilV 0 0 nilV nilV
        have hk : Below wc1.heap.size wc1 (wc1.alloc (.cells #[nilV, .int .i64 0, .int .i64 0, nilV, nilV] 36)) := (Below.refl _ _).alloc (Nat.le_refl _) _
        generalize World.alloc wc1 _ = wa2 at hG hk
        have hGl2 := hG.lt
        have hb2 := hb1.trans (hk.mono hb1.size)
        have hL2 : wa2.cell? ⟨w.heap.size, 0, none⟩ = some u := (hk.cell (p := ⟨w.heap.size, 0, none⟩) (by show w.heap.size < wc1.heap.size; omega)).trans hL1
        have hR2 := hR1.below hk hR1.lt
        have hz2 : w.heap.size + 2 ≤ wa2.heap.size := Nat.le_trans hz1 hk.size
        have hs2 := hk.size
        replace hx := hx.belowS hk
        clear hk
        refine sch_next hL2 ?_
        simp only [Act.put, List.setIfInBounds_toArray, List.set_cons_zero, List.set_cons_succ]
        refine sch_ef (o := ⟨some 28, _, _, _, _, _⟩) rfl ?_
        refine make_int (o := ⟨some 28, _, _, _, _, _⟩) wa2 rfl _ _ rfl wa2.heap.size m rfl rfl (by omega) (Nat.le_refl _) ?_
        intro wm3 hy hg
        have hk : Below wa2.heap.size wa2 wm3 := (Below.refl _ _).grown hg (Nat.le_refl _) (fun k h => by cases h)
        clear hg
        have hym3 := hy.ge
        have hb3 := hb2.trans (hk.mono hb2.size)
        have hL3 : wm3.cell? ⟨w.heap.size, 0, none⟩ = some u := (hk.cell (p := ⟨w.heap.size, 0, none⟩) (by show w.heap.size < wa2.heap.size; omega)).trans hL2
        have hR3 := hR2.below hk hR2.lt
        have hz3 : w.heap.size + 2 ≤ wm3.heap.size := Nat.le_trans hz2 hk.size
        have hs3 := hk.size
        replace hx := hx.belowS hk
        replace hG := hG.below hk hG.lt
        clear hk
        refine sch_next hL3 ?_
        simp only [Act.put, List.setIfInBounds_toArray, List.set_cons_zero, List.set_cons_succ]
        refine sch_still (o := ⟨some 29, _, _, _, _, _⟩) (v := .agg #[x, .int .i64 0, .int .i64 s, (.slice (some ⟨wa2.heap.size, 0, none⟩) m m), nilV]) rfl rfl ?_ ?_
        · intro wx hSx
          go_simp; rfl
        simp only [Act.put, List.setIfInBounds_toArray, List.set_cons_zero, List.set_cons_succ]
        refine sch_end (.cons (o := ⟨none, _, _, _, _, _⟩) rfl .nil) ?_
        have ox := slice_one hx.at_
        refine store_wld (op := ⟨none, _, _, _, _, _⟩) rfl _ _ rfl (wc1.heap.size) rfl x 0 s (.slice (some ⟨wa2.heap.size, 0, none⟩) m m) nilV rfl hG.there ox rfl rfl ?_
        have hq := And.intro (hG.setAll (u' := x) (us' := (.slice (some ⟨wa2.heap.size, 0, none⟩) m m)) (ub' := nilV) (tk' := 0) (sd' := s)) (setCells_grown wm3 (wc1.heap.size) 0 (wcells x 0 s (.slice (some ⟨wa2.heap.size, 0, none⟩) m m) nilV))
        generalize World.setCells wm3 _ _ _ = wn at hq
        obtain ⟨hGn, hgr⟩ := hq
        have hxn := hx.kept hgr (.inr (by intro e; have := hxg1 _ e; omega))
        have hyn := hy.kept hgr (.inr (by intro e; have := hym3 _ e; omega))
        have hRn := hR3.grown hgr (by simp only [ne_eq, Option.some.injEq]; omega)
        have hLn : wn.cell? ⟨w.heap.size, 0, none⟩ = some u := (World.cell?_of_block (hgr.block w.heap.size (by omega) (by simp only [ne_eq, Option.some.injEq]; omega))).trans hL3
        have hbn : Below w.heap.size w wn := hb3.grown hgr (by omega) (fun k h => by simp only [Option.some.injEq] at h; omega)
        go_wp2_with fail
        go_meet
        case rel =>
          refine ⟨⟨_, x, _, nilV, rfl, hGn, ⟨hxn.mono (by omega), (by show Own _ _ _ _ (List.replicate m (0 : Int)).length _; rw [List.length_replicate]; exact hyn.mono (by omega)), Own.nil _ _ _, ?_, Dj.symm (.inl rfl), Dj.symm (.inl rfl)⟩, ?_, ?_, ?_, ?_⟩, hbn, hLn, hRn⟩
          · exact dj_ge fun i j hi hj e => by have h1 := hxg1 i hi; have h2 := hym3 j hj; omega
          · intro e; have := hxg1 _ e; omega
          · intro e; have := hym3 _ e; omega
          · intro e; cases e
          · omega
    · refine make_int (o := ⟨some 28, _, _, _, _, _⟩) wq rfl _ _ rfl wq.heap.size m rfl rfl (by omega) (Nat.le_refl _) ?_
      intro wm1 hy hg
      have hk : Below wq.heap.size wq wm1 := (Below.refl _ _).grown hg (Nat.le_refl _) (fun k h => by cases h)
      clear hg
      have hym1 := hy.ge
      have hb1 := hBd.trans (hk.mono hBd.size)
      have hL1 : wm1.cell? ⟨w.heap.size, 0, none⟩ = some u := (hk.cell (p := ⟨w.heap.size, 0, none⟩) (by show w.heap.size < wq.heap.size; omega)).trans hLd
      have hR1 := hRd.below hk hRd.lt
      have hz1 : w.heap.size + 2 ≤ wm1.heap.size := Nat.le_trans hsz hk.size
      have hs1 := hk.size
      clear hk
      refine sch_next hL1 ?_
      simp only [Act.put, List.setIfInBounds_toArray, List.set_cons_zero, List.set_cons_succ]
      refine sch_2 (o := ⟨some 25, _, _, _, _, _⟩) (p := ⟨some 8, _, _, _, _, _⟩) rfl rfl ?_ ?_
      · refine wpList_callC rfl 72 _ _ rfl Try.func72 (by kernel_rfl) (by kernel_rfl) #[.agg #[u]] (by kernel_rfl) (HC _ hb1) ?_
        rintro e wc2 ⟨x, rfl, hx, hk⟩
        refine ⟨_, rfl, ?_⟩
        have hxg2 : ∀ g, x.ownBlock = some g → wm1.heap.size ≤ g ∧ g < wc2.heap.size := hx.ge
        have hb2 := hb1.trans (hk.mono hb1.size)
        have hL2 : wc2.cell? ⟨w.heap.size, 0, none⟩ = some u := (hk.cell (p := ⟨w.heap.size, 0, none⟩) (by show w.heap.size < wm1.heap.size; omega)).trans hL1
        have hR2 := hR1.below hk hR1.lt
        have hz2 : w.heap.size + 2 ≤ wc2.heap.size := Nat.le_trans hz1 hk.size
        have hs2 := hk.size
        replace hy := hy.belowS hk
        clear hk
        refine sch_next hL2 ?_
        simp only [Act.put, List.setIfInBounds_toArray, List.set_cons_zero, List.set_cons_succ]
        refine sch_still (o := ⟨some 29, _, _, _, _, _⟩) (v := .agg #[x, .int .i64 0, .int .i64 s, (.slice (some ⟨wq.heap.size, 0, none⟩) m m), nilV]) rfl rfl ?_ ?_
        · intro wx hSx
          go_simp; rfl
        simp only [Act.put, List.setIfInBounds_toArray, List.set_cons_zero, List.set_cons_succ]
        refine sch_ef (o := ⟨some 8, _, _, _, _, _⟩) rfl ?_
        refine alloc_wld rfl rfl ?_
        have hG := WBlk.new wc2 36 nilV 0 0 nilV nilV
        have hk : Below wc2.heap.size wc2 (wc2.alloc (.cells #[nilV, .int .i64 0, .int .i64 0, nilV, nilV] 36)) := (Below.refl _ _).alloc (Nat.le_refl _) _
        generalize World.alloc wc2 _ = wa3 at hG hk
        have hGl3 := hG.lt
        have hb3 := hb2.trans (hk.mono hb2.size)
        have hL3 : wa3.cell? ⟨w.heap.size, 0, none⟩ = some u := (hk.cell (p := ⟨w.heap.size, 0, none⟩) (by show w.heap.size < wc2.heap.size; omega)).trans hL2
        have hR3 := hR2.below hk hR2.lt
        have hz3 : w.heap.size + 2 ≤ wa3.heap.size := Nat.le_trans hz2 hk.size
        have hs3 := hk.size
        replace hy := hy.belowS hk
        replace hx := hx.belowS hk
        clear hk
        refine sch_next hL3 ?_
        simp only [Act.put, List.setIfInBounds_toArray, List.set_cons_zero, List.set_cons_succ]
        refine sch_end (.cons (o := ⟨none, _, _, _, _, _⟩) rfl .nil) ?_
        have ox := slice_one hx.at_
        refine store_wld (op := ⟨none, _, _, _, _, _⟩) rfl _ _ rfl (wc2.heap.size) rfl x 0 s (.slice (some ⟨wq.heap.size, 0, none⟩) m m) nilV rfl hG.there ox rfl rfl ?_
        have hq := And.intro (hG.setAll (u' := x) (us' := (.slice (some ⟨wq.heap.size, 0, none⟩) m m)) (ub' := nilV) (tk' := 0) (sd' := s)) (setCells_grown wa3 (wc2.heap.size) 0 (wcells x 0 s (.slice (some ⟨wq.heap.size, 0, none⟩) m m) nilV))
        generalize World.setCells wa3 _ _ _ = wn at hq
        obtain ⟨hGn, hgr⟩ := hq
        have hxn := hx.kept hgr (.inr (by intro e; have := hxg2 _ e; omega))
        have hyn := hy.kept hgr (.inr (by intro e; have := hym1 _ e; omega))
        have hRn := hR3.grown hgr (by simp only [ne_eq, Option.some.injEq]; omega)
        have hLn : wn.cell? ⟨w.heap.size, 0, none⟩ = some u := (World.cell?_of_block (hgr.block w.heap.size (by omega) (by simp only [ne_eq, Option.some.injEq]; omega))).trans hL3
        have hbn : Below w.heap.size w wn := hb3.grown hgr (by omega) (fun k h => by simp only [Option.some.injEq] at h; omega)
        go_wp2_with fail
        go_meet
        case rel =>
          refine ⟨⟨_, x, _, nilV, rfl, hGn, ⟨hxn.mono (by omega), (by show Own _ _ _ _ (List.replicate m (0 : Int)).length _; rw [List.length_replicate]; exact hyn.mono (by omega)), Own.nil _ _ _, ?_, Dj.symm (.inl rfl), Dj.symm (.inl rfl)⟩, ?_, ?_, ?_, ?_⟩, hbn, hLn, hRn⟩
          · exact dj_ge fun i j hi hj e => by have h1 := hxg2 i hi; have h2 := hym1 j hj; omega
          · intro e; have := hxg2 _ e; omega
          · intro e; have := hym1 _ e; omega
          · intro e; cases e
          · omega
      · refine alloc_wld rfl rfl ?_
        have hG := WBlk.new wm1 36 nilV 0 0 nilV nilV
        have hk : Below wm1.heap.size wm1 (wm1.alloc (.cells #[nilV, .int .i64 0, .int .i64 0, nilV, nilV] 36)) := (Below.refl _ _).alloc (Nat.le_refl _) _
        generalize World.alloc wm1 _ = wa2 at hG hk
        have hGl2 := hG.lt
        have hb2 := hb1.trans (hk.mono hb1.size)
        have hL2 : wa2.cell? ⟨w.heap.size, 0, none⟩ = some u := (hk.cell (p := ⟨w.heap.size, 0, none⟩) (by show w.heap.size < wm1.heap.size; omega)).trans hL1
        have hR2 := hR1.below hk hR1.lt
        have hz2 : w.heap.size + 2 ≤ wa2.heap.size := Nat.le_trans hz1 hk.size
        have hs2 := hk.size
        replace hy := hy.belowS hk
        clear hk
        refine sch_next hL2 ?_
        simp only [Act.put, List.setIfInBounds_toArray, List.set_cons_zero, List.set_cons_succ]
        refine sch_ef (o := ⟨some 25, _, _, _, _, _⟩) rfl ?_
        refine wpList_callC rfl 72 _ _ rfl Try.func72 (by kernel_rfl) (by kernel_rfl) #[.agg #[u]] (by kernel_rfl) (HC _ hb2) ?_
        rintro e wc3 ⟨x, rfl, hx, hk⟩
        refine ⟨_, rfl, ?_⟩
        have hxg3 : ∀ g, x.ownBlock = some g → wa2.heap.size ≤ g ∧ g < wc3.heap.size := hx.ge
        have hb3 := hb2.trans (hk.mono hb2.size)
        have hL3 : wc3.cell? ⟨w.heap.size, 0, none⟩ = some u := (hk.cell (p := ⟨w.heap.size, 0, none⟩) (by show w.heap.size < wa2.heap.size; omega)).trans hL2
        have hR3 := hR2.below hk hR2.lt
        have hz3 : w.heap.size + 2 ≤ wc3.heap.size := Nat.le_trans hz2 hk.size
        have hs3 := hk.size
        replace hy := hy.belowS hk
        replace hG := hG.below hk hG.lt
        clear hk
        refine sch_next hL3 ?_
        simp only [Act.put, List.setIfInBounds_toArray, List.set_cons_zero, List.set_cons_succ]
        refine sch_still (o := ⟨some 29, _, _, _, _, _⟩) (v := .agg #[x, .int .i64 0, .int .i64 s, (.slice (some ⟨wq.heap.size, 0, none⟩) m m), nilV]) rfl rfl ?_ ?_
        · intro wx hSx
          go_simp; rfl
        simp only [Act.put, List.setIfInBounds_toArray, List.set_cons_zero, List.set_cons_succ]
        refine sch_end (.cons (o := ⟨none, _, _, _, _, _⟩) rfl .nil) ?_
        have ox := slice_one hx.at_
        refine store_wld (op := ⟨none, _, _, _, _, _⟩) rfl _ _ rfl (wm1.heap.size) rfl x 0 s (.slice (some ⟨wq.heap.size, 0, none⟩) m m) nilV rfl hG.there ox rfl rfl ?_
        have hq := And.intro (hG.setAll (u' := x) (us' := (.slice (some ⟨wq.heap.size, 0, none⟩) m m)) (ub' := nilV) (tk' := 0) (sd' := s)) (setCells_grown wc3 (wm1.heap.size) 0 (wcells x 0 s (.slice (some ⟨wq.heap.size, 0, none⟩) m m) nilV))
        generalize World.setCells wc3 _ _ _ = wn at hq
        obtain ⟨hGn, hgr⟩ := hq
        have hxn := hx.kept hgr (.inr (by intro e; have := hxg3 _ e; omega))
        have hyn := hy.kept hgr (.inr (by intro e; have := hym1 _ e; omega))
        have hRn := hR3.grown hgr (by simp only [ne_eq, Option.some.injEq]; omega)
        have hLn : wn.cell? ⟨w.heap.size, 0, none⟩ = some u := (World.cell?_of_block (hgr.block w.heap.size (by omega) (by simp only [ne_eq, Option.some.injEq]; omega))).trans hL3
        have hbn : Below w.heap.size w wn := hb3.grown hgr (by omega) (fun k h => by simp only [Option.some.injEq] at h; omega)
        go_wp2_with fail
        go_meet
        case rel =>
          refine ⟨⟨_, x, _, nilV, rfl, hGn, ⟨hxn.mono (by omega), (by show Own _ _ _ _ (List.replicate m (0 : Int)).length _; rw [List.length_replicate]; exact hyn.mono (by omega)), Own.nil _ _ _, ?_, Dj.symm (.inl rfl), Dj.symm (.inl rfl)⟩, ?_, ?_, ?_, ?_⟩, hbn, hLn, hRn⟩
          · exact dj_ge fun i j hi hj e => by have h1 := hxg3 i hi; have h2 := hym1 j hj; omega
          · intro e; have := hxg3 _ e; omega
          · intro e; have := hym1 _ e; omega
          · intro e; cases e
          · omega
    · refine alloc_wld rfl rfl ?_
      have hG := WBlk.new wq 36 nilV 0 0 nilV nilV
      have hk : Below wq.heap.size wq (wq.alloc (.cells #[nilV, .int .i64 0, .int .i64 0, nilV, nilV] 36)) := (Below.refl _ _).alloc (Nat.le_refl _) _
      generalize World.alloc wq _ = wa1 at hG hk
      have hGl1 := hG.lt
      have hb1 := hBd.trans (hk.mono hBd.size)
      have hL1 : wa1.cell? ⟨w.heap.size, 0, none⟩ = some u := (hk.cell (p := ⟨w.heap.size, 0, none⟩) (by show w.heap.size < wq.heap.size; omega)).trans hLd
      have hR1 := hRd.below hk hRd.lt
      have hz1 : w.heap.size + 2 ≤ wa1.heap.size := Nat.le_trans hsz hk.size
      have hs1 := hk.size
      clear hk
      refine sch_next hL1 ?_
      simp only [Act.put, List.setIfInBounds_toArray, List.set_cons_zero, List.set_cons_succ]
      refine sch_2 (o := ⟨some 25, _, _, _, _, _⟩) (p := ⟨some 28, _, _, _, _, _⟩) rfl rfl ?_ ?_
      · refine wpList_callC rfl 72 _ _ rfl Try.func72 (by kernel_rfl) (by kernel_rfl) #[.agg #[u]] (by kernel_rfl) (HC _ hb1) ?_
        rintro e wc2 ⟨x, rfl, hx, hk⟩
        refine ⟨_, rfl, ?_⟩
        have hxg2 : ∀ g, x.ownBlock = some g → wa1.heap.size ≤ g ∧ g < wc2.heap.size := hx.ge
        have hb2 := hb1.trans (hk.mono hb1.size)
        have hL2 : wc2.cell? ⟨w.heap.size, 0, none⟩ = some u := (hk.cell (p := ⟨w.heap.size, 0, none⟩) (by show w.heap.size < wa1.heap.size; omega)).trans hL1
        have hR2 := hR1.below hk hR1.lt
        have hz2 : w.heap.size + 2 ≤ wc2.heap.size := Nat.le_trans hz1 hk.size
        have hs2 := hk.size
        replace hG := hG.below hk hG.lt
        clear hk
        refine sch_next hL2 ?_
        simp only [Act.put, List.setIfInBounds_toArray, List.set_cons_zero, List.set_cons_succ]
        refine sch_ef (o := ⟨some 28, _, _, _, _, _⟩) rfl ?_
        refine make_int (o := ⟨some 28, _, _, _, _, _⟩) wc2 rfl _ _ rfl wc2.heap.size m rfl rfl (by omega) (Nat.le_refl _) ?_
        intro wm3 hy hg
        have hk : Below wc2.heap.size wc2 wm3 := (Below.refl _ _).grown hg (Nat.le_refl _) (fun k h => by cases h)
        clear hg
        have hym3 := hy.ge
        have hb3 := hb2.trans (hk.mono hb2.size)
        have hL3 : wm3.cell? ⟨w.heap.size, 0, none⟩ = some u := (hk.cell (p := ⟨w.heap.size, 0, none⟩) (by show w.heap.size < wc2.heap.size; omega)).trans hL2
        have hR3 := hR2.below hk hR2.lt
        have hz3 : w.heap.size + 2 ≤ wm3.heap.size := Nat.le_trans hz2 hk.size
        have hs3 := hk.size
        replace hG := hG.below hk hG.lt
        replace hx := hx.belowS hk
        clear hk
        refine sch_next hL3 ?_
        simp only [Act.put, List.setIfInBounds_toArray, List.set_cons_zero, List.set_cons_succ]
        refine sch_still (o := ⟨some 29, _, _, _, _, _⟩) (v := .agg #[x, .int .i64 0, .int .i64 s, (.slice (some ⟨wc2.heap.size, 0, none⟩) m m), nilV]) rfl rfl ?_ ?_
        · intro wx hSx
          go_simp; rfl
        simp only [Act.put, List.setIfInBounds_toArray, List.set_cons_zero, List.set_cons_succ]
        refine sch_end (.cons (o := ⟨none, _, _, _, _, _⟩) rfl .nil) ?_
        have ox := slice_one hx.at_
        refine store_wld (op := ⟨none, _, _, _, _, _⟩) rfl _ _ rfl (wq.heap.size) rfl x 0 s (.slice (some ⟨wc2.heap.size, 0, none⟩) m m) nilV rfl hG.there ox rfl rfl ?_
        have hq := And.intro (hG.setAll (u' := x) (us' := (.slice (some ⟨wc2.heap.size, 0, none⟩) m m)) (ub' := nilV) (tk' := 0) (sd' := s)) (setCells_grown wm3 (wq.heap.size) 0 (wcells x 0 s (.slice (some ⟨wc2.heap.size, 0, none⟩) m m) nilV))
        generalize World.setCells wm3 _ _ _ = wn at hq
        obtain ⟨hGn, hgr⟩ := hq
        have hxn := hx.kept hgr (.inr (by intro e; have := hxg2 _ e; omega))
        have hyn := hy.kept hgr (.inr (by intro e; have := hym3 _ e; omega))
        have hRn := hR3.grown hgr (by simp only [ne_eq, Option.some.injEq]; omega)
        have hLn : wn.cell? ⟨w.heap.size, 0, none⟩ = some u := (World.cell?_of_block (hgr.block w.heap.size (by omega) (by simp only [ne_eq, Option.some.injEq]; omega))).trans hL3
        have hbn : Below w.heap.size w wn := hb3.grown hgr (by omega) (fun k h => by simp only [Option.some.injEq] at h; omega)
        go_wp2_with fail
        go_meet
        case rel =>
          refine ⟨⟨_, x, _, nilV, rfl, hGn, ⟨hxn.mono (by omega), (by show Own _ _ _ _ (List.replicate m (0 : Int)).length _; rw [List.length_replicate]; exact hyn.mono (by omega)), Own.nil _ _ _, ?_, Dj.symm (.inl rfl), Dj.symm (.inl rfl)⟩, ?_, ?_, ?_, ?_⟩, hbn, hLn, hRn⟩
          · exact dj_ge fun i j hi hj e => by have h1 := hxg2 i hi; have h2 := hym3 j hj; omega
          · intro e; have := hxg2 _ e; omega
          · intro e; have := hym3 _ e; omega
          · intro e; cases e
          · omega
      · refine make_int (o := ⟨some 28, _, _, _, _, _⟩) wa1 rfl _ _ rfl wa1.heap.size m rfl rfl (by omega) (Nat.le_refl _) ?_
        intro wm2 hy hg
        have hk : Below wa1.heap.size wa1 wm2 := (Below.refl _ _).grown hg (Nat.le_refl _) (fun k h => by cases h)
        clear hg
        have hym2 := hy.ge
        have hb2 := hb1.trans (hk.mono hb1.size)
        have hL2 : wm2.cell? ⟨w.heap.size, 0, none⟩ = some u := (hk.cell (p := ⟨w.heap.size, 0, none⟩) (by show w.heap.size < wa1.heap.size; omega)).trans hL1
        have hR2 := hR1.below hk hR1.lt
        have hz2 : w.heap.size + 2 ≤ wm2.heap.size := Nat.le_trans hz1 hk.size
        have hs2 := hk.size
        replace hG := hG.below hk hG.lt
        clear hk
        refine sch_next hL2 ?_
        simp only [Act.put, List.setIfInBounds_toArray, List.set_cons_zero, List.set_cons_succ]
        refine sch_ef (o := ⟨some 25, _, _, _, _, _⟩) rfl ?_
        refine wpList_callC rfl 72 _ _ rfl Try.func72 (by kernel_rfl) (by kernel_rfl) #[.agg #[u]] (by kernel_rfl) (HC _ hb2) ?_
        rintro e wc3 ⟨x, rfl, hx, hk⟩
        refine ⟨_, rfl, ?_⟩
        have hxg3 : ∀ g, x.ownBlock = some g → wm2.heap.size ≤ g ∧ g < wc3.heap.size := hx.ge
        have hb3 := hb2.trans (hk.mono hb2.size)
        have hL3 : wc3.cell? ⟨w.heap.size, 0, none⟩ = some u := (hk.cell (p := ⟨w.heap.size, 0, none⟩) (by show w.heap.size < wm2.heap.size; omega)).trans hL2
        have hR3 := hR2.below hk hR2.lt
        have hz3 : w.heap.size + 2 ≤ wc3.heap.size := Nat.le_trans hz2 hk.size
        have hs3 := hk.size
        replace hG := hG.below hk hG.lt
        replace hy := hy.belowS hk
        clear hk
        refine sch_next hL3 ?_
        simp only [Act.put, List.setIfInBounds_toArray, List.set_cons_zero, List.set_cons_succ]
        refine sch_still (o := ⟨some 29, _, _, _, _, _⟩) (v := .agg #[x, .int .i64 0, .int .i64 s, (.slice (some ⟨wa1.heap.size, 0, none⟩) m m), nilV]) rfl rfl ?_ ?_
        · intro wx hSx
          go_simp; rfl
        simp only [Act.put, List.setIfInBounds_toArray, List.set_cons_zero, List.set_cons_succ]
        refine sch_end (.cons (o := ⟨none, _, _, _, _, _⟩) rfl .nil) ?_
        have ox := slice_one hx.at_
        refine store_wld (op := ⟨none, _, _, _, _, _⟩) rfl _ _ rfl (wq.heap.size) rfl x 0 s (.slice (some ⟨wa1.heap.size, 0, none⟩) m m) nilV rfl hG.there ox rfl rfl ?_
        have hq := And.intro (hG.setAll (u' := x) (us' := (.slice (some ⟨wa1.heap.size, 0, none⟩) m m)) (ub' := nilV) (tk' := 0) (sd' := s)) (setCells_grown wc3 (wq.heap.size) 0 (wcells x 0 s (.slice (some ⟨wa1.heap.size, 0, none⟩) m m) nilV))
        generalize World.setCells wc3 _ _ _ = wn at hq
        obtain ⟨hGn, hgr⟩ := hq
        have hxn := hx.kept hgr (.inr (by intro e; have := hxg3 _ e; omega))
        have hyn := hy.kept hgr (.inr (by intro e; have := hym2 _ e; omega))
        have hRn := hR3.grown hgr (by simp only [ne_eq, Option.some.injEq]; omega)
        have hLn : wn.cell? ⟨w.heap.size, 0, none⟩ = some u := (World.cell?_of_block (hgr.block w.heap.size (by omega) (by simp only [ne_eq, Option.some.injEq]; omega))).trans hL3
        have hbn : Below w.heap.size w wn := hb3.grown hgr (by omega) (fun k h => by simp only [Option.some.injEq] at h; omega)
        go_wp2_with fail
        go_meet
        case rel =>
          refine ⟨⟨_, x, _, nilV, rfl, hGn, ⟨hxn.mono (by omega), (by show Own _ _ _ _ (List.replicate m (0 : Int)).length _; rw [List.length_replicate]; exact hyn.mono (by omega)), Own.nil _ _ _, ?_, Dj.symm (.inl rfl), Dj.symm (.inl rfl)⟩, ?_, ?_, ?_, ?_⟩, hbn, hLn, hRn⟩
          · exact dj_ge fun i j hi hj e => by have h1 := hxg3 i hi; have h2 := hym2 j hj; omega
          · intro e; have := hxg3 _ e; omega
          · intro e; have := hym2 _ e; omega
          · intro e; cases e
          · omega
  case rest =>
  clear hRd hBd hLd hsz hwq HC
  obtain ⟨⟨G, x0, xs0, xb0, rfl, hG, hO, n1, n2, n3, hge⟩, hb, hL, hR⟩ := hcut
  have hI : NwI w u ⟨l, 0, s, List.replicate m 0, (List.range 0).map (freshB l)⟩ (.pointer (some ⟨G, 0, none⟩)) wc := ⟨⟨G, x0, xs0, xb0, rfl, hG, hO, n1, n2, n3, hge⟩, hb, hL, hR⟩
  clear hG hO n1 n2 n3 hge hb hL hR
  go_wp2_with fail
  go_loopw [9] (fun i wr => ∃ k : Nat, k ≤ m ∧ i = .int .i64 k ∧ NwI w u ⟨l, 0, s, List.replicate m 0, (List.range k).map (freshB l)⟩ (.pointer (some ⟨G, 0, none⟩)) wr) (fun i _ => m - (intOf i).toNat)
  case atStart => exact ⟨0, Nat.zero_le _, rfl, hI⟩
  case round =>
    clear hI
    obtain ⟨k, hk, rfl, ⟨⟨G', x, xs, xb, he, hG, hO, n1, n2, n3, hge⟩, hb, hL, hR⟩⟩ := hrel
    obtain rfl : G = G' := by simpa using he
    clear he
    by_cases hlt : k < m
    · have HE := Lib.hid (range_fresh l k)
      have hbl : ((List.range k).map (freshB l)).length = k := by simp
      generalize (List.range k).map (freshB l) = bs at *
      generalize hFF : freshB l k = F at *
      have HFF := Lib.hid hFF
      clear hFF
      obtain ⟨hr, hs, hbd, rs, rb, sb⟩ := hO
      simp only at hr hs hbd
      obtain ⟨_, c0, c1, c2, c3, c4, f0, f1, f2, f3, f4⟩ := id hG
      go_upto_region 7 with (fail)
      have hGd := hG.drew
      have hbD := hb.drew
      have hLd : wr.drew.cell? ⟨w.heap.size, 0, none⟩ = some u := hL
      have hRd := hR.drew
      have hrd := hr.drew
      have hsd := hs.drew
      have hbd' := hbd.drew
      clear hG hb hL hR hr hs hbd c0 c1 c2 c3 c4 f0 f1 f2 f3 f4
      have e4 := hGd.c4
      have hKF := HF k wr.drew hbD
      rw [HFF.out] at hKF
      refine wp_region_sch (fun wx => wx.cell? ⟨G, 4, none⟩ = some xb ∧ wx.cell? ⟨w.heap.size, 0, none⟩ = some u) 6 9 (.st 0 (.st 1 (.st 2 (.st 3 (.ef 4 (.ef 5 (.fin [6, 7, 8]))))))) (by kernel_rfl) (by kernel_rfl) (fun _ _ d _ _ h => by cases d <;> exact h) ⟨e4, hLd⟩ ?_
      refine sch_still (o := ⟨some 35, _, _, _, _, _⟩) (v := .pointer (some ⟨G, 4, none⟩)) rfl rfl ?_ ?_
      · intro wx hSx
        go_simp
      simp only [Act.put, List.setIfInBounds_toArray, List.set_cons_zero, List.set_cons_succ]
      refine sch_still (o := ⟨some 36, _, _, _, _, _⟩) (v := xb) rfl rfl ?_ ?_
      · intro wx hSx
        obtain ⟨s1, s2⟩ := hSx; go_simp
      simp only [Act.put, List.setIfInBounds_toArray, List.set_cons_zero, List.set_cons_succ]
      refine sch_still (o := ⟨some 37, _, _, _, _, _⟩) (v := .agg #[u]) rfl rfl ?_ ?_
      · intro wx hSx
        obtain ⟨s1, s2⟩ := hSx; go_simp
      simp only [Act.put, List.setIfInBounds_toArray, List.set_cons_zero, List.set_cons_succ]
      refine sch_still (o := ⟨some 38, _, _, _, _, _⟩) (v := .int .i64 (k : Int)) rfl rfl ?_ ?_
      · intro wx hSx
        go_simp
      simp only [Act.put, List.setIfInBounds_toArray, List.set_cons_zero, List.set_cons_succ]
      generalize wr.drew = wq at *
      refine sch_ef (o := ⟨some 39, _, _, _, _, _⟩) rfl ?_
      refine wpList_callC rfl 73 _ _ rfl Try.func73 (by kernel_rfl) (by kernel_rfl) #[.agg #[u], .int .i64 (k : Int)] (by kernel_rfl) (hKF) ?_
      rintro e wf ⟨rfl, hk1⟩
      refine ⟨_, rfl, ?_⟩
      have gG := hGd.below hk1 hGd.lt
      have gb := hbD.trans (hk1.mono hbD.size)
      have gL : wf.cell? ⟨w.heap.size, 0, none⟩ = some u := (hk1.cell (p := ⟨w.heap.size, 0, none⟩) (by have := hRd.lt; show w.heap.size < _; omega)).trans hLd
      have gR := hRd.below hk1 hRd.lt
      have gr := hrd.belowS hk1
      have gs := hsd.belowS hk1
      have gB := hbd'.belowS hk1
      clear hGd hbD hLd hRd hrd hsd hbd' hk1 hKF e4
      refine sch_next ⟨gG.c4, gL⟩ ?_
      simp only [Act.put, List.setIfInBounds_toArray, List.set_cons_zero, List.set_cons_succ]
      refine sch_ef (o := ⟨some 40, _, _, _, _, _⟩) rfl ?_
      refine lit_bod (o := ⟨some 40, _, _, _, _, _⟩) rfl _ rfl F rfl ?_
      have hq := own_lit wf F
      have hk2 : Below wf.heap.size wf (wf.alloc (.cells F.cells.toArray 42)) := (Below.refl _ _).alloc (Nat.le_refl _) _
      have hsv := slice_one hq.at_
      generalize World.alloc wf _ = wl at hq hk2
      have hG2 := gG.below hk2 gG.lt
      have hb2 := gb.trans (hk2.mono gb.size)
      have hL2 : wl.cell? ⟨w.heap.size, 0, none⟩ = some u := (hk2.cell (p := ⟨w.heap.size, 0, none⟩) (by have := gR.lt; show w.heap.size < _; omega)).trans gL
      have hR2 := gR.below hk2 gR.lt
      have hr2 := gr.belowS hk2
      have hs2 := gs.belowS hk2
      have hB2 := gB.belowS hk2
      have hz2 : w.heap.size + 2 ≤ wl.heap.size := by have := hR2.lt; omega
      clear gG gb gL gR gr gs gB hk2
      refine sch_next ⟨hG2.c4, hL2⟩ ?_
      simp only [Act.put, List.setIfInBounds_toArray, List.set_cons_zero, List.set_cons_succ]
      refine sch_end (.cons (o := ⟨some 41, _, _, _, _, _⟩) rfl (.cons (o := ⟨some 42, _, _, _, _, _⟩) rfl (.cons (o := ⟨none, _, _, _, _, _⟩) rfl .nil))) ?_
      refine app_bods (o := ⟨some 41, _, _, _, _, _⟩) wl rfl _ _ rfl (w.heap.size + 2) hB2 rfl hq.at_ rfl (by omega) hz2 ?_
      intro v wa hv hg hvb
      have hG3 := hG2.grown hg n3
      have hb3 := hb2.grown hg (by omega) (fun k h => by have := (hB2.ge k h).1; omega)
      have hL3 : wa.cell? ⟨w.heap.size, 0, none⟩ = some u := (World.cell?_of_block (hg.block w.heap.size (by omega) (fun e => by have := (hB2.ge _ e.symm).1; omega))).trans hL2
      have hR3 := hR2.grown hg (fun e => by have := (hB2.ge _ e).1; omega)
      have hr3 := hr2.kept hg rb
      have hs3 := hs2.kept hg sb
      have hvG : v.ownBlock ≠ some G := by rcases hvb with e | ⟨g, e, hgg⟩; (· rw [e]; exact n3); (· rw [e]; intro e2; simp only [Option.some.injEq] at e2; have := hG2.lt; omega)
      have hvr : Dj x v := by rcases hvb with e | ⟨g, e, hgg⟩; (· unfold Dj at rb ⊢; rw [e]; exact rb); (· exact dj_ge fun i j hi hj e2 => by rw [e] at hj; simp only [Option.some.injEq] at hj; have := (hr2.ge i hi).2; omega)
      have hvs : Dj xs v := by rcases hvb with e | ⟨g, e, hgg⟩; (· unfold Dj at sb ⊢; rw [e]; exact sb); (· exact dj_ge fun i j hi hj e2 => by rw [e] at hj; simp only [Option.some.injEq] at hj; have := (hs2.ge i hi).2; omega)
      clear hG2 hb2 hL2 hR2 hr2 hs2 hB2 hq hg hvb rb sb n3
      simp only [Act.put, List.setIfInBounds_toArray, List.set_cons_zero, List.set_cons_succ]
      iterate 3 go_step
      refine store_cell (o := ⟨none, _, _, _, _, _⟩) rfl _ _ _ rfl G 4 rfl v rfl (slice_one hv.at_) size_bods hG3.c4 hG3.f4 ?_
      have hG4 := hG3.set4 v
      have hgr := setCells_grown wa G 4 [v]
      have hgr' : wa.grownBy (wa.setCell ⟨G, 4, none⟩ v) (some G) := hgr
      clear hgr
      generalize World.setCell wa _ _ = wz at hG4 hgr'
      have hb4 : Below w.heap.size w wz := hb3.grown hgr' (by have := hR3.lt; omega) (fun k h => by simp only [Option.some.injEq] at h; omega)
      have hR4 := hR3.grown hgr' (by simp only [ne_eq, Option.some.injEq]; omega)
      have hL4 : wz.cell? ⟨w.heap.size, 0, none⟩ = some u := (World.cell?_of_block (hgr'.block w.heap.size (by have := hR3.lt; omega) (by simp only [ne_eq, Option.some.injEq]; omega))).trans hL3
      have hr4 := hr3.kept hgr' (.inr n1)
      have hs4 := hs3.kept hgr' (.inr n2)
      have hv4 := hv.kept hgr' (.inr hvG)
      clear hG3 hb3 hR3 hL3 hr3 hs3 hv hgr'
      go_wp2_with fail
      go_roundw
      case rel =>
        refine ⟨k + 1, by omega, by go_num, ⟨⟨G, x, xs, v, rfl, hG4, ⟨hr4, hs4, ?_, rs, hvr, hvs⟩, n1, n2, hvG, hge⟩, hb4, hL4, hR4⟩⟩
        show Own _ _ _ _ (List.map (freshB l) (List.range (k + 1))).length _
        have hv5 := hv4
        rw [hbl] at hv5
        rw [show (List.map (freshB l) (List.range (k + 1))).length = k + 1 by simp, HE.out]
        exact hv5
      case measure => simp [intOf]; omega
    · obtain rfl : k = m := by omega
      have HNW : Hid ((⟨l, 0, s, List.replicate k 0, (List.range k).map (freshB l)⟩ : Wd) = newW l k s) := Lib.hid rfl
      rw [HNW.out] at hO
      have HOK := Lib.hid (newW_ok (rows := l) (n := k) (seed := s) HLV.out (by omega) (by omega) hs'.1 hs'.2)
      have hsm := wok_small HOK.out
      have hbw := wok_bwf HOK.out
      obtain ⟨X, hX⟩ : ∃ X, newW l k s = X := ⟨_, rfl⟩
      rw [hX] at hO HOK hsm hbw
      have ht0 : (0 : Int) = X.tick := by rw [← hX]; rfl
      have hs0 : s = X.seed := by rw [← hX]; rfl
      simp only at hG
      have HG2 : WBlk wr G x X.tick X.seed xs xb := by rw [← ht0, ← hs0]; exact hG
      have HXX : Hid (newT l k s = (X, true)) := by rw [← hX]; have := HN.out; rwa [Int.toNat_natCast] at this
      clear hG hX ht0 hs0 HNW HN HF hz h
      have hW := fun wx (hx : Below wr.heap.size wr wx) => worldok_impl wx (hO.at_.below hx) hsm hbw
      rw [ok_okW HOK.out] at hW
      clear HOK
      go_upto_region 8 with (fail)
      apply wp_region_lit
      refine load_wld (op := ⟨some 43, _, _, _, _, _⟩) rfl _ rfl G rfl x X.tick X.seed xs xb HG2.range ?_
      refine wpList_callC rfl 53 _ _ rfl Try.func53 (by kernel_rfl) (by kernel_rfl) #[.agg #[x, .int .i64 X.tick, .int .i64 X.seed, xs, xb]] (by kernel_rfl) (hW _ (Below.refl _ _)) ?_
      rintro e wf ⟨rfl, hk1⟩
      refine ⟨_, rfl, ?_⟩
      have hG3 := HG2.below hk1 HG2.lt
      have hb3 := hb.trans (hk1.mono hb.size)
      have hR3 := hR.below hk1 hR.lt
      have hO3 := hO.below hk1
      clear HG2 hb hR hO hk1 hW hL
      simp only [Act.put, List.setIfInBounds_toArray, List.set_cons_zero, List.set_cons_succ]
      go_upto_region 10 with (fail)
      have ox := slice_one hO3.at_.r
      have oxs := slice_one hO3.at_.s
      have oxb := slice_one hO3.at_.b
      apply wp_region_lit
      refine load_wld (op := ⟨some 47, _, _, _, _, _⟩) rfl _ rfl G rfl x X.tick X.seed xs xb hG3.range ?_
      refine store_wld (op := ⟨none, _, _, _, _, _⟩) rfl _ _ rfl (w.heap.size + 1) rfl x X.tick X.seed xs xb rfl hR3.there ox oxs oxb ?_
      have hq := And.intro (hR3.setAll (u' := x) (us' := xs) (ub' := xb) (tk' := X.tick) (sd' := X.seed)) (setCells_grown wf (w.heap.size + 1) 0 (wcells x X.tick X.seed xs xb))
      generalize World.setCells wf _ _ _ = wn at hq
      obtain ⟨hRn, hgr⟩ := hq
      have hOn : WOwn wn w.heap.size x xs xb X := (hO3.tch (S := fun i => i = w.heap.size + 1) ⟨hgr.os, hgr.tape, hgr.output, hgr.size, fun i hi hs => hgr.block i hi (fun e => hs (by simpa using e))⟩ (fun i hi e => by have := (hO3.ge i hi).1; omega)).mono (by omega)
      have hbn : Below w.heap.size w wn := hb3.grown hgr (by have := hR3.lt; omega) (fun k h => by simp only [Option.some.injEq] at h; omega)
      clear hgr hO3 hb3 hR3 hG3
      repeat go_step
      refine bodyPost_ret (res_wld2 rfl rfl rfl hRn.range) rfl ?_
      exact ⟨x, xs, xb, by rw [HXX.out], by rw [HXX.out]; exact hOn, hbn⟩
end Go.Proofs.Ytmamihkcikgmcaa
/- NewWorld, the reference's. -/
namespace Go.Proofs.Ytmamihkcikgmcaa
open Go.RowKit

structure NwJ (w : World) (u : Value) (X : Wd) (G : Nat) (wx : World) : Prop where
  ex : ∃ x xs xb, Hd wx (w.heap.size + 2) G x xs xb X
  bl : Below w.heap.size w wx
  lv : wx.cell? ⟨w.heap.size, 0, none⟩ = some u
  rs : WBlk wx (w.heap.size + 1) nilV 0 0 nilV nilV
/-- how many bodies the reference makes -/
def nwN (n : Int) : Nat := if n ≤ 0 then 0 else if n ≤ 4 then n.toNat else 5
theorem nwN_in {n : Int} (h : 1 ≤ n ∧ n ≤ 4) : nwN n = n.toNat := by unfold nwN; rw [if_neg (by omega), if_pos (by omega)]
theorem nwN_5 (n : Int) : nwN n ≤ 5 := by unfold nwN; split; omega; split <;> omega
theorem nwN_lt {n : Int} {k : Nat} (h : k < nwN n) : (k : Int) < n ∧ (k : Int) ≤ 4 := by unfold nwN at h; split at h; omega; split at h <;> omega
theorem nwN_end {n : Int} {k : Nat} (h : k = nwN n) : ¬ (k : Int) < n ∨ ((k : Int) < n ∧ ¬ (k : Int) ≤ 4) := by unfold nwN at h; split at h; omega; split at h <;> omega
theorem newT_ok {l : List ByteArray} {n s : Int} (h : okW (newW l (nwN n) s) = true) : newT l n s = (newW l (nwN n) s, true) := by
  by_cases hc : lvT l = true ∧ (1 ≤ n ∧ n ≤ 4) ∧ (0 ≤ s ∧ s ≤ 65535)
  · rw [newT_yes hc.1 hc.2.1 hc.2.2, nwN_in hc.2.1]
  · have hb : okW (newW l (nwN n) s) = false := newW_bad (by
      cases e : lvT l with
      | false => exact .inl rfl
      | true =>
        right
        by_cases h2 : 1 ≤ n ∧ n ≤ 4
        · right; right
          by_cases h3 : s < 0
          · exact .inl h3
          · right; exact Classical.byContradiction fun h4 => hc ⟨e, h2, by omega, by omega⟩
        · unfold nwN
          split
          · exact .inl rfl
          · split
            · omega
            · right; left; omega)
    rw [h] at hb; cases hb
theorem newT_ko {l : List ByteArray} {n s : Int} (h : okW (newW l (nwN n) s) = false) : newT l n s = (zW, false) := by
  by_cases hc : lvT l = true ∧ (1 ≤ n ∧ n ≤ 4) ∧ (0 ≤ s ∧ s ≤ 65535)
  · have := ok_okW (newW_ok (rows := l) (n := n.toNat) (seed := s) hc.1 (by omega) (by omega) hc.2.2.1 hc.2.2.2)
    rw [nwN_in hc.2.1, this] at h; cases h
  · exact if_neg hc
theorem new_small {l : List ByteArray} {m : Nat} {s : Int} (hm : l.length ≤ 1048576) (hz : ∀ s ∈ l, s.size ≤ 1048576) (h : m ≤ 5) : WSmall (newW l m s) := ⟨hm, hz, by simp [newW]; omega, by simp [newW]; omega⟩
set_option maxRecDepth 100000 in
set_option maxHeartbeats 8000000 in
theorem newworld_spec {u : Value} {l : List ByteArray} (n s : Int) (w : World) (h : At w 1 u l.length (l.map Value.string)) (hm : l.length ≤ 1048576) (hz : ∀ s ∈ l, s.size ≤ 1048576) :
    Calls Try.prog 25 #[.agg #[u], .int .i64 n, .int .i64 s] w fun e w' => ∃ x xs xb, e = .returned (.tuple #[.agg #[x, .int .i64 (newT l n s).1.tick, .int .i64 (newT l n s).1.seed, xs, xb], .bool (newT l n s).2]) ∧ WOwn w' w.heap.size x xs xb (newT l n s).1 ∧ Below w.heap.size w w' := by
  have HC : ∀ wx, Below w.heap.size w wx → Calls Try.prog 69 #[.agg #[u]] wx fun e w' => ∃ x, e = .returned (.agg #[x]) ∧ Own w' wx.heap.size 1 x l.length (l.map Value.string) ∧ Below wx.heap.size wx w' := fun wx hx => copylev_spec wx (h.below hx) hm
  have HF : ∀ (k : Nat) wx, Below w.heap.size w wx → Calls Try.prog 70 #[.agg #[u], .int .i64 (k : Int)] wx fun e w' => e = .returned (freshB l k).val ∧ Below wx.heap.size wx w' := fun k wx hx => fresh_spec k wx (h.below hx) hm hz
  have HYES := Lib.hid (newT_ok (l := l) (n := n) (s := s))
  have HNO := Lib.hid (newT_ko (l := l) (n := n) (s := s))
  have HSM := Lib.hid (new_small (l := l) (m := nwN n) (s := s) hm hz (nwN_5 n))
  have HM5 := nwN_5 n
  have HLT := Lib.hid (fun k => nwN_lt (n := n) (k := k))
  have HEND := Lib.hid (fun k => nwN_end (n := n) (k := k))
  generalize nwN n = m at *
  go_enter Try.func25, Try.ntmps25
  go_upto_region 1 with (fail)
  generalize hw1 : (w.alloc _).alloc _ = w1
  have hb1 : Below w.heap.size w w1 := by rw [← hw1]; exact ((Below.refl _ _).alloc (Nat.le_refl _) _).alloc (by simp) _
  have hL1 : w1.cell? ⟨w.heap.size, 0, none⟩ = some u := by rw [← hw1]; exact cell_alloc_lt (World.cell?_alloc_new w _ _ 0) _ (by simp)
  have hR1 : WBlk w1 (w.heap.size + 1) nilV 0 0 nilV nilV := by
    rw [← hw1]
    have := WBlk.new (w.alloc (.cells #[u] 27)) 36 nilV 0 0 nilV nilV
    rwa [show (w.alloc (.cells #[u] 27)).heap.size = w.heap.size + 1 by simp] at this
  clear hw1
  go_wp2_with fail
  refine (HC _ hb1).mono ?_
  rintro e wa ⟨x, rfl, hx, ha⟩
  have hb2 := hb1.trans (ha.mono hb1.size)
  have hR2 := hR1.below ha hR1.lt
  have hL2 : wa.cell? ⟨w.heap.size, 0, none⟩ = some u := (ha.cell (p := ⟨w.heap.size, 0, none⟩) (by have := hR1.lt; show w.heap.size < _; omega)).trans hL1
  have hz1 : w.heap.size + 2 ≤ w1.heap.size := by have := hR1.lt; omega
  clear hb1 hR1 hL1 ha HC
  have ox := slice_one hx.at_
  go_upto_region 2 with (with_reducible refine store_wld (op := ⟨none, _, _, _, _, _⟩) rfl _ _ rfl wa.heap.size rfl x 0 s (.slice none 0 0) (.slice none 0 0) rfl (zwthere _ _) ox rfl rfl ?_)
  have hq := newW5 hb2 hb2.size 36 x 0 s (.slice none 0 0) (.slice none 0 0)
  generalize hwn : World.setCells (World.alloc wa _) _ _ _ = wb
  rw [hwn] at hq
  obtain ⟨hG, hb3, hk⟩ := hq
  have hR3 := hR2.below hk hR2.lt
  have hx3 := hx.belowS hk
  have hL3 : wb.cell? ⟨w.heap.size, 0, none⟩ = some u := (hk.cell (p := ⟨w.heap.size, 0, none⟩) (by have := hR2.lt; show w.heap.size < _; omega)).trans hL2
  have hI : NwJ w u ⟨l, 0, s, List.replicate 0 0, (List.range 0).map (freshB l)⟩ wa.heap.size wb := ⟨⟨x, nilV, nilV, ⟨hG, ⟨hx3.mono hz1, Own.nil _ _ _, Own.nil _ _ _, Dj.symm (.inl rfl), Dj.symm (.inl rfl), .inl rfl⟩, (fun e => by have := (hx.ge _ e).2; omega), (fun e => by cases e), (fun e => by cases e), (by have := hR2.lt; omega)⟩⟩, hb3, hL3, hR3⟩
  clear hwn hG hb3 hk hR3 hx3 hL3 hb2 hR2 hL2 hx ox hz1
  generalize wa.heap.size = G at *
  go_wp2_with fail
  go_loopw [9] (fun i wr => ∃ k : Nat, k ≤ m ∧ i = .int .i64 k ∧ NwJ w u ⟨l, 0, s, List.replicate k 0, (List.range k).map (freshB l)⟩ G wr) (fun i _ => m - (intOf i).toNat)
  case atStart => exact ⟨0, Nat.zero_le _, rfl, hI⟩
  case round =>
    clear hI
    obtain ⟨k, hk, rfl, ⟨⟨x, xs, xb, hH⟩, hb, hL, hR⟩⟩ := hrel
    by_cases hlt : k < m
    · have HE := Lib.hid (range_fresh l k)
      have HR := Lib.hid (List.replicate_succ' (n := k) (a := (0 : Int)))
      have hbl : ((List.range k).map (freshB l)).length = k := by simp
      have hsl : (List.replicate k (0 : Int)).length = k := by simp
      have h1 := (HLT.out k hlt).1
      have h2 := (HLT.out k hlt).2
      generalize (List.range k).map (freshB l) = bs at *
      generalize List.replicate k (0 : Int) = sc at *
      generalize hFF : freshB l k = F at *
      have HFF := Lib.hid hFF
      have Hbl := Lib.hid hbl
      have Hsl := Lib.hid hsl
      clear hFF hbl hsl
      go_upto_region 5 with (fail)
      have q3 := hH.blk.c3
      apply wp_region_lit
      iterate 6 go_step
      refine wpList_buildInt1 (o := ⟨some 25, _, _, _, _, _⟩) rfl (.const (.int .i64 0)) rfl 0 rfl ?_
      have hq := own_lit1 wr 0
      have hk2 : Below wr.heap.size wr (wr.alloc (.cells #[.int .i64 0] 3)) := (Below.refl _ _).alloc (Nat.le_refl _) _
      generalize World.alloc wr _ = wl at hq hk2
      have hH2 := hH.below hk2
      have hb2 := hb.trans (hk2.mono hb.size)
      have hL2 : wl.cell? ⟨w.heap.size, 0, none⟩ = some u := (hk2.cell (p := ⟨w.heap.size, 0, none⟩) (by have := hR.lt; show w.heap.size < _; omega)).trans hL
      have hR2 := hR.below hk2 hR.lt
      clear hk2 hb hL hR hH q3
      refine app_ints (o := ⟨some 26, _, _, _, _, _⟩) wl rfl _ _ rfl (w.heap.size + 2) hH2.own.s rfl hq.at_ rfl (by simp only [Hsl.out]; omega) (by have := hR2.lt; omega) ?_
      intro v wa hv hg hvb
      have hH3 := hH2.appS hv hg hvb
      have g3 := (hH2.blk.grown hg hH2.n2).c3
      have p3 := (hH2.blk.grown hg hH2.n2).f3
      have ov := slice_one hv.at_
      clear hv hg hvb hq
      simp only [Act.put, List.setIfInBounds_toArray, List.set_cons_zero, List.set_cons_succ]
      iterate 3 go_step
      refine store_cell (o := ⟨none, _, _, _, _, _⟩) rfl _ _ _ rfl G 3 rfl v rfl ov size_ints g3 p3 ?_
      generalize World.setCell wa _ _ = wz at hH3
      obtain ⟨hH4, ht⟩ := hH3
      have hbT : Below (w.heap.size + 2) wl wz := hH2.tchBelow ht (fun i hi => hi.imp id fun e => .inr (.inl e))
      have hb4 := hb2.trans (hbT.mono (by omega))
      have hL4 : wz.cell? ⟨w.heap.size, 0, none⟩ = some u := (hbT.cell (p := ⟨w.heap.size, 0, none⟩) (by show w.heap.size < _; omega)).trans hL2
      have hR4 := hR2.below hbT (by omega)
      clear hH2 ht hbT hb2 hL2 hR2 g3 p3 ov
      repeat go_step
      go_upto_region 6 with (fail)
      have hHd := hH4.drew
      have hbD := hb4.drew
      have hRd := hR4.drew
      have hLd : wz.drew.cell? ⟨w.heap.size, 0, none⟩ = some u := hL4
      clear hH4 hb4 hR4 hL4
      have e4 := hHd.blk.c4
      have hKF := HF k wz.drew hbD
      rw [HFF.out] at hKF
      refine wp_region_sch (fun wx => wx.cell? ⟨G, 4, none⟩ = some xb ∧ wx.cell? ⟨w.heap.size, 0, none⟩ = some u) 6 9 (.st 0 (.st 1 (.st 2 (.st 3 (.ef 4 (.ef 5 (.fin [6, 7, 8]))))))) (by kernel_rfl) (by kernel_rfl) (fun _ _ d _ _ h => by cases d <;> exact h) ⟨e4, hLd⟩ ?_
      refine sch_still (o := ⟨some 28, _, _, _, _, _⟩) (v := .pointer (some ⟨G, 4, none⟩)) rfl rfl ?_ ?_
      · intro wx hSx
        go_simp
      simp only [Act.put, List.setIfInBounds_toArray, List.set_cons_zero, List.set_cons_succ]
      refine sch_still (o := ⟨some 29, _, _, _, _, _⟩) (v := xb) rfl rfl ?_ ?_
      · intro wx hSx
        obtain ⟨s1, s2⟩ := hSx; go_simp
      simp only [Act.put, List.setIfInBounds_toArray, List.set_cons_zero, List.set_cons_succ]
      refine sch_still (o := ⟨some 30, _, _, _, _, _⟩) (v := .agg #[u]) rfl rfl ?_ ?_
      · intro wx hSx
        obtain ⟨s1, s2⟩ := hSx; go_simp
      simp only [Act.put, List.setIfInBounds_toArray, List.set_cons_zero, List.set_cons_succ]
      refine sch_still (o := ⟨some 31, _, _, _, _, _⟩) (v := .int .i64 (k : Int)) rfl rfl ?_ ?_
      · intro wx hSx
        go_simp
      simp only [Act.put, List.setIfInBounds_toArray, List.set_cons_zero, List.set_cons_succ]
      generalize wz.drew = wq at *
      refine sch_ef (o := ⟨some 32, _, _, _, _, _⟩) rfl ?_
      refine wpList_callC rfl 70 _ _ rfl Try.func70 (by kernel_rfl) (by kernel_rfl) #[.agg #[u], .int .i64 (k : Int)] (by kernel_rfl) (hKF) ?_
      rintro e wf ⟨rfl, hk1⟩
      refine ⟨_, rfl, ?_⟩
      have gH := hHd.below hk1
      have gb := hbD.trans (hk1.mono hbD.size)
      have gL : wf.cell? ⟨w.heap.size, 0, none⟩ = some u := (hk1.cell (p := ⟨w.heap.size, 0, none⟩) (by have := hRd.lt; show w.heap.size < _; omega)).trans hLd
      have gR := hRd.below hk1 hRd.lt
      clear hHd hbD hLd hRd hk1 hKF e4
      refine sch_next ⟨gH.blk.c4, gL⟩ ?_
      simp only [Act.put, List.setIfInBounds_toArray, List.set_cons_zero, List.set_cons_succ]
      refine sch_ef (o := ⟨some 33, _, _, _, _, _⟩) rfl ?_
      refine lit_bod (o := ⟨some 33, _, _, _, _, _⟩) rfl _ rfl F rfl ?_
      have hq := own_lit wf F
      have hk2 : Below wf.heap.size wf (wf.alloc (.cells F.cells.toArray 42)) := (Below.refl _ _).alloc (Nat.le_refl _) _
      generalize World.alloc wf _ = wl2 at hq hk2
      have hH2 := gH.below hk2
      have hb2 := gb.trans (hk2.mono gb.size)
      have hL2 : wl2.cell? ⟨w.heap.size, 0, none⟩ = some u := (hk2.cell (p := ⟨w.heap.size, 0, none⟩) (by have := gR.lt; show w.heap.size < _; omega)).trans gL
      have hR2 := gR.below hk2 gR.lt
      clear gH gb gL gR hk2
      refine sch_next ⟨hH2.blk.c4, hL2⟩ ?_
      simp only [Act.put, List.setIfInBounds_toArray, List.set_cons_zero, List.set_cons_succ]
      refine sch_end (.cons (o := ⟨some 34, _, _, _, _, _⟩) rfl (.cons (o := ⟨some 35, _, _, _, _, _⟩) rfl (.cons (o := ⟨none, _, _, _, _, _⟩) rfl .nil))) ?_
      refine app_bods (o := ⟨some 34, _, _, _, _, _⟩) wl2 rfl _ _ rfl (w.heap.size + 2) hH2.own.b rfl hq.at_ rfl (by simp only [Hbl.out]; omega) (by have := hR2.lt; omega) ?_
      intro v2 wc hv hg hvb
      have hH3 := hH2.appB hv hg hvb
      have g4 := (hH2.blk.grown hg hH2.n3).c4
      have p4 := (hH2.blk.grown hg hH2.n3).f4
      have ov := slice_one hv.at_
      clear hv hg hvb hq
      simp only [Act.put, List.setIfInBounds_toArray, List.set_cons_zero, List.set_cons_succ]
      iterate 3 go_step
      refine store_cell (o := ⟨none, _, _, _, _, _⟩) rfl _ _ _ rfl G 4 rfl v2 rfl ov size_bods g4 p4 ?_
      generalize World.setCell wc _ _ = wy at hH3
      obtain ⟨hH4, ht⟩ := hH3
      have hbT : Below (w.heap.size + 2) wl2 wy := hH2.tchBelow ht (fun i hi => hi.imp id fun e => .inr (.inr e))
      have hb4 := hb2.trans (hbT.mono (by omega))
      have hL4 : wy.cell? ⟨w.heap.size, 0, none⟩ = some u := (hbT.cell (p := ⟨w.heap.size, 0, none⟩) (by show w.heap.size < _; omega)).trans hL2
      have hR4 := hR2.below hbT (by omega)
      clear hH2 ht hbT hb2 hL2 hR2 g4 p4 ov
      go_wp2_with fail
      go_roundw
      case rel =>
        refine ⟨k + 1, by omega, by go_num, ⟨⟨x, v, v2, ?_⟩, hb4, hL4, hR4⟩⟩
        rw [HE.out, HR.out]
        exact hH4
      case measure => simp [intOf]; omega
    · obtain rfl : k = m := by omega
      have HNW : Hid ((⟨l, 0, s, List.replicate k 0, (List.range k).map (freshB l)⟩ : Wd) = newW l k s) := Lib.hid rfl
      rw [HNW.out] at hH
      have hend := HEND.out k rfl
      generalize newW l k s = X at *
      have hsm := HSM.out
      have hW := fun wx (hx : Below wr.heap.size wr wx) => worldok_spec wx (hH.own.at_.below hx) hsm
      clear HNW HF hz h HLT HEND HSM
      rcases hend with hend | ⟨hend, hend2⟩
      all_goals
        go_upto_region 7 with (fail)
        apply wp_region_lit
        refine load_wld (op := ⟨some 36, _, _, _, _, _⟩) rfl _ rfl G rfl x X.tick X.seed xs xb hH.blk.range ?_
        refine wpList_callC rfl 71 _ _ rfl Try.func71 (by kernel_rfl) (by kernel_rfl) #[.agg #[x, .int .i64 X.tick, .int .i64 X.seed, xs, xb]] (by kernel_rfl) (hW _ (Below.refl _ _)) ?_
        rintro e wf ⟨rfl, hk1⟩
        refine ⟨_, rfl, ?_⟩
        have hH3 := hH.below hk1
        have hb3 := hb.trans (hk1.mono hb.size)
        have hR3 := hR.below hk1 hR.lt
        clear hH hb hR hk1 hW hL
        simp only [Act.put, List.setIfInBounds_toArray, List.set_cons_zero, List.set_cons_succ]
        cases hok : okW X with
        | false =>
          have HN := Lib.hid (HNO.out hok)
          clear hok
          go_upto_region 8 with (fail)
          have hRs := (hR3.setAll (u' := nilV) (us' := nilV) (ub' := nilV) (tk' := 0) (sd' := 0)).range
          have hbs := setCells_below (o := 0) (vs := wcells nilV 0 0 nilV nilV) hb3 (show w.heap.size ≤ w.heap.size + 1 by omega)
          have hRt := hR3.there
          apply wp_region_lit
          iterate 3 go_step
          refine store_wld (op := ⟨none, _, _, _, _, _⟩) rfl _ _ rfl (w.heap.size + 1) rfl nilV 0 0 nilV nilV rfl hRt rfl rfl rfl ?_
          generalize hwn : World.setCells _ _ _ _ = wn
          rw [hwn] at hRs hbs
          clear hwn
          repeat go_step
          refine bodyPost_ret (res_wld2 rfl rfl rfl hRs) rfl ?_
          exact ⟨nilV, nilV, nilV, by rw [HN.out]; rfl, by rw [HN.out]; exact wown_nil _ _, hbs⟩
        | true =>
          have HN := Lib.hid (HYES.out hok)
          clear hok
          go_upto_region 9 with (fail)
          have hO3 := hH3.own
          have ox := slice_one hO3.at_.r
          have oxs := slice_one hO3.at_.s
          have oxb := slice_one hO3.at_.b
          apply wp_region_lit
          refine load_wld (op := ⟨some 40, _, _, _, _, _⟩) rfl _ rfl G rfl x X.tick X.seed xs xb hH3.blk.range ?_
          refine store_wld (op := ⟨none, _, _, _, _, _⟩) rfl _ _ rfl (w.heap.size + 1) rfl x X.tick X.seed xs xb rfl hR3.there ox oxs oxb ?_
          have hq := And.intro (hR3.setAll (u' := x) (us' := xs) (ub' := xb) (tk' := X.tick) (sd' := X.seed)) (setCells_grown wf (w.heap.size + 1) 0 (wcells x X.tick X.seed xs xb))
          generalize World.setCells wf _ _ _ = wn at hq
          obtain ⟨hRn, hgr⟩ := hq
          have hOn : WOwn wn w.heap.size x xs xb X := (hO3.tch (S := fun i => i = w.heap.size + 1) (Tch.of_grown1 hgr rfl) (fun i hi e => by have := (hO3.ge i hi).1; omega)).mono (by omega)
          have hbn : Below w.heap.size w wn := hb3.grown hgr (by have := hR3.lt; omega) (fun k h => by simp only [Option.some.injEq] at h; omega)
          clear hgr hO3 hb3 hR3 hH3
          repeat go_step
          refine bodyPost_ret (res_wld2 rfl rfl rfl hRn.range) rfl ?_
          exact ⟨x, xs, xb, by rw [HN.out], by rw [HN.out]; exact hOn, hbn⟩
end Go.Proofs.Ytmamihkcikgmcaa
