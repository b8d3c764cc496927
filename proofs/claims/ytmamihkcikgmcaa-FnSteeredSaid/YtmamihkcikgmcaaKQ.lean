/- Texts Sts in one. -/
import Derived.Test.YtmamihkcikgmcaaKH
import Derived.Test.YtmamihkcikgmcaaKK
import Derived.Test.YtmamihkcikgmcaaKO
import Derived.Test.YtmamihkcikgmcaaKP
/- StepWorld, the reference's. -/
namespace Go.Proofs.Ytmamihkcikgmcaa
open Go.RowKit
set_option maxRecDepth 100000 in
set_option maxHeartbeats 16000000 in
theorem stepworld_spec {u us ub rv : Value} {X : Wd} {row : List Int} (w : World) (h : WAt w u us ub X) (hm : WSmall X) (hrow : At w 1 rv row.length (ints row)) (hrl : row.length ≤ 1048576) :
    Calls Try.prog 44 #[.agg #[u, .int .i64 X.tick, .int .i64 X.seed, us, ub], rv] w fun e w' => ∃ x xs xb, e = .returned (.agg #[x, .int .i64 (stepT X row).tick, .int .i64 (stepT X row).seed, xs, xb]) ∧ WOwn w' w.heap.size x xs xb (stepT X row) ∧ Below w.heap.size w w' := by
  have HCW : ∀ wx, Below w.heap.size w wx → Calls Try.prog 65 #[.agg #[u, .int .i64 X.tick, .int .i64 X.seed, us, ub]] wx fun e w' => ∃ x xs xb, e = .returned (.agg #[x, .int .i64 X.tick, .int .i64 X.seed, xs, xb]) ∧ WOwn w' wx.heap.size x xs xb X ∧ Below wx.heap.size wx w' := fun wx hx => copyw_spec wx (h.below hx) hm
  have HOW : ∀ wx, Below w.heap.size w wx → Calls Try.prog 71 #[.agg #[u, .int .i64 X.tick, .int .i64 X.seed, us, ub]] wx fun e w' => e = .returned (.bool (okW X)) ∧ Below wx.heap.size wx w' := fun wx hx => worldok_spec wx (h.below hx) hm
  have HRO : ∀ wx, Below w.heap.size w wx → Calls Try.prog 101 #[rv, .int .i64 (X.scores.length : Int)] wx fun e w' => e = .returned (.bool (rowOk row X.scores.length)) ∧ wx = w' := fun wx hx => rowok_spec X.scores.length wx (hrow.below hx) hrl hm.s
  have HNO : Hid (¬ (okW X = true ∧ X.tick ≠ 100000 ∧ rowOk row X.scores.length = true) → stepT X row = X) := Lib.hid (fun hh => if_neg hh)
  have HYES : Hid ((okW X = true ∧ X.tick ≠ 100000 ∧ rowOk row X.scores.length = true) → stepT X row = stepU X row) := Lib.hid (fun hh => if_pos hh)
  obtain ⟨so, scap, hus, _⟩ := h.s.cell
  subst hus
  go_enter Try.func44, Try.ntmps44
  go_upto_region 1 with (fail)
  generalize hw1 : (w.alloc _).alloc _ = w1
  have hb1 : Below w.heap.size w w1 := by rw [← hw1]; exact ((Below.refl _ _).alloc (Nat.le_refl _) _).alloc (by simp) _
  have hA1 : WBlk w1 w.heap.size u X.tick X.seed (.slice so X.scores.length scap) ub := by rw [← hw1]; exact (WBlk.new w _ u X.tick X.seed _ ub).alloc _
  have hR1 : WBlk w1 (w.heap.size + 1) nilV 0 0 nilV nilV := by
    rw [← hw1]
    have := WBlk.new (w.alloc (.cells #[u, .int .i64 X.tick, .int .i64 X.seed, .slice so X.scores.length scap, ub] 36)) 36 nilV 0 0 nilV nilV
    rwa [show (w.alloc (.cells #[u, .int .i64 X.tick, .int .i64 X.seed, .slice so X.scores.length scap, ub] 36)).heap.size = w.heap.size + 1 by simp] at this
  clear hw1
  apply wp_region_lit
  refine load_wld (op := ⟨some 6, _, _, _, _, _⟩) rfl _ rfl w.heap.size rfl u X.tick X.seed (.slice so X.scores.length scap) ub hA1.range ?_
  refine wpList_callC rfl 65 _ _ rfl Try.func65 (by kernel_rfl) (by kernel_rfl) #[.agg #[u, .int .i64 X.tick, .int .i64 X.seed, .slice so X.scores.length scap, ub]] (by kernel_rfl) (HCW _ hb1) ?_
  rintro e w2 ⟨x, xs, xb, rfl, hO, hk⟩
  refine ⟨_, rfl, ?_⟩
  have hb2 := hb1.trans (hk.mono hb1.size)
  have hA2 := hA1.below hk hA1.lt
  have hR2 := hR1.below hk hR1.lt
  have hO2 := hO.mono (B' := w.heap.size + 2) (by have := hR1.lt; omega)
  clear hk hb1 hA1 hR1 hO HCW
  have ox := slice_one hO2.at_.r
  have oxs := slice_one hO2.at_.s
  have oxb := slice_one hO2.at_.b
  simp only [Act.put, List.setIfInBounds_toArray, List.set_cons_zero, List.set_cons_succ]
  refine alloc_wld rfl rfl ?_
  refine store_wld (op := ⟨none, _, _, _, _, _⟩) rfl _ _ rfl w2.heap.size rfl x X.tick X.seed xs xb rfl (zwthere _ _) ox oxs oxb ?_
  have hq := newW5 hb2 hb2.size 36 x X.tick X.seed xs xb
  change WBlk (World.setCells (World.alloc w2 (.cells #[nilV, .int .i64 0, .int .i64 0, nilV, nilV] _)) _ _ _) _ _ _ _ _ _ ∧ _ ∧ _ at hq
  generalize hwn : World.setCells (World.alloc w2 _) _ _ _ = w3
  have hq' : WBlk w3 w2.heap.size x X.tick X.seed xs xb ∧ Below w.heap.size w w3 ∧ Below w2.heap.size w2 w3 := by rw [← hwn]; exact hq
  clear hq hwn
  obtain ⟨hG, hb3, hk⟩ := hq'
  have hA3 := hA2.below hk hA2.lt
  have hR3 := hR2.below hk hR2.lt
  have hH3 : Hd w3 (w.heap.size + 2) w2.heap.size x xs xb X := ⟨hG, hO2.below hk, (fun e => by have := (hO2.r.ge _ e).2; omega), (fun e => by have := (hO2.s.ge _ e).2; omega), (fun e => by have := (hO2.b.ge _ e).2; omega), by have := hR2.lt; omega⟩
  clear hG hk hA2 hR2 hO2 hb2 ox oxs oxb
  generalize w2.heap.size = G at *
  go_upto_region 2 with (fail)
  obtain ⟨_, c0, c1, c2, c3, c4, _⟩ := id hA3
  apply wp_region_lit
  refine load_wld (op := ⟨some 8, _, _, _, _, _⟩) rfl _ rfl w.heap.size rfl u X.tick X.seed (.slice so X.scores.length scap) ub hA3.range ?_
  refine wpList_callC rfl 71 _ _ rfl Try.func71 (by kernel_rfl) (by kernel_rfl) #[.agg #[u, .int .i64 X.tick, .int .i64 X.seed, .slice so X.scores.length scap, ub]] (by kernel_rfl) (HOW _ hb3) ?_
  rintro e w4 ⟨rfl, hk⟩
  refine ⟨_, rfl, ?_⟩
  have hb4 := hb3.trans (hk.mono hb3.size)
  have hA4 := hA3.below hk hA3.lt
  have hR4 := hR3.below hk hR3.lt
  have hH4 := hH3.below hk
  clear hk hb3 hA3 hR3 hH3 HOW c0 c1 c2 c3 c4
  obtain ⟨_, c0, c1, c2, c3, c4, _⟩ := id hA4
  simp only [Act.put, List.setIfInBounds_toArray, List.set_cons_zero, List.set_cons_succ]
  cases hok : okW X with
  | false =>
    have HN := Lib.hid (HNO.out (fun e => by rw [hok] at e; cases e.1))
    clear hok HRO
    go_upto_region 3 with (fail)
    have hOz := hH4.own
    have oz := slice_one hOz.at_.r
    have ozs := slice_one hOz.at_.s
    have ozb := slice_one hOz.at_.b
    apply wp_region_lit
    refine load_wld (op := ⟨some 24, _, _, _, _, _⟩) rfl _ rfl G rfl _ _ _ _ _ hH4.blk.range ?_
    refine store_wld (op := ⟨none, _, _, _, _, _⟩) rfl _ _ rfl (w.heap.size + 1) rfl _ _ _ _ _ rfl hR4.there oz ozs ozb ?_
    have hq := And.intro (hR4.setAll (u' := x) (us' := xs) (ub' := xb) (tk' := (X : Wd).tick) (sd' := (X : Wd).seed)) (setCells_grown w4 (w.heap.size + 1) 0 (wcells x (X : Wd).tick (X : Wd).seed xs xb))
    generalize World.setCells w4 _ _ _ = wn at hq
    obtain ⟨hRn, hgr⟩ := hq
    have hOn := (hOz.tch (S := fun i => i = w.heap.size + 1) (Tch.of_grown1 hgr rfl) (fun i hi e => by have := (hOz.ge i hi).1; omega)).mono (B' := w.heap.size) (by omega)
    have hbn : Below w.heap.size w wn := hb4.grown hgr (by have := hR4.lt; omega) (fun k h => by simp only [Option.some.injEq] at h; omega)
    repeat go_step
    refine bodyPost_ret (res_wld1 rfl rfl hRn.range) rfl ?_
    exact ⟨x, _, _, by rw [HN.out], by rw [HN.out]; exact hOn, hbn⟩
  | true =>
  by_cases htk : X.tick = 100000
  · have HN := Lib.hid (HNO.out (fun e => e.2.1 htk))
    have x1 : (X.tick == 100000) = true := beq_iff_eq.2 htk
    clear hok HRO htk
    go_upto_region 3 with (fail)
    have hOz := hH4.own
    have oz := slice_one hOz.at_.r
    have ozs := slice_one hOz.at_.s
    have ozb := slice_one hOz.at_.b
    apply wp_region_lit
    refine load_wld (op := ⟨some 24, _, _, _, _, _⟩) rfl _ rfl G rfl _ _ _ _ _ hH4.blk.range ?_
    refine store_wld (op := ⟨none, _, _, _, _, _⟩) rfl _ _ rfl (w.heap.size + 1) rfl _ _ _ _ _ rfl hR4.there oz ozs ozb ?_
    have hq := And.intro (hR4.setAll (u' := x) (us' := xs) (ub' := xb) (tk' := (X : Wd).tick) (sd' := (X : Wd).seed)) (setCells_grown w4 (w.heap.size + 1) 0 (wcells x (X : Wd).tick (X : Wd).seed xs xb))
    generalize World.setCells w4 _ _ _ = wn at hq
    obtain ⟨hRn, hgr⟩ := hq
    have hOn := (hOz.tch (S := fun i => i = w.heap.size + 1) (Tch.of_grown1 hgr rfl) (fun i hi e => by have := (hOz.ge i hi).1; omega)).mono (B' := w.heap.size) (by omega)
    have hbn : Below w.heap.size w wn := hb4.grown hgr (by have := hR4.lt; omega) (fun k h => by simp only [Option.some.injEq] at h; omega)
    repeat go_step
    refine bodyPost_ret (res_wld1 rfl rfl hRn.range) rfl ?_
    exact ⟨x, _, _, by rw [HN.out], by rw [HN.out]; exact hOn, hbn⟩
  have x1 : (X.tick == 100000) = false := beq_eq_false_iff_ne.2 htk
  cases hro : rowOk row X.scores.length with
  | false =>
    have HN := Lib.hid (HNO.out (fun e => by rw [hro] at e; cases e.2.2))
    rw [hro] at HRO
    clear hok htk hro
    go_wp2_with fail
    refine (HRO _ hb4).mono ?_
    rintro e wx ⟨rfl, rfl⟩
    go_upto_region 3 with (fail)
    have hOz := hH4.own
    have oz := slice_one hOz.at_.r
    have ozs := slice_one hOz.at_.s
    have ozb := slice_one hOz.at_.b
    apply wp_region_lit
    refine load_wld (op := ⟨some 24, _, _, _, _, _⟩) rfl _ rfl G rfl _ _ _ _ _ hH4.blk.range ?_
    refine store_wld (op := ⟨none, _, _, _, _, _⟩) rfl _ _ rfl (w.heap.size + 1) rfl _ _ _ _ _ rfl hR4.there oz ozs ozb ?_
    have hq := And.intro (hR4.setAll (u' := x) (us' := xs) (ub' := xb) (tk' := (X : Wd).tick) (sd' := (X : Wd).seed)) (setCells_grown w4 (w.heap.size + 1) 0 (wcells x (X : Wd).tick (X : Wd).seed xs xb))
    generalize World.setCells w4 _ _ _ = wn at hq
    obtain ⟨hRn, hgr⟩ := hq
    have hOn := (hOz.tch (S := fun i => i = w.heap.size + 1) (Tch.of_grown1 hgr rfl) (fun i hi e => by have := (hOz.ge i hi).1; omega)).mono (B' := w.heap.size) (by omega)
    have hbn : Below w.heap.size w wn := hb4.grown hgr (by have := hR4.lt; omega) (fun k h => by simp only [Option.some.injEq] at h; omega)
    repeat go_step
    refine bodyPost_ret (res_wld1 rfl rfl hRn.range) rfl ?_
    exact ⟨x, _, _, by rw [HN.out], by rw [HN.out]; exact hOn, hbn⟩
  | true =>
  have HN := Lib.hid (HYES.out ⟨hok, htk, hro⟩)
  have hX := okW_ok hok
  obtain ⟨hr1, hr2⟩ := rowOk_iff hro
  rw [hro] at HRO
  clear hok htk hro HNO HYES
  go_wp2_with fail
  refine (HRO _ hb4).mono ?_
  rintro e wx ⟨rfl, rfl⟩
  clear c0 c1 c2 c3 c4 x1 hA4 HRO
  have hST := step_spec w4 hH4 hX (fun wx hx => hrow.below (hb4.trans (hx.mono (by omega)))) hr1 hr2
  clear hX hr1 hr2 hrow hrl hm h
  go_upto_region 4 with (fail)
  apply wp_region_lit
  iterate 3 go_step
  refine wpList_callC rfl 102 _ _ rfl Try.func102 (by kernel_rfl) (by kernel_rfl) #[.pointer (some ⟨G, 0, none⟩), rv] (by kernel_rfl) hST ?_
  rintro e w5 ⟨rfl, ⟨xb5, hH5⟩, hk⟩
  refine ⟨_, rfl, ?_⟩
  have hb5 := hb4.trans (hk.mono (by omega))
  have hR5 := hR4.below hk (by omega)
  clear hb4 hR4 hH4 hk hST
  simp only [Act.put, List.setIfInBounds_toArray, List.set_cons_zero, List.set_cons_succ]
  go_upto_region 5 with (fail)
  have hOz := hH5.own
  have oz := slice_one hOz.at_.r
  have ozs := slice_one hOz.at_.s
  have ozb := slice_one hOz.at_.b
  apply wp_region_lit
  refine load_wld (op := ⟨some 27, _, _, _, _, _⟩) rfl _ rfl G rfl _ _ _ _ _ hH5.blk.range ?_
  refine store_wld (op := ⟨none, _, _, _, _, _⟩) rfl _ _ rfl (w.heap.size + 1) rfl _ _ _ _ _ rfl hR5.there oz ozs ozb ?_
  have hq := And.intro (hR5.setAll (u' := x) (us' := xs) (ub' := xb5) (tk' := (stepU X row).tick) (sd' := (stepU X row).seed)) (setCells_grown w5 (w.heap.size + 1) 0 (wcells x (stepU X row).tick (stepU X row).seed xs xb5))
  generalize World.setCells w5 _ _ _ = wn at hq
  obtain ⟨hRn, hgr⟩ := hq
  have hOn := (hOz.tch (S := fun i => i = w.heap.size + 1) (Tch.of_grown1 hgr rfl) (fun i hi e => by have := (hOz.ge i hi).1; omega)).mono (B' := w.heap.size) (by omega)
  have hbn : Below w.heap.size w wn := hb5.grown hgr (by have := hR5.lt; omega) (fun k h => by simp only [Option.some.injEq] at h; omega)
  repeat go_step
  refine bodyPost_ret (res_wld1 rfl rfl hRn.range) rfl ?_
  exact ⟨x, _, _, by rw [HN.out], by rw [HN.out]; exact hOn, hbn⟩
end Go.Proofs.Ytmamihkcikgmcaa
