/- Texts Rwa in one. -/
import Derived.Test.YtmamihkcikgmcaaKH
import Derived.Test.YtmamihkcikgmcaaKO1
import Derived.Test.YtmamihkcikgmcaaKR
/- RunWorld, the program's. -/
namespace Go.Proofs.Ytmamihkcikgmcaa
open Go.RowKit

theorem step_small {X : Wd} {row : List Int} (hm : WSmall X) : WSmall (stepT X row) := by
  by_cases h : okW X = true
  · exact wok_small (stepT_ok (okW_ok h)).1
  · rw [show stepT X row = X from if_neg fun e => h e.1]
    exact hm
theorem step_bwf {X : Wd} {row : List Int} (hm : ∀ b ∈ X.bodies, BWf b) : ∀ b ∈ (stepT X row).bodies, BWf b := by
  by_cases h : okW X = true
  · exact wok_bwf (stepT_ok (okW_ok h)).1
  · rw [show stepT X row = X from if_neg fun e => h e.1]
    exact hm
theorem run_small : ∀ (rows : List (List Int)) {X : Wd}, WSmall X → WSmall (runT X rows)
  | [], _, h => h
  | r :: rows, _, h => run_small rows (step_small (row := r) h)
theorem run_take (X : Wd) {rows : List (List Int)} {k : Nat} (h : k < rows.length) : runT X (rows.take (k + 1)) = stepT (runT X (rows.take k)) (lAt rows k) := by
  unfold runT
  rw [List.take_add_one, List.getElem?_eq_getElem h, List.foldl_append, lAt_eq h]
  rfl
section
variable {ops : Array Oper} {rest : List Oper} {o : Oper} {a : Act} {w : World} {Q : Exit → Act → World → Prop}
/-- a world's load, as one of the reads of a drawn region -/
theorem still_wldL (x : Operand) (ho : o.op = .load 36 x) (g : Nat) (hx : a.eval x = .pointer (some ⟨g, 0, none⟩)) (u : Value) (tk sd : Int) (us ub : Value) (hc : w.rangeAt g 0 (wcells u tk sd us ub)) : (execOp a.eval o).run Try.prog w = .ok (.value (.agg #[u, .int .i64 tk, .int .i64 sd, us, ub])) w := by
  unfold execOp
  simp only [ho, hx, Instr.loadAt, Instr.sureAddr, Sem.run_bind, Sem.run_pure, Result.andThen_ok, run_loadVar_mid w g 0 _ (wcells u tk sd us ub) _ hc Try.underlying36 rfl (by rw [size_wld]; rfl)]
  rfl
theorem Hd.putW {B G : Nat} {x xs xb y ys yb : Value} {X Y : Wd} (h : Hd w B G x xs xb X) (hO : WOwn w B y ys yb Y) (hn : ∀ i, blkW y ys yb i → i ≠ G) :
    Hd (w.setCells G 0 (wcells y Y.tick Y.seed ys yb)) B G y ys yb Y ∧ w.grownBy (w.setCells G 0 (wcells y Y.tick Y.seed ys yb)) (some G) := by
  have hg := setCells_grown w G 0 (wcells y Y.tick Y.seed ys yb)
  exact ⟨⟨h.blk.setAll, hO.tch (S := fun i => i = G) (Tch.of_grown1 hg rfl) hn, fun e => hn _ (.inl e) rfl, fun e => hn _ (.inr (.inl e)) rfl, fun e => hn _ (.inr (.inr e)) rfl, h.ge⟩, hg⟩
end
/-- between two rounds -/
structure RunI (w wr : World) (G : Nat) (Z : Wd) : Prop where
  hd : ∃ y ys yb, Hd wr (w.heap.size + 2) G y ys yb Z
  rs : WBlk wr (w.heap.size + 1) nilV 0 0 nilV nilV
  bl : Below w.heap.size w wr
  sm : WSmall Z
  wf : ∀ b ∈ Z.bodies, BWf b
set_option maxRecDepth 100000 in
set_option maxHeartbeats 16000000 in
theorem runworld_impl {u us ub rv : Value} {vs : List Value} {X : Wd} {rows : List (List Int)} (w : World) (h : WAt w u us ub X) (hm : WSmall X) (hw : ∀ b ∈ X.bodies, BWf b) (hrow : AtSS w rv vs rows) (hr : SSmall rows) :
    Calls Try.prog 38 #[.agg #[u, .int .i64 X.tick, .int .i64 X.seed, us, ub], rv] w fun e w' => ∃ x xs xb, e = .returned (.agg #[x, .int .i64 (runT X rows).tick, .int .i64 (runT X rows).seed, xs, xb]) ∧ WOwn w' w.heap.size x xs xb (runT X rows) ∧ Below w.heap.size w w' := by
  have HCW : ∀ wx, Below w.heap.size w wx → Calls Try.prog 80 #[.agg #[u, .int .i64 X.tick, .int .i64 X.seed, us, ub]] wx fun e w' => ∃ x xs xb, e = .returned (.agg #[x, .int .i64 X.tick, .int .i64 X.seed, xs, xb]) ∧ WOwn w' wx.heap.size x xs xb X ∧ Below wx.heap.size wx w' := fun wx hx => copyw_impl wx (h.below hx) hm
  have HT := Lib.hid (fun k hk => run_take X (rows := rows) (k := k) hk)
  have HE := Lib.hid (show runT X (rows.take rows.length) = runT X rows by rw [List.take_length])
  have H0 := Lib.hid (show runT X (rows.take 0) = X from rfl)
  have hrow0 := hrow
  obtain ⟨ro, rcap, rfl, hrc⟩ := hrow.o.cells1
  have hrn := hrow.n
  have hrl := hr.n
  rw [hrn] at hrc ⊢
  clear hrow
  go_enter Try.func38, Try.ntmps38
  go_upto_region 1 with (fail)
  generalize hw1 : (w.alloc _).alloc _ = w1
  have hb1 : Below w.heap.size w w1 := by rw [← hw1]; exact ((Below.refl _ _).alloc (Nat.le_refl _) _).alloc (by simp) _
  have hA1 : WBlk w1 w.heap.size u X.tick X.seed us ub := by rw [← hw1]; exact (WBlk.new w _ u X.tick X.seed us ub).alloc _
  have hR1 : WBlk w1 (w.heap.size + 1) nilV 0 0 nilV nilV := by
    rw [← hw1]
    have := WBlk.new (w.alloc (.cells #[u, .int .i64 X.tick, .int .i64 X.seed, us, ub] 36)) 36 nilV 0 0 nilV nilV
    rwa [show (w.alloc (.cells #[u, .int .i64 X.tick, .int .i64 X.seed, us, ub] 36)).heap.size = w.heap.size + 1 by simp] at this
  clear hw1
  apply wp_region_lit
  refine load_wld (op := ⟨some 8, _, _, _, _, _⟩) rfl _ rfl w.heap.size rfl u X.tick X.seed us ub hA1.range ?_
  refine wpList_callC rfl 80 _ _ rfl Try.func80 (by kernel_rfl) (by kernel_rfl) #[.agg #[u, .int .i64 X.tick, .int .i64 X.seed, us, ub]] (by kernel_rfl) (HCW _ hb1) ?_
  rintro e w2 ⟨x, xs, xb, rfl, hO, hk⟩
  refine ⟨_, rfl, ?_⟩
  have hb2 := hb1.trans (hk.mono hb1.size)
  have hR2 := hR1.below hk hR1.lt
  have hO2 := hO.mono (B' := w.heap.size + 2) (by have := hR1.lt; omega)
  clear hk hb1 hA1 hR1 hO HCW
  have ox := slice_one hO2.at_.r
  have oxs := slice_one hO2.at_.s
  have oxb := slice_one hO2.at_.b
  simp only [Act.put, List.setIfInBounds_toArray, List.set_cons_zero, List.set_cons_succ]
  refine alloc_wld rfl rfl ?_
  refine store_wld (op := ⟨none, _, _, _, _, _⟩) rfl _ _ rfl w2.heap.size rfl x X.tick X.seed xs xb rfl (zwthere _ _) ox oxs oxb ?_
  have hq := newW5 hb2 hb2.size 36 x X.tick X.seed xs xb
  change WBlk (World.setCells (World.alloc w2 (.cells #[nilV, .int .i64 0, .int .i64 0, nilV, nilV] _)) _ _ _) _ _ _ _ _ _ ∧ _ ∧ _ at hq
  generalize hwn : World.setCells (World.alloc w2 _) _ _ _ = w3
  have hq' : WBlk w3 w2.heap.size x X.tick X.seed xs xb ∧ Below w.heap.size w w3 ∧ Below w2.heap.size w2 w3 := by rw [← hwn]; exact hq
  clear hq hwn
  obtain ⟨hG, hb3, hk⟩ := hq'
  have hR3 := hR2.below hk hR2.lt
  have hH3 : Hd w3 (w.heap.size + 2) w2.heap.size x xs xb X := ⟨hG, hO2.below hk, (fun e => by have := (hO2.r.ge _ e).2; omega), (fun e => by have := (hO2.s.ge _ e).2; omega), (fun e => by have := (hO2.b.ge _ e).2; omega), by have := hR2.lt; omega⟩
  clear hG hk hR2 hO2 hb2 ox oxs oxb
  generalize w2.heap.size = G at *
  have hI : RunI w w3 G (runT X (rows.take 0)) := ⟨⟨_, _, _, by rw [H0.out]; exact hH3⟩, hR3, hb3, by rw [H0.out]; exact hm, by rw [H0.out]; exact hw⟩
  clear hR3 hH3 hb3 hm hw H0 h
  go_wp2_with fail
  go_loopw [7, 12] (fun _ i wr => ∃ k : Nat, k ≤ rows.length ∧ i = .int .i64 k ∧ RunI w wr G (runT X (rows.take k))) (fun _ i _ => rows.length - (intOf i).toNat)
  case atStart => exact ⟨0, Nat.zero_le _, rfl, hI⟩
  case round =>
    obtain ⟨k, hk, rfl, hI⟩ := hrel
    by_cases hlt : k < rows.length
    · obtain ⟨g, off, rfl, hg, hcell⟩ := hrc (by omega)
      obtain ⟨⟨y, ys, yb, hH⟩, hR, hb, hsm, hwf⟩ := hI
      have c1 := (hb.cell hg).trans (hcell k (by omega))
      have hra := (hrow0.r k hlt).below hb
      have hll := hr.l hlt
      have HS := Lib.hid (HT.out k hlt)
      obtain ⟨Z, hZ⟩ : ∃ Z, runT X (rows.take k) = Z := ⟨_, rfl⟩
      rw [hZ] at hH hsm hwf HS
      have hgw : g < wr.heap.size := Nat.lt_of_lt_of_le hg hb.size
      generalize vAt vs k = rk at c1 hra
      generalize lAt rows k = rl at hra hll HS
      clear hZ hrc hcell hrow0 HT HE hr hg
      have hSW := stepworld_impl (rv := rk) wr hH.own.at_ hsm hwf hra hll
      go_upto_region 5 with (fail)
      apply wp_region_lit
      refine load_wld (op := ⟨some 16, _, _, _, _, _⟩) rfl _ rfl G rfl _ _ _ _ _ hH.blk.range ?_
      iterate 3 go_step
      refine wpList_callC rfl 34 _ _ rfl Try.func34 (by kernel_rfl) (by kernel_rfl) #[.agg #[y, .int .i64 Z.tick, .int .i64 Z.seed, ys, yb], rk] (by kernel_rfl) hSW ?_
      rintro e wd ⟨q, qs, qb, rfl, hO, hk2⟩
      refine ⟨_, rfl, ?_⟩
      have hb' := hb.trans (hk2.mono hb.size)
      have hH' := hH.below hk2
      have hR' := hR.below hk2 hR.lt
      have hGl := hH.blk.lt
      have hGe := hH.ge
      have hOge : ∀ i, blkW q qs qb i → wr.heap.size ≤ i := fun i hi => (hO.ge i hi).1
      have hOm := hO.mono (B' := w.heap.size + 2) (by omega)
      have ox := slice_one hO.at_.r
      have oxs := slice_one hO.at_.s
      have oxb := slice_one hO.at_.b
      simp only [Act.put, List.setIfInBounds_toArray, List.set_cons_zero, List.set_cons_succ]
      refine store_wld (op := ⟨none, _, _, _, _, _⟩) rfl _ _ rfl G rfl q (stepT Z rl).tick (stepT Z rl).seed qs qb rfl hH'.blk.there ox oxs oxb ?_
      have hq := hH'.putW hOm (fun i hi e => by have := hOge i hi; omega)
      generalize World.setCells wd _ _ _ = wn at hq
      obtain ⟨hHn, hgr⟩ := hq
      have hbn : Below w.heap.size w wn := hb'.grown hgr (by have := hR'.lt; omega) (fun k h => by simp only [Option.some.injEq] at h; omega)
      have hRn := hR'.grown hgr (by simp only [ne_eq, Option.some.injEq]; omega)
      have hIn : RunI w wn G (stepT Z rl) := ⟨⟨_, _, _, hHn⟩, hRn, hbn, step_small hsm, step_bwf hwf⟩
      clear hb' hH' hR' hOm hHn hbn hRn hgr hO hk2 hH hR hb hra c1 ox oxs oxb hOge
      go_wp2_with fail
      go_roundw
      case rel => exact ⟨k + 1, by omega, by go_num, by rw [HS.out]; exact hIn⟩
      case measure => simp [intOf]; omega
    · obtain rfl : k = rows.length := by omega
      obtain ⟨⟨y, ys, yb, hH⟩, hR, hb, hsm, hwf⟩ := hI
      rw [HE.out] at hH
      have hOz := hH.own
      have oz := slice_one hOz.at_.r
      have ozs := slice_one hOz.at_.s
      have ozb := slice_one hOz.at_.b
      clear hrc hrow0 HT HE hr
      go_upto_region 7 with (fail)
      apply wp_region_lit
      refine load_wld (op := ⟨some 20, _, _, _, _, _⟩) rfl _ rfl G rfl _ _ _ _ _ hH.blk.range ?_
      refine store_wld (op := ⟨none, _, _, _, _, _⟩) rfl _ _ rfl (w.heap.size + 1) rfl _ _ _ _ _ rfl hR.there oz ozs ozb ?_
      have hq := And.intro (hR.setAll (u' := y) (us' := ys) (ub' := yb) (tk' := (runT X rows).tick) (sd' := (runT X rows).seed)) (setCells_grown wr (w.heap.size + 1) 0 (wcells y (runT X rows).tick (runT X rows).seed ys yb))
      generalize World.setCells wr _ _ _ = wn at hq
      obtain ⟨hRn, hgr⟩ := hq
      have hOn := (hOz.tch (S := fun i => i = w.heap.size + 1) (Tch.of_grown1 hgr rfl) (fun i hi e => by have := (hOz.ge i hi).1; omega)).mono (B' := w.heap.size) (by omega)
      have hbn : Below w.heap.size w wn := hb.grown hgr (by have := hR.lt; omega) (fun k h => by simp only [Option.some.injEq] at h; omega)
      repeat go_step
      refine bodyPost_ret (res_wld1 rfl rfl hRn.range) rfl ?_
      exact ⟨y, _, _, rfl, hOn, hbn⟩
end Go.Proofs.Ytmamihkcikgmcaa
