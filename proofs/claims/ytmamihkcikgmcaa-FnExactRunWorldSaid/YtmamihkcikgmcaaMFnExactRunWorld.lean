/- For every input the law FnExactRunWorld returns true and leaves what was in memory as it was. No condition. -/
import Derived.Test.YtmamihkcikgmcaaKS
import Derived.Test.YtmamihkcikgmcaaKI
import Derived.Test.YtmamihkcikgmcaaKA
import Derived.Deep.RegionWith
import Derived.Deep.DeepCutAuto
import Derived.Deep.CutRange
import Derived.Test.YtmamihkcikgmcaaOrd
namespace Go.Proofs.Ytmamihkcikgmcaa.fnExactRunWorld
open Go.ChangeShapes Go.WideShapes Go.ChangeAt Go.RowKit
open Go.ChangeMaps (open_string shut_string)
set_option linter.unusedVariables false

theorem lowerW {w w' : World} {g : Nat} {u us ub : Value} {tk sd : Int} (h : WBlk w g u tk sd us ub) (hb : Below w.heap.size w w') : WBlk w' g u tk sd us ub := h.below hb h.lt
set_option maxRecDepth 100000 in
set_option maxHeartbeats 16000000 in
theorem walk (w : World) (a0 : Value) (w0 : Arg_world w a0) (a1 : Value) (w1 : Arg_rows w a1) :
    Calls Try.prog 11 #[a0, a1] w fun e w' => e = .returned (.bool true) ∧ Below w.heap.size w w' := by
  obtain ⟨u, us, ub, X, rfl, hat, hwf⟩ := w0
  obtain ⟨rvs, row, hrow, _⟩ := w1
  unfold wV
  have HZA : ∀ wx, Below w.heap.size w wx → Calls Try.prog 43 #[.agg #[u, .int .i64 X.tick, .int .i64 X.seed, us, ub], .int .i64 1048576] wx fun e w' => ∃ z : Int, e = .returned (.int .i64 z) ∧ (z = -1 ∨ (0 ≤ z ∧ z ≤ 1048576 ∧ WSmall X)) ∧ Below wx.heap.size wx w' := fun wx hx => szworld_ret 1048576 wx (hat.below hx) hwf.r (by omega) (by omega)
  have HTA : ∀ wx, Below w.heap.size w wx → WSmall X → Calls Try.prog 45 #[.agg #[u, .int .i64 X.tick, .int .i64 X.seed, us, ub]] wx fun e w' => ∃ x xs xb, e = .returned (.agg #[x, .int .i64 X.tick, .int .i64 X.seed, xs, xb]) ∧ WOwn w' wx.heap.size x xs xb X ∧ Below wx.heap.size wx w' := fun wx hx hm => toworld_ret wx (hat.below hx) hm
  obtain ⟨Y, hY⟩ : ∃ Y, runT X row = Y := ⟨_, rfl⟩
  have HSM : WSmall X → WSmall Y := fun hm => by rw [← hY]; exact run_small row hm
  have HS : ∀ (x xs xb rv : Value) (rus : List Value) (wx : World), WAt wx x xs xb X → AtSS wx rv rus row → WSmall X → SSmall row → Calls Try.prog 20 #[.agg #[x, .int .i64 X.tick, .int .i64 X.seed, xs, xb], rv] wx fun e w' => ∃ y ys yb, e = .returned (.agg #[y, .int .i64 Y.tick, .int .i64 Y.seed, ys, yb]) ∧ WOwn w' wx.heap.size y ys yb Y ∧ Below wx.heap.size wx w' := fun x xs xb rv rus wx h1 h2 hm hr => by rw [← hY]; exact runworld_spec wx h1 hm hwf.b h2 hr
  have HI : ∀ (x xs xb rv : Value) (rus : List Value) (wx : World), WAt wx x xs xb X → AtSS wx rv rus row → WSmall X → SSmall row → Calls Try.prog 38 #[.agg #[x, .int .i64 X.tick, .int .i64 X.seed, xs, xb], rv] wx fun e w' => ∃ y ys yb, e = .returned (.agg #[y, .int .i64 Y.tick, .int .i64 Y.seed, ys, yb]) ∧ WOwn w' wx.heap.size y ys yb Y ∧ Below wx.heap.size wx w' := fun x xs xb rv rus wx h1 h2 hm hr => by rw [← hY]; exact runworld_impl wx h1 hm hwf.b h2 hr
  clear hY hwf hat
  have hrow0 := hrow
  have HZR : ∀ z wx, 0 ≤ z → z ≤ 1048576 → Below w.heap.size w wx → Calls Try.prog 49 #[a1, .int .i64 z] wx fun e w' => ∃ z2 : Int, e = .returned (.int .i64 z2) ∧ (z2 = -1 ∨ (0 ≤ z2 ∧ z2 ≤ z ∧ SSmall row)) ∧ Below wx.heap.size wx w' := fun z wx h1 h2 hx => szss_ret z wx (hrow0.below hx) h1 h2
  have HTR : ∀ wx, Below w.heap.size w wx → SSmall row → Calls Try.prog 50 #[a1] wx fun e w' => ∃ y us, e = .returned y ∧ OwnSS w' wx.heap.size y us row ∧ Below wx.heap.size wx w' := fun wx hx hr => toss_ret wx (hrow0.below hx) hr
  clear hrow hrow0
  go_enter Try.func11, Try.ntmps11
  go_upto_region 1 with (fail)
  generalize hw1 : w.alloc _ = wp
  have hb : Below w.heap.size w wp := by rw [← hw1]; exact (Below.refl _ _).alloc (Nat.le_refl _) _
  have hA : WBlk wp w.heap.size u X.tick X.seed us ub := by rw [← hw1]; exact WBlk.new w _ u X.tick X.seed us ub
  clear hw1
  go_wp2_with (with_reducible refine load_lwld (op := ⟨some 14, _, _, _, _, _⟩) rfl _ rfl w.heap.size rfl u X.tick X.seed us ub hA.range ?_)
  refine (HZA _ hb).mono ?_
  rintro e wa ⟨z, rfl, hz, hk⟩
  replace hb := hb.trans (hk.mono hb.size)
  replace hA := lowerW hA hk
  clear hk HZA
  rcases hz with rfl | ⟨hz0, hz1, hm⟩
  · clear HTA HS HI HSM HTR HZR
    go_wp2_with fail
    go_ret
    exact ⟨rfl, hb⟩
  replace HSM := HSM hm
  go_wp2_with fail
  refine (HZR _ _ hz0 hz1 hb).mono ?_
  rintro e wb ⟨z2, rfl, hz2, hk⟩
  replace hb := hb.trans (hk.mono hb.size)
  replace hA := lowerW hA hk
  clear hk HZR
  rcases hz2 with rfl | ⟨hz20, _, hr⟩
  · clear HTA HS HI HSM HTR
    go_wp2_with fail
    go_ret
    exact ⟨rfl, hb⟩
  replace HTR := fun wx hx => HTR wx hx hr
  have hrn := hr.n
  have hrl2 : ∀ k, k < row.length → (lAt row k).length ≤ 1048576 := fun k hk => hr.l hk
  replace HTA := fun wx hx => HTA wx hx hm
  have HMX : ∀ (x xs xb : Value) (B : Nat) (wx : World), WOwn wx B x xs xb X → Calls Try.prog 29 #[.agg #[x, .int .i64 X.tick, .int .i64 X.seed, xs, xb], .int .i64 1] wx fun e w' => e = .returned (.int .i64 (endW X)) ∧ WOwn w' B x xs xb (markW X) ∧ Tch (blkW x xs xb) wx w' := fun x xs xb B wx h1 => markworld_ret X.tick X.seed wx h1 hm
  have HMK : ∀ (x xs xb : Value) (B : Nat) (wx : World), WOwn wx B x xs xb Y → Calls Try.prog 29 #[.agg #[x, .int .i64 Y.tick, .int .i64 Y.seed, xs, xb], .int .i64 1] wx fun e w' => e = .returned (.int .i64 (endW Y)) ∧ WOwn w' B x xs xb (markW Y) ∧ Tch (blkW x xs xb) wx w' := fun x xs xb B wx h1 => markworld_ret Y.tick Y.seed wx h1 HSM
  have HHD : ∀ (x xs xb : Value) (wx : World), WAt wx x xs xb (markW Y) → Calls Try.prog 30 #[.agg #[x, .int .i64 Y.tick, .int .i64 Y.seed, xs, xb], .int .i64 1] wx fun e w' => e = .returned (.int .i64 (endW Y)) ∧ Below wx.heap.size wx w' := fun x xs xb wx h1 => heldworld_ret Y.tick Y.seed wx h1 HSM
  have HEQ : ∀ (x xs xb y ys yb : Value) (wx : World), WAt wx x xs xb Y → WAt wx y ys yb Y → Calls Try.prog 27 #[.agg #[x, .int .i64 Y.tick, .int .i64 Y.seed, xs, xb], .agg #[y, .int .i64 Y.tick, .int .i64 Y.seed, ys, yb]] wx fun e w' => e = .returned (.bool true) ∧ Below wx.heap.size wx w' := fun x xs xb y ys yb wx h1 h2 => eqworld_ret wx h1 h2 HSM
  have HEX : ∀ (x xs xb y ys yb : Value) (wx : World), WAt wx x xs xb X → WAt wx y ys yb X → Calls Try.prog 27 #[.agg #[x, .int .i64 X.tick, .int .i64 X.seed, xs, xb], .agg #[y, .int .i64 X.tick, .int .i64 X.seed, ys, yb]] wx fun e w' => e = .returned (.bool true) ∧ Below wx.heap.size wx w' := fun x xs xb y ys yb wx h1 h2 => eqworld_ret wx h1 h2 hm
  replace HS := fun x xs xb rv rus wx h1 h2 => HS x xs xb rv rus wx h1 h2 hm hr
  replace HI := fun x xs xb rv rus wx h1 h2 => HI x xs xb rv rus wx h1 h2 hm hr
  have HX0 : (0 : Int) ≤ endW X ∧ endW X ≤ 20000000 := by
    have := hm.r
    have := hm.s
    have := hm.b
    unfold endW
    omega
  have HQ0 : (0 : Int) ≤ endW Y := by unfold endW; omega
  generalize endW X = E at *
  generalize endW Y = Q at *
  have HMR : ∀ (v : Value) (vs : List Value) (B : Nat) (wx : World), OwnSS wx B v vs row → Calls Try.prog 52 #[v, .int .i64 E] wx fun e w' => e = .returned (.int .i64 (E + sumL row row.length)) ∧ Tch (blkSS v vs) wx w' := fun v vs B wx h => (markss_ret E wx h hrn (by omega) (by have := hr.s; omega)).mono fun _ _ ⟨e, _, hg⟩ => ⟨e, hg⟩
  generalize sumL row row.length = S at *
  clear hm HSM
  go_wp2_with (with_reducible refine load_lwld (op := ⟨some 24, _, _, _, _, _⟩) rfl _ rfl w.heap.size rfl u X.tick X.seed us ub hA.range ?_)
  refine (HTA _ hb).mono ?_
  rintro e wb ⟨x, xs, xb, rfl, hx, hk⟩
  replace hb := hb.trans (hk.mono hb.size)
  replace hA := lowerW hA hk
  clear hk
  go_wp2_with fail
  refine (HTR _ hb).mono ?_
  rintro e wc ⟨y, yss, rfl, hy, hk⟩
  replace hb := hb.trans (hk.mono hb.size)
  replace hA := lowerW hA hk
  replace hx := hx.below hk
  clear hk
  go_wp2_with fail
  refine (HS _ _ _ _ _ _ hx.at_ hy.at_).mono ?_
  rintro e wS ⟨v, vs, vb, rfl, h0, hk⟩
  replace hb := hb.trans (hk.mono hb.size)
  replace hA := lowerW hA hk
  clear hk hx hy HS
  have o1 := slice_one h0.at_.r
  have o2 := slice_one h0.at_.s
  have o3 := slice_one h0.at_.b
  go_upto_region 9 with (with_reducible refine store_wld (op := ⟨none, _, _, _, _, _⟩) rfl _ _ rfl wS.heap.size rfl v Y.tick Y.seed vs vb rfl (zwthere _ _) o1 o2 o3 ?_)
  have hq := newW5 hb hb.size 36 v Y.tick Y.seed vs vb
  generalize hwn : World.setCells (World.alloc wS _) _ _ _ = wk6
  rw [hwn] at hq
  obtain ⟨hG6, hb', hk⟩ := hq
  replace hb := hb'
  replace hA := lowerW hA hk
  replace h0 := h0.below hk
  have z6 := hG6.lt
  have zA := hA.lt
  have h0l : ∀ i, blkW v vs vb i → i < wk6.heap.size := fun i hi => (h0.ge i hi).2
  clear hwn hk hb' o1 o2 o3
  generalize wS.heap.size = p6 at *
  go_wp2_with (with_reducible refine load_lwld (op := ⟨some 29, _, _, _, _, _⟩) rfl _ rfl w.heap.size rfl u X.tick X.seed us ub hA.range ?_)
  refine (HTA _ hb).mono ?_
  rintro e wd ⟨x, xs, xb, rfl, hx, hk⟩
  replace hb := hb.trans (hk.mono hb.size)
  replace hA := lowerW hA hk
  replace hG6 := lowerW hG6 hk
  replace h0 := h0.below hk
  have hxl : ∀ i, blkW x xs xb i → wk6.heap.size ≤ i ∧ i < wd.heap.size := fun i hi => hx.ge i hi
  have zd := hk.size
  clear hk
  have o1 := slice_one hx.at_.r
  have o2 := slice_one hx.at_.s
  have o3 := slice_one hx.at_.b
  go_upto_region 10 with (with_reducible refine store_wld (op := ⟨none, _, _, _, _, _⟩) rfl _ _ rfl wd.heap.size rfl x X.tick X.seed xs xb rfl (zwthere _ _) o1 o2 o3 ?_)
  have hq := newW5 hb hb.size 36 x X.tick X.seed xs xb
  generalize hwn : World.setCells (World.alloc wd _) _ _ _ = we
  rw [hwn] at hq
  obtain ⟨hG7, hb', hk⟩ := hq
  replace hb := hb'
  replace hA := lowerW hA hk
  replace hG6 := lowerW hG6 hk
  replace h0 := h0.below hk
  replace hx := hx.below hk
  have ze := hG7.lt
  clear hwn hk hb' o1 o2 o3
  generalize wd.heap.size = p7 at *
  go_wp2_with fail
  refine (HTR _ hb).mono ?_
  rintro e wf ⟨r, rss, rfl, hr, hk⟩
  replace hb := hb.trans (hk.mono hb.size)
  replace hA := lowerW hA hk
  replace hG6 := lowerW hG6 hk
  replace hG7 := lowerW hG7 hk
  replace h0 := h0.below hk
  replace hx := hx.below hk
  have hrl : ∀ i, blkSS r rss i → we.heap.size ≤ i ∧ i < wf.heap.size := fun i hi => hr.ge i hi
  have zf := hk.size
  clear hk
  go_wp2_with (with_reducible refine load_wld (op := ⟨some 33, _, _, _, _, _⟩) rfl _ rfl p7 rfl x X.tick X.seed xs xb hG7.range ?_)
  refine (HI _ _ _ _ _ _ hx.at_ hr.at_).mono ?_
  rintro e wg ⟨g, gs, gb, rfl, h1, hk⟩
  replace hb := hb.trans (hk.mono hb.size)
  replace hA := lowerW hA hk
  replace hG6 := lowerW hG6 hk
  replace hG7 := lowerW hG7 hk
  replace h0 := h0.below hk
  replace hx := hx.below hk
  replace hr := hr.belowS hk
  have h1l : ∀ i, blkW g gs gb i → wf.heap.size ≤ i ∧ i < wg.heap.size := h1.ge
  have zg := hk.size
  clear hk
  have o1 := slice_one h1.at_.r
  have o2 := slice_one h1.at_.s
  have o3 := slice_one h1.at_.b
  go_upto_region 12 with (with_reducible refine store_wld (op := ⟨none, _, _, _, _, _⟩) rfl _ _ rfl wg.heap.size rfl g Y.tick Y.seed gs gb rfl (zwthere _ _) o1 o2 o3 ?_)
  have hq := newW5 hb hb.size 36 g Y.tick Y.seed gs gb
  generalize hwn : World.setCells (World.alloc wg _) _ _ _ = wh
  rw [hwn] at hq
  obtain ⟨hG9, hb', hk⟩ := hq
  replace hb := hb'
  replace hA := lowerW hA hk
  replace hG6 := lowerW hG6 hk
  replace hG7 := lowerW hG7 hk
  replace h0 := h0.below hk
  replace hx := hx.below hk
  replace hr := hr.belowS hk
  replace h1 := h1.below hk
  have zh := hG9.lt
  clear hwn hk hb' o1 o2 o3
  generalize wg.heap.size = p9 at *
  go_wp2_with (first | (with_reducible refine load_wld (op := ⟨some 36, _, _, _, _, _⟩) rfl _ rfl p9 rfl g Y.tick Y.seed gs gb hG9.range ?_) | (with_reducible refine load_wld (op := ⟨some 37, _, _, _, _, _⟩) rfl _ rfl p6 rfl v Y.tick Y.seed vs vb hG6.range ?_))
  refine (HEQ _ _ _ _ _ _ _ h1.at_ h0.at_).mono ?_
  rintro e wi ⟨rfl, hk⟩
  replace hb := hb.trans (hk.mono hb.size)
  replace hA := lowerW hA hk
  replace hG6 := lowerW hG6 hk
  replace hG7 := lowerW hG7 hk
  replace hG9 := lowerW hG9 hk
  replace h0 := h0.below hk
  replace hx := hx.below hk
  replace hr := hr.belowS hk
  replace h1 := h1.below hk
  have zi := hk.size
  clear hk
  go_upto_region 14 with (fail)
  go_cut [44] (fun st wx => st = .bool false ∧ Below wi.heap.size wi wx)
  case first =>
    have K := (Below.refl wi.heap.size wi).drew
    have H := hb.drew
    obtain ⟨_, c0, c1, c2, c3, c4, _⟩ := id (hA.below K hA.lt)
    obtain ⟨_, d0, d1, d2, d3, d4, _⟩ := id (hG7.below K hG7.lt)
    go_region_with (first
      | (go_at_call 45; (with_reducible refine (HTA _ H).mono ?_); rintro e wj ⟨p, ps, pb, rfl, hp, hg⟩; have HX := hp.at_; have HP := (hx.below K).below hg; replace H := H.trans (hg.mono H.size); replace K := K.trans (hg.mono K.size); obtain ⟨_, c0, c1, c2, c3, c4, _⟩ := id (hA.below K hA.lt); obtain ⟨_, d0, d1, d2, d3, d4, _⟩ := id (hG7.below K hG7.lt); clear hg hp)
      | (go_at_call 27; (with_reducible refine (HEX _ _ _ _ _ _ _ HP.at_ HX).mono ?_); rintro e wl ⟨rfl, hj⟩; have KK := K.trans (hj.mono K.size)))
    all_goals
      go_wp2_with fail
      go_meet
      case rel => exact ⟨rfl, KK⟩
  case rest =>
  obtain ⟨wj, rfl⟩ : ∃ wj : World, wj = wc := ⟨_, rfl⟩
  obtain ⟨rfl, hk⟩ := hcut
  replace hb := hb.trans (hk.mono hb.size)
  replace hA := lowerW hA hk
  replace hG6 := lowerW hG6 hk
  replace hG7 := lowerW hG7 hk
  replace hG9 := lowerW hG9 hk
  replace h0 := h0.below hk
  replace hx := hx.below hk
  replace hr := hr.belowS hk
  replace h1 := h1.below hk
  have zj := hk.size
  clear hk HEX
  go_wp2_with fail
  refine (HTR _ hb).mono ?_
  rintro e wl ⟨q, qss, rfl, hq, hk⟩
  replace hb := hb.trans (hk.mono hb.size)
  replace hA := lowerW hA hk
  replace hG6 := lowerW hG6 hk
  replace hG7 := lowerW hG7 hk
  replace hG9 := lowerW hG9 hk
  replace h0 := h0.below hk
  replace hx := hx.below hk
  replace hr := hr.belowS hk
  replace h1 := h1.below hk
  have zl := hk.size
  clear hk
  go_wp2_with fail
  refine (eqss_ret _ hr.at_ hq.at_ hrn hrl2).mono ?_
  rintro e wm ⟨rfl, hk⟩
  replace hb := hb.trans (hk.mono hb.size)
  replace hA := lowerW hA hk
  replace hG6 := lowerW hG6 hk
  replace hG7 := lowerW hG7 hk
  replace hG9 := lowerW hG9 hk
  replace h0 := h0.below hk
  replace hx := hx.below hk
  replace hr := hr.belowS hk
  replace h1 := h1.below hk
  have zm := hk.size
  clear hk hq
  go_wp2_with (with_reducible refine load_wld (op := ⟨some 50, _, _, _, _, _⟩) rfl _ rfl p7 rfl x X.tick X.seed xs xb hG7.range ?_)
  refine (HMX _ _ _ _ _ hx).mono ?_
  rintro e wn ⟨rfl, _, ti⟩
  replace hb : Below w.heap.size w wn := hb.trans (ti.below (by omega) fun i hi => by have := hxl i hi; omega)
  replace hA := hA.tch ti fun e => by have := hxl _ e; omega
  replace hG6 := hG6.tch ti fun e => by have := hxl _ e; omega
  replace hG9 := hG9.tch ti fun e => by have := hxl _ e; omega
  replace h0 := h0.tch ti fun i hi e => by have := h0l i hi; have := hxl i e; omega
  replace hr := hr.tch ti fun i hi e => by have := hrl i hi; have := hxl i e; omega
  replace h1 := h1.tch ti fun i hi e => by have := h1l i hi; have := hxl i e; omega
  have zn := ti.size
  clear ti hx hG7 HMX
  go_wp2_with fail
  refine (HMR _ _ _ _ hr).mono ?_
  rintro e wo ⟨rfl, ti⟩
  replace hb : Below w.heap.size w wo := hb.trans (ti.below (by omega) fun i hi => by have := hrl i hi; omega)
  replace hA := hA.tch ti fun e => by have := hrl _ e; omega
  replace hG6 := hG6.tch ti fun e => by have := hrl _ e; omega
  replace hG9 := hG9.tch ti fun e => by have := hrl _ e; omega
  replace h0 := h0.tch ti fun i hi e => by have := h0l i hi; have := hrl i e; omega
  replace h1 := h1.tch ti fun i hi e => by have := h1l i hi; have := hrl i e; omega
  have zo := ti.size
  clear ti hr HMR
  have n1 : decide (E + (S : Int) < 0) = false := decide_eq_false (by omega)
  obtain ⟨_, c0, c1, c2, c3, c4, _⟩ := id hG9
  obtain ⟨_, d0, d1, d2, d3, d4, _⟩ := id hG6
  go_wp2_with fail
  refine (HEQ _ _ _ _ _ _ _ h1.at_ h0.at_).mono ?_
  rintro e wq ⟨rfl, hk⟩
  clear c0 c1 c2 c3 c4 d0 d1 d2 d3 d4 n1
  replace hb := hb.trans (hk.mono hb.size)
  replace hA := lowerW hA hk
  replace hG6 := lowerW hG6 hk
  replace hG9 := lowerW hG9 hk
  replace h0 := h0.below hk
  replace h1 := h1.below hk
  have zq := hk.size
  clear hk
  go_wp2_with (with_reducible refine load_wld (op := ⟨some 64, _, _, _, _, _⟩) rfl _ rfl p9 rfl g Y.tick Y.seed gs gb hG9.range ?_)
  refine (HMK _ _ _ _ _ h1).mono ?_
  rintro e wr ⟨rfl, h2, tl⟩
  replace hb : Below w.heap.size w wr := hb.trans (tl.below (by omega) fun i hi => by have := h1l i hi; omega)
  replace hA := hA.tch tl fun e => by have := h1l _ e; omega
  replace hG6 := hG6.tch tl fun e => by have := h1l _ e; omega
  replace hG9 := hG9.tch tl fun e => by have := h1l _ e; omega
  replace h0 := h0.tch tl fun i hi e => by have := h0l i hi; have := h1l i e; omega
  have zr := tl.size
  clear tl h1 HMK
  go_wp2_with (with_reducible refine load_wld (op := ⟨some 67, _, _, _, _, _⟩) rfl _ rfl p9 rfl g Y.tick Y.seed gs gb hG9.range ?_)
  refine (HHD _ _ _ _ h2.at_).mono ?_
  rintro e ws ⟨rfl, hk⟩
  replace hb := hb.trans (hk.mono hb.size)
  replace hA := lowerW hA hk
  replace hG6 := lowerW hG6 hk
  replace hG9 := lowerW hG9 hk
  replace h0 := h0.below hk
  replace h2 := h2.below hk
  clear hk
  have n2 : decide (Q < 0) = false := decide_eq_false (by omega)
  go_wp2_with (with_reducible refine load_lwld (op := ⟨some 75, _, _, _, _, _⟩) rfl _ rfl w.heap.size rfl u X.tick X.seed us ub hA.range ?_)
  refine (HTA _ hb).mono ?_
  rintro e wt ⟨x2, xs2, xb2, rfl, hx, hk⟩
  replace hb := hb.trans (hk.mono hb.size)
  replace hG6 := lowerW hG6 hk
  replace hG9 := lowerW hG9 hk
  replace h0 := h0.below hk
  replace h2 := h2.below hk
  clear hk hA
  go_wp2_with fail
  refine (HTR _ hb).mono ?_
  rintro e wu ⟨r2, rss2, rfl, hr, hk⟩
  replace hb := hb.trans (hk.mono hb.size)
  replace hG6 := lowerW hG6 hk
  replace hG9 := lowerW hG9 hk
  replace h0 := h0.below hk
  replace h2 := h2.below hk
  replace hx := hx.below hk
  clear hk
  go_wp2_with fail
  refine (HI _ _ _ _ _ _ hx.at_ hr.at_).mono ?_
  rintro e wv ⟨q, qs, qb, rfl, h3, hk⟩
  replace hb := hb.trans (hk.mono hb.size)
  replace hG6 := lowerW hG6 hk
  replace hG9 := lowerW hG9 hk
  replace h0 := h0.below hk
  replace h2 := h2.below hk
  clear hk hx hr
  have o1 := slice_one h3.at_.r
  have o2 := slice_one h3.at_.s
  have o3 := slice_one h3.at_.b
  go_upto_region 32 with (with_reducible refine store_wld (op := ⟨none, _, _, _, _, _⟩) rfl _ _ rfl wv.heap.size rfl q Y.tick Y.seed qs qb rfl (zwthere _ _) o1 o2 o3 ?_)
  have hq := newW5 hb hb.size 36 q Y.tick Y.seed qs qb
  generalize hwn : World.setCells (World.alloc wv _) _ _ _ = wx
  rw [hwn] at hq
  obtain ⟨hG13, hb', hk⟩ := hq
  replace hb := hb'
  replace hG6 := lowerW hG6 hk
  replace hG9 := lowerW hG9 hk
  replace h0 := h0.below hk
  replace h2 := h2.below hk
  replace h3 := h3.below hk
  clear hwn hk hb' o1 o2 o3
  generalize wv.heap.size = p13 at *
  go_wp2_with (first | (with_reducible refine load_wld (op := ⟨some 80, _, _, _, _, _⟩) rfl _ rfl p13 rfl q Y.tick Y.seed qs qb hG13.range ?_) | (with_reducible refine load_wld (op := ⟨some 81, _, _, _, _, _⟩) rfl _ rfl p6 rfl v Y.tick Y.seed vs vb hG6.range ?_))
  refine (HEQ _ _ _ _ _ _ _ h3.at_ h0.at_).mono ?_
  rintro e wy ⟨rfl, hk⟩
  replace hb := hb.trans (hk.mono hb.size)
  replace hG9 := lowerW hG9 hk
  replace h2 := h2.below hk
  clear hk hG6 hG13 h0 h3
  go_wp2_with (with_reducible refine load_wld (op := ⟨some 84, _, _, _, _, _⟩) rfl _ rfl p9 rfl g Y.tick Y.seed gs gb hG9.range ?_)
  refine (HHD _ _ _ _ h2.at_).mono ?_
  rintro e wz ⟨rfl, hk⟩
  replace hb := hb.trans (hk.mono hb.size)
  clear hk
  go_wp2_with fail
  go_ret
  exact ⟨rfl, hb⟩

set_option maxRecDepth 100000 in
theorem lifted (os : Os) (started : os.Started) (H : Type) (enc : TypeId × Value → H) :
    ReturnsInHanded {} Try.checked os 11 .any (Rows.fnExactRunWorldSpec.pre6 enc Try.prog Try.f11 Rows.fnExactRunWorldRow.domain false) (Rows.fnExactRunWorldSpec.post enc Try.prog Try.f11 false true false false) := by
  refine returnsInHanded_of_change (C := Try.checked) own_ started (by kernel_rfl) Try.func11
    (ChangeSpec.witness6 (enc := enc) (C := Try.checked) false ⟨#[], #[.agg #[.slice none 0 0, .int .i64 0, .int .i64 0, .slice none 0 0, .slice none 0 0], .slice none 0 0], []⟩ 8 (by kernel_rfl) (by kernel_rfl) (by kernel_rfl) (by kernel_rfl)) ?_
  intro W base args ds gs before hval0 hW hcnd _
  have hval : ∀ (j : Nat) t v, Try.f11.params[j]? = some t → args[j]? = some v → Value.okWide Try.prog W .any base t v := hval0
  have hW' := hW
  obtain ⟨p, q, hA0, hV, rfl, hfz, hnd⟩ := hW
  have hA : DataW.TrodAll enc Try.prog W 0 (fun _ => true) true Try.f11.params.toList args.toList ds p := hA0
  rw [Try.params11] at hA hval
  obtain ⟨v0, vs0, d0, ds0, p0, q0, hargs, rfl, rfl, h0, r0⟩ := trodAll_cons hA
  obtain ⟨v1, vs1, d1, ds1, p1, q1, rfl, rfl, rfl, h1, r1⟩ := trodAll_cons r0
  obtain ⟨rfl, rfl, rfl⟩ := trodAll_nil r1
  obtain rfl : args = #[v0, v1] := by cases args; simp_all
  have w0 := open_world (hval 0 66 v0 rfl rfl) h0
  have w1 := open_rows (hval 1 37 v1 rfl rfl) h1
  refine (walk W v0 w0 v1 w1).mono fun e W' ⟨he, hb⟩ => ?_
  subst he
  exact ⟨_, rfl, law_post laidOut (by kernel_rfl) rfl rfl Try.underlying4 (fun gs' h => by subst h; rfl) hW' hb⟩

theorem closed_ : joinedFacts Try.prog 11 Try.f11 Rows.fnExactRunWorldSpec Rows.fnExactRunWorldRow = true := by
  unfold joinedFacts
  rw [mayEnter_, liftsFinal_, make_, laidOut_, mapsRowed_, stopsHeard_]
  kernel_rfl

theorem proved : Rows.FnExactRunWorldSaid :=
  OpenClaim.holds_of_wide 11 Try.f11 rfl rfl rfl rfl rfl rfl rfl ⟨rfl, rfl, rfl, rfl, rfl⟩ rfl rfl rfl rfl rfl (by kernel_rfl) Try.func11 closed_
    (of_decide_eq_true (by kernel_rfl)) (by unfold Func.isWrapper; first | (rw [if_pos (by decide +kernel)]; kernel_rfl) | (rw [if_neg (by decide +kernel)]; exact ⟨rfl, rfl⟩))
    (fun os started H enc _ => lifted os started H enc)
end Go.Proofs.Ytmamihkcikgmcaa.fnExactRunWorld
