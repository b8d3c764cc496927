/- For every input the law FnExactSameWorld returns true and leaves what was in memory as it was. No condition. -/
import Derived.Test.YtkcknikaidbeoaaSwf
import Derived.Deep.RegionWith
import Derived.Deep.DeepCutAuto
import Derived.Deep.CutRange
import Derived.Test.YtkcknikaidbeoaaFrame
import Derived.Test.YtkcknikaidbeoaaOrd
namespace Go.Proofs.Ytkcknikaidbeoaa.fnExactSameWorld
open Go.ChangeShapes Go.WideShapes Go.ChangeAt Go.RowKit
open Go.ChangeMaps (open_string shut_string)
set_option linter.unusedVariables false

set_option maxRecDepth 100000 in
set_option maxHeartbeats 16000000 in
theorem walk (w : World) (a0 : Value) (w0 : Arg_world w a0) (a1 : Value) (w1 : Arg_world w a1) :
    Calls Try.prog 8 #[a0, a1] w fun e w' => e = .returned (.bool true) ∧ Below w.heap.size w w' := by
  obtain ⟨u, us, ub, X, rfl, hat, hwf⟩ := w0
  obtain ⟨v, vs, vb, Y, rfl, hat2, hwf2⟩ := w1
  unfold wV
  have HZA : ∀ wx, Below w.heap.size w wx → Calls Try.prog 41 #[.agg #[u, .int .i64 X.tick, .int .i64 X.seed, us, ub], .int .i64 1048576] wx fun e w' => ∃ z : Int, e = .returned (.int .i64 z) ∧ (z = -1 ∨ (0 ≤ z ∧ z ≤ 1048576 ∧ WSmall X)) ∧ Below wx.heap.size wx w' := fun wx hx => szworld_ret 1048576 wx (hat.below hx) hwf.r (by omega) (by omega)
  have HZB : ∀ z wx, 0 ≤ z → z ≤ 1048576 → Below w.heap.size w wx → Calls Try.prog 41 #[.agg #[v, .int .i64 Y.tick, .int .i64 Y.seed, vs, vb], .int .i64 z] wx fun e w' => ∃ z2 : Int, e = .returned (.int .i64 z2) ∧ (z2 = -1 ∨ (0 ≤ z2 ∧ z2 ≤ z ∧ WSmall Y)) ∧ Below wx.heap.size wx w' := fun z wx h1 h2 hx => szworld_ret z wx (hat2.below hx) hwf2.r h1 h2
  obtain ⟨R, hR⟩ : ∃ R, sameW X Y = R := ⟨_, rfl⟩
  have HS : ∀ (x xs xb y ys yb : Value) (wx : World), WAt wx x xs xb X → WAt wx y ys yb Y → WSmall X → WSmall Y → Calls Try.prog 42 #[.agg #[x, .int .i64 X.tick, .int .i64 X.seed, xs, xb], .agg #[y, .int .i64 Y.tick, .int .i64 Y.seed, ys, yb]] wx fun e w' => e = .returned (.bool R) ∧ Below wx.heap.size wx w' := fun x xs xb y ys yb wx h1 h2 h3 h4 => by rw [← hR]; exact sameworld_spec wx h1 h2 h3 h4
  have HI : ∀ (x xs xb y ys yb : Value) (wx : World), WAt wx x xs xb X → WAt wx y ys yb Y → WSmall X → WSmall Y → Calls Try.prog 44 #[.agg #[x, .int .i64 X.tick, .int .i64 X.seed, xs, xb], .agg #[y, .int .i64 Y.tick, .int .i64 Y.seed, ys, yb]] wx fun e w' => e = .returned (.bool R) ∧ Below wx.heap.size wx w' := fun x xs xb y ys yb wx h1 h2 h3 h4 => by rw [← hR]; exact sameworld_impl wx h1 h2 h3 h4
  have HTA : ∀ wx, Below w.heap.size w wx → WSmall X → Calls Try.prog 43 #[.agg #[u, .int .i64 X.tick, .int .i64 X.seed, us, ub]] wx fun e w' => ∃ x xs xb, e = .returned (.agg #[x, .int .i64 X.tick, .int .i64 X.seed, xs, xb]) ∧ WOwn w' wx.heap.size x xs xb X ∧ Below wx.heap.size wx w' := fun wx hx hm => toworld_ret wx (hat.below hx) hm
  have HTB : ∀ wx, Below w.heap.size w wx → WSmall Y → Calls Try.prog 43 #[.agg #[v, .int .i64 Y.tick, .int .i64 Y.seed, vs, vb]] wx fun e w' => ∃ y ys yb, e = .returned (.agg #[y, .int .i64 Y.tick, .int .i64 Y.seed, ys, yb]) ∧ WOwn w' wx.heap.size y ys yb Y ∧ Below wx.heap.size wx w' := fun wx hx hm => toworld_ret wx (hat2.below hx) hm
  clear hR hwf hwf2
  go_enter Try.func8, Try.ntmps8
  go_upto_region 2 with (fail)
  generalize hw1 : (w.alloc _).alloc _ = wp
  have hb1 : Below w.heap.size w wp := by rw [← hw1]; exact ((Below.refl _ _).alloc (Nat.le_refl _) _).alloc (by simp) _
  have hA1 : WBlk wp w.heap.size u X.tick X.seed us ub := by rw [← hw1]; exact (WBlk.new w _ u X.tick X.seed us ub).alloc _
  have hC1 : WBlk wp (w.heap.size + 1) v Y.tick Y.seed vs vb := by
    rw [← hw1]
    have := WBlk.new (w.alloc (.cells #[u, .int .i64 X.tick, .int .i64 X.seed, us, ub] 45)) 45 v Y.tick Y.seed vs vb
    rwa [show (w.alloc (.cells #[u, .int .i64 X.tick, .int .i64 X.seed, us, ub] 45)).heap.size = w.heap.size + 1 by simp] at this
  clear hw1
  go_wp2_with (with_reducible refine load_lwld (op := ⟨some 10, _, _, _, _, _⟩) rfl _ rfl w.heap.size rfl u X.tick X.seed us ub hA1.range ?_)
  refine (HZA _ hb1).mono ?_
  rintro e wa ⟨z, rfl, hz, ha⟩
  have hb2 := hb1.trans (ha.mono hb1.size)
  have hA2 := hA1.below ha hA1.lt
  have hC2 := hC1.below ha hC1.lt
  clear ha hA1 hC1 hb1 HZA
  rcases hz with rfl | ⟨hz0, hz1, hm⟩
  · go_wp2_with fail
    go_ret
    exact ⟨rfl, hb2⟩
  go_wp2_with (with_reducible refine load_lwld (op := ⟨some 15, _, _, _, _, _⟩) rfl _ rfl (w.heap.size + 1) rfl v Y.tick Y.seed vs vb hC2.range ?_)
  refine (HZB _ _ hz0 hz1 hb2).mono ?_
  rintro e wb ⟨z2, rfl, hz2, hb⟩
  have hb3 := hb2.trans (hb.mono hb2.size)
  have hA3 := hA2.below hb hA2.lt
  have hC3 := hC2.below hb hC2.lt
  clear hb hA2 hC2 hb2 HZB
  rcases hz2 with rfl | ⟨hz20, _, hm2⟩
  · go_wp2_with fail
    go_ret
    exact ⟨rfl, hb3⟩
  go_upto_region 8 with (fail)
  go_cut [6] (fun st wx => st = .bool R ∧ Below wb.heap.size wb wx)
  case first =>
    have K := (Below.refl wb.heap.size wb).drew
    have H := hb3.drew
    obtain ⟨_, c0, c1, c2, c3, c4, _⟩ := id (hA3.below K hA3.lt)
    obtain ⟨_, d0, d1, d2, d3, d4, _⟩ := id (hC3.below K hC3.lt)
    go_region_with (first
      | (go_at_call 43; (with_reducible refine (HTA _ H hm).mono ?_); rintro e wg ⟨x, xs, xb, rfl, hx, hg⟩; (first | (replace HY := HY.below hg) | skip); have HX := hx.at_; replace H := H.trans (hg.mono H.size); replace K := K.trans (hg.mono K.size); obtain ⟨_, c0, c1, c2, c3, c4, _⟩ := id (hA3.below K hA3.lt); obtain ⟨_, d0, d1, d2, d3, d4, _⟩ := id (hC3.below K hC3.lt); clear hg hx)
      | (go_at_call 43; (with_reducible refine (HTB _ H hm2).mono ?_); rintro e wg ⟨y, ys, yb, rfl, hy, hg⟩; (first | (replace HX := HX.below hg) | skip); have HY := hy.at_; replace H := H.trans (hg.mono H.size); replace K := K.trans (hg.mono K.size); obtain ⟨_, c0, c1, c2, c3, c4, _⟩ := id (hA3.below K hA3.lt); obtain ⟨_, d0, d1, d2, d3, d4, _⟩ := id (hC3.below K hC3.lt); clear hg hy)
      | (go_at_call 42; (with_reducible refine (HS _ _ _ _ _ _ _ HX HY hm hm2).mono ?_); rintro e wh ⟨rfl, hh⟩; have KK := K.trans (hh.mono K.size)))
    all_goals
      go_wp2_with fail
      go_meet
      case rel => exact ⟨rfl, KK⟩
  case rest =>
  obtain ⟨wq, rfl⟩ : ∃ wq : World, wq = wc := ⟨_, rfl⟩
  obtain ⟨rfl, hq⟩ := hcut
  have hb4 := hb3.trans (hq.mono hb3.size)
  have hA4 := hA3.below hq hA3.lt
  have hC4 := hC3.below hq hC3.lt
  clear hq hA3 hC3 hb3 HS
  go_wp2_with (with_reducible refine load_lwld (op := ⟨some 25, _, _, _, _, _⟩) rfl _ rfl w.heap.size rfl u X.tick X.seed us ub hA4.range ?_)
  refine (HTA _ hb4 hm).mono ?_
  rintro e wd ⟨x, xs, xb, rfl, hx, hd⟩
  have hb5 := hb4.trans (hd.mono hb4.size)
  have hA5 := hA4.below hd hA4.lt
  have hC5 := hC4.below hd hC4.lt
  have ox := slice_one hx.at_.r
  have oxs := slice_one hx.at_.s
  have oxb := slice_one hx.at_.b
  clear hd hA4 hC4 hb4
  go_upto_region 10 with (with_reducible refine store_wld (op := ⟨none, _, _, _, _, _⟩) rfl _ _ rfl wd.heap.size rfl x X.tick X.seed xs xb rfl (zwthere _ _) ox oxs oxb ?_)
  have hqq := newW5 hb5 hb5.size 50 x X.tick X.seed xs xb
  generalize hwn : World.setCells (World.alloc wd _) _ _ _ = we
  rw [hwn] at hqq
  obtain ⟨hB6, hb6, hk⟩ := hqq
  have hA6 := hA5.below hk hA5.lt
  have hC6 := hC5.below hk hC5.lt
  have hx6 := hx.below hk
  clear hwn hk hA5 hC5 hb5 hx
  go_wp2_with (with_reducible refine load_lwld (op := ⟨some 27, _, _, _, _, _⟩) rfl _ rfl (w.heap.size + 1) rfl v Y.tick Y.seed vs vb hC6.range ?_)
  refine (HTB _ hb6 hm2).mono ?_
  rintro e wf ⟨y, ys, yb, rfl, hy, hf⟩
  have hb7 := hb6.trans (hf.mono hb6.size)
  have hA7 := hA6.below hf hA6.lt
  have hC7 := hC6.below hf hC6.lt
  have hB7 := hB6.below hf hB6.lt
  have hx7 := hx6.below hf
  have oy := slice_one hy.at_.r
  have oys := slice_one hy.at_.s
  have oyb := slice_one hy.at_.b
  clear hf hA6 hC6 hB6 hb6 hx6
  go_upto_region 11 with (with_reducible refine store_wld (op := ⟨none, _, _, _, _, _⟩) rfl _ _ rfl wf.heap.size rfl y Y.tick Y.seed ys yb rfl (zwthere _ _) oy oys oyb ?_)
  have hqq := newW5 hb7 hb7.size 50 y Y.tick Y.seed ys yb
  generalize hwn : World.setCells (World.alloc wf _) _ _ _ = wg
  rw [hwn] at hqq
  obtain ⟨hD8, hb8, hk⟩ := hqq
  have hA8 := hA7.below hk hA7.lt
  have hC8 := hC7.below hk hC7.lt
  have hB8 := hB7.below hk hB7.lt
  have hx8 := hx7.below hk
  have hy8 := hy.below hk
  clear hwn hk hA7 hC7 hB7 hb7 hx7 hy
  go_wp2_with (first | (with_reducible refine load_wld (op := ⟨some 29, _, _, _, _, _⟩) rfl _ rfl wd.heap.size rfl x X.tick X.seed xs xb hB8.range ?_) | (with_reducible refine load_wld (op := ⟨some 30, _, _, _, _, _⟩) rfl _ rfl wf.heap.size rfl y Y.tick Y.seed ys yb hD8.range ?_))
  refine (HI _ _ _ _ _ _ _ hx8.at_ hy8.at_ hm hm2).mono ?_
  rintro e wh ⟨rfl, hh⟩
  have hb9 := hb8.trans (hh.mono hb8.size)
  have hA9 := hA8.below hh hA8.lt
  have hC9 := hC8.below hh hC8.lt
  have hB9 := hB8.below hh hB8.lt
  have hD9 := hD8.below hh hD8.lt
  have hx9 := hx8.below hh
  have hy9 := hy8.below hh
  clear hh hA8 hC8 hB8 hD8 hb8 hx8 hy8 HI
  go_upto_region 14 with (fail)
  go_cut [39] (fun st wx => st = .bool false ∧ Below wh.heap.size wh wx)
  case first =>
    have K := (Below.refl wh.heap.size wh).drew
    have H := hb9.drew
    obtain ⟨_, c0, c1, c2, c3, c4, _⟩ := id (hA9.below K hA9.lt)
    obtain ⟨_, d0, d1, d2, d3, d4, _⟩ := id (hB9.below K hB9.lt)
    go_region_with (first
      | (go_at_call 43; (with_reducible refine (HTA _ H hm).mono ?_); rintro e wi ⟨p, ps, pb, rfl, hp, hg⟩; have HX := hp.at_; have HP := (hx9.below K).below hg; replace H := H.trans (hg.mono H.size); replace K := K.trans (hg.mono K.size); obtain ⟨_, c0, c1, c2, c3, c4, _⟩ := id (hA9.below K hA9.lt); obtain ⟨_, d0, d1, d2, d3, d4, _⟩ := id (hB9.below K hB9.lt); clear hg hp)
      | (go_at_call 45; (with_reducible refine (eqworld_ret _ HP.at_ HX hm).mono ?_); rintro e wj ⟨rfl, hj⟩; have KK := K.trans (hj.mono K.size)))
    all_goals
      go_wp2_with fail
      go_meet
      case rel => exact ⟨rfl, KK⟩
  case rest =>
  obtain ⟨wq, rfl⟩ : ∃ wq : World, wq = wc := ⟨_, rfl⟩
  obtain ⟨rfl, hq⟩ := hcut
  have hbz := hb9.trans (hq.mono hb9.size)
  have hCz := hC9.below hq hC9.lt
  have hDz := hD9.below hq hD9.lt
  have hyz := hy9.below hq
  clear hq hA9 hC9 hB9 hD9 hb9 hx9 hy9 HTA
  have hbD := hbz.drew
  have hyD := hyz.drew
  have K := (Below.refl wq.heap.size wq).drew
  obtain ⟨_, c0, c1, c2, c3, c4, _⟩ := id (hCz.below K hCz.lt)
  obtain ⟨_, d0, d1, d2, d3, d4, _⟩ := id (hDz.below K hDz.lt)
  go_wp2_with fail
  go_region_with (first
    | (go_at_call 43; (with_reducible refine (HTB _ hbD hm2).mono ?_); rintro e wi ⟨p, ps, pb, rfl, hp, hg⟩; have hblg := hbD.trans (hg.mono hbD.size); have hyg := hyD.below hg; replace K := K.trans (hg.mono K.size); obtain ⟨_, c0, c1, c2, c3, c4, _⟩ := id (hCz.below K hCz.lt); obtain ⟨_, d0, d1, d2, d3, d4, _⟩ := id (hDz.below K hDz.lt); clear hg)
    | (go_at_call 45; (with_reducible refine (eqworld_ret _ hyg.at_ hp.at_ hm2).mono ?_); rintro e wj ⟨rfl, hj⟩; have hblh := hblg.trans (hj.mono hblg.size)))
  all_goals
    go_wp2_with fail
    go_ret
    exact ⟨rfl, hblh⟩

set_option maxRecDepth 100000 in
theorem lifted (os : Os) (started : os.Started) (H : Type) (enc : TypeId × Value → H) :
    ReturnsInHanded {} Try.checked os 8 .any (Rows.fnExactSameWorldSpec.pre6 enc Try.prog Try.f8 Rows.fnExactSameWorldRow.domain false) (Rows.fnExactSameWorldSpec.post enc Try.prog Try.f8 false true false false) := by
  refine returnsInHanded_of_change (C := Try.checked) own_ started (by kernel_rfl) Try.func8
    (ChangeSpec.witness6 (enc := enc) (C := Try.checked) false ⟨#[], #[.agg #[.slice none 0 0, .int .i64 0, .int .i64 0, .slice none 0 0, .slice none 0 0], .agg #[.slice none 0 0, .int .i64 0, .int .i64 0, .slice none 0 0, .slice none 0 0]], []⟩ 8 (by kernel_rfl) (by kernel_rfl) (by kernel_rfl) (by kernel_rfl)) ?_
  intro W base args ds gs before hval0 hW hcnd _
  have hval : ∀ (j : Nat) t v, Try.f8.params[j]? = some t → args[j]? = some v → Value.okWide Try.prog W .any base t v := hval0
  have hW' := hW
  obtain ⟨p, q, hA0, hV, rfl, hfz, hnd⟩ := hW
  have hA : DataW.TrodAll enc Try.prog W 0 (fun _ => true) true Try.f8.params.toList args.toList ds p := hA0
  rw [Try.params8] at hA hval
  obtain ⟨v0, vs0, d0, ds0, p0, q0, hargs, rfl, rfl, h0, r0⟩ := trodAll_cons hA
  obtain ⟨v1, vs1, d1, ds1, p1, q1, rfl, rfl, rfl, h1, r1⟩ := trodAll_cons r0
  obtain ⟨rfl, rfl, rfl⟩ := trodAll_nil r1
  obtain rfl : args = #[v0, v1] := by cases args; simp_all
  have w0 := open_world (hval 0 45 v0 rfl rfl) h0
  have w1 := open_world (hval 1 45 v1 rfl rfl) h1
  refine (walk W v0 w0 v1 w1).mono fun e W' ⟨he, hb⟩ => ?_
  subst he
  exact ⟨_, rfl, law_post laidOut (by kernel_rfl) rfl rfl Try.underlying4 (fun gs' h => by subst h; rfl) hW' hb⟩

theorem closed_ : joinedFacts Try.prog 8 Try.f8 Rows.fnExactSameWorldSpec Rows.fnExactSameWorldRow = true := by
  unfold joinedFacts
  rw [mayEnter_, liftsFinal_, make_, laidOut_, mapsRowed_, stopsHeard_]
  kernel_rfl

theorem proved : Rows.FnExactSameWorldSaid :=
  OpenClaim.holds_of_wide 8 Try.f8 rfl rfl rfl rfl rfl rfl rfl ⟨rfl, rfl, rfl, rfl, rfl⟩ rfl rfl rfl rfl rfl (by kernel_rfl) Try.func8 closed_
    (of_decide_eq_true (by kernel_rfl)) (by unfold Func.isWrapper; first | (rw [if_pos (by decide +kernel)]; kernel_rfl) | (rw [if_neg (by decide +kernel)]; exact ⟨rfl, rfl⟩))
    (fun os started H enc _ => lifted os started H enc)
end Go.Proofs.Ytkcknikaidbeoaa.fnExactSameWorld
