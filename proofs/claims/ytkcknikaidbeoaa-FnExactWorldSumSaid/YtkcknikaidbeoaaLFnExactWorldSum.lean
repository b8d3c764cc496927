/- For every input the law FnExactWorldSum returns true and leaves what was in memory as it was. No condition. -/
import Derived.Test.YtkcknikaidbeoaaWsm
import Derived.Deep.RegionWith
import Derived.Deep.DeepCutAuto
import Derived.Deep.CutRange
import Derived.Test.YtkcknikaidbeoaaFrame
import Derived.Test.YtkcknikaidbeoaaOrd
namespace Go.Proofs.Ytkcknikaidbeoaa.fnExactWorldSum
open Go.ChangeShapes Go.WideShapes Go.ChangeAt Go.RowKit
open Go.ChangeMaps (open_string shut_string)
set_option linter.unusedVariables false

set_option maxRecDepth 100000 in
set_option maxHeartbeats 8000000 in
theorem walk (w : World) (a0 : Value) (w0 : Arg_world w a0) :
    Calls Try.prog 14 #[a0] w fun e w' => e = .returned (.bool true) ∧ Below w.heap.size w w' := by
  obtain ⟨u, us, ub, X, rfl, hat, hwf⟩ := w0
  unfold wV
  have hone := And.intro (slice_one hat.r) (And.intro (slice_one hat.s) (slice_one hat.b))
  have HZ : ∀ wx, Below w.heap.size w wx → Calls Try.prog 41 #[.agg #[u, .int .i64 X.tick, .int .i64 X.seed, us, ub], .int .i64 1048576] wx fun e w' => ∃ z : Int, e = .returned (.int .i64 z) ∧ (z = -1 ∨ (0 ≤ z ∧ z ≤ 1048576 ∧ WSmall X)) ∧ Below wx.heap.size wx w' := fun wx hx => szworld_ret 1048576 wx (hat.below hx) hwf.r (by omega) (by omega)
  obtain ⟨R, hR⟩ : ∃ R, sumW X = R := ⟨_, rfl⟩
  have HS : ∀ (x xs xb : Value) (wx : World), WAt wx x xs xb X → WSmall X → Calls Try.prog 58 #[.agg #[x, .int .i64 X.tick, .int .i64 X.seed, xs, xb]] wx fun e w' => e = .returned (.int .i64 R) ∧ Below wx.heap.size wx w' := fun x xs xb wx hx hm => by rw [← hR]; exact wsum_spec wx hx hm
  have HI : ∀ (x xs xb : Value) (wx : World), WAt wx x xs xb X → WSmall X → Calls Try.prog 59 #[.agg #[x, .int .i64 X.tick, .int .i64 X.seed, xs, xb]] wx fun e w' => e = .returned (.int .i64 R) ∧ Below wx.heap.size wx w' := fun x xs xb wx hx hm => by rw [← hR]; exact wsum_impl wx hx hm hwf.b
  have HT : ∀ wx, Below w.heap.size w wx → WSmall X → Calls Try.prog 43 #[.agg #[u, .int .i64 X.tick, .int .i64 X.seed, us, ub]] wx fun e w' => ∃ x xs xb, e = .returned (.agg #[x, .int .i64 X.tick, .int .i64 X.seed, xs, xb]) ∧ WOwn w' wx.heap.size x xs xb X ∧ Below wx.heap.size wx w' := fun wx hx hm => toworld_ret wx (hat.below hx) hm
  clear hR hwf
  go_enter Try.func14, Try.ntmps14
  go_upto_region 2 with (fail)
  generalize hw1 : w.alloc _ = w1
  have hb1 : Below w.heap.size w w1 := by rw [← hw1]; exact (Below.refl _ _).alloc (Nat.le_refl _) _
  have hA1 : WBlk w1 w.heap.size u X.tick X.seed us ub := by rw [← hw1]; exact WBlk.new w _ u X.tick X.seed us ub
  clear hw1
  go_wp2_with (with_reducible refine load_lwld (op := ⟨some 7, _, _, _, _, _⟩) rfl _ rfl w.heap.size rfl u X.tick X.seed us ub hA1.range ?_)
  refine (HZ _ hb1).mono ?_
  rintro e wa ⟨z, rfl, hz, ha⟩
  have hb2 := hb1.trans (ha.mono hb1.size)
  have hA2 := hA1.below ha hA1.lt
  clear ha hA1 hb1 HZ
  rcases hz with rfl | ⟨hz0, _, hm⟩
  · go_wp2_with fail
    go_ret
    exact ⟨rfl, hb2⟩
  go_wp2_with (with_reducible refine load_lwld (op := ⟨some 12, _, _, _, _, _⟩) rfl _ rfl w.heap.size rfl u X.tick X.seed us ub hA2.range ?_)
  refine (HT _ hb2 hm).mono ?_
  rintro e wb ⟨p, ps, pb, rfl, hx, hb⟩
  have hb3 := hb2.trans (hb.mono hb2.size)
  have hA3 := hA2.below hb hA2.lt
  clear hb hA2 hb2
  go_wp2_with fail
  refine (HS _ _ _ _ hx.at_ hm).mono ?_
  rintro e wc ⟨rfl, hc⟩
  have hb4 := hb3.trans (hc.mono hb3.size)
  have hA4 := hA3.below hc hA3.lt
  clear hc hA3 hb3 hx
  go_wp2_with (with_reducible refine load_lwld (op := ⟨some 15, _, _, _, _, _⟩) rfl _ rfl w.heap.size rfl u X.tick X.seed us ub hA4.range ?_)
  refine (HT _ hb4 hm).mono ?_
  rintro e wd ⟨x, xs, xb, rfl, hx, hd⟩
  have hb5 := hb4.trans (hd.mono hb4.size)
  have hA5 := hA4.below hd hA4.lt
  have ox := slice_one hx.at_.r
  have oxs := slice_one hx.at_.s
  have oxb := slice_one hx.at_.b
  clear hd hA4 hb4
  go_upto_region 7 with (with_reducible refine store_wld (op := ⟨none, _, _, _, _, _⟩) rfl _ _ rfl wd.heap.size rfl x X.tick X.seed xs xb rfl (zwthere _ _) ox oxs oxb ?_)
  have hq := newW5 hb5 hb5.size 50 x X.tick X.seed xs xb
  generalize hwn : World.setCells (World.alloc wd _) _ _ _ = we
  rw [hwn] at hq
  obtain ⟨hB6, hb6, hk⟩ := hq
  have hA6 := hA5.below hk hA5.lt
  have hx6 := hx.below hk
  clear hwn hk hA5 hb5 hx
  go_wp2_with (with_reducible refine load_wld (op := ⟨some 17, _, _, _, _, _⟩) rfl _ rfl wd.heap.size rfl x X.tick X.seed xs xb hB6.range ?_)
  refine (HI _ _ _ _ hx6.at_ hm).mono ?_
  rintro e wf ⟨rfl, hf⟩
  have hb7 := hb6.trans (hf.mono hb6.size)
  have hA7 := hA6.below hf hA6.lt
  have hB7 := hB6.below hf hB6.lt
  have hx7 := hx6.below hf
  clear hf hA6 hB6 hb6 hx6 HS HI
  have hbD := hb7.drew
  have hxD := hx7.drew
  have hAD := hA7.drew
  have hBD := hB7.drew
  clear hb7 hx7 hA7 hB7
  obtain ⟨_, c0, c1, c2, c3, c4, _⟩ := id hAD
  obtain ⟨_, d0, d1, d2, d3, d4, _⟩ := id hBD
  go_wp2_with fail
  go_region_with (first
    | (go_at_call 43; (with_reducible refine (HT _ hbD hm).mono ?_); rintro e wg ⟨y, ys, yb, rfl, hy, hg⟩; have hblg := hbD.trans (hg.mono hbD.size); have hxg := hxD.below hg; have hBg := hBD.below hg hBD.lt; obtain ⟨_, e0, e1, e2, e3, e4, _⟩ := id hBg; clear hg)
    | (go_at_call 45; (with_reducible refine (eqworld_ret _ hxg.at_ hy.at_ hm).mono ?_); rintro e wh ⟨rfl, hh⟩; have hblh := hblg.trans (hh.mono hblg.size)))
  all_goals
    go_wp2_with fail
    go_ret
    exact ⟨rfl, hblh⟩

set_option maxRecDepth 100000 in
theorem lifted (os : Os) (started : os.Started) (H : Type) (enc : TypeId × Value → H) :
    ReturnsInHanded {} Try.checked os 14 .any (Rows.fnExactWorldSumSpec.pre6 enc Try.prog Try.f14 Rows.fnExactWorldSumRow.domain false) (Rows.fnExactWorldSumSpec.post enc Try.prog Try.f14 false true false false) := by
  refine returnsInHanded_of_change (C := Try.checked) own_ started (by kernel_rfl) Try.func14
    (ChangeSpec.witness6 (enc := enc) (C := Try.checked) false ⟨#[], #[.agg #[.slice none 0 0, .int .i64 0, .int .i64 0, .slice none 0 0, .slice none 0 0]], []⟩ 8 (by kernel_rfl) (by kernel_rfl) (by kernel_rfl) (by kernel_rfl)) ?_
  intro W base args ds gs before hval0 hW hcnd _
  have hval : ∀ (j : Nat) t v, Try.f14.params[j]? = some t → args[j]? = some v → Value.okWide Try.prog W .any base t v := hval0
  have hW' := hW
  obtain ⟨p, q, hA0, hV, rfl, hfz, hnd⟩ := hW
  have hA : DataW.TrodAll enc Try.prog W 0 (fun _ => true) true Try.f14.params.toList args.toList ds p := hA0
  rw [Try.params14] at hA hval
  obtain ⟨v0, vs0, d0, ds0, p0, q0, hargs, rfl, rfl, h0, r0⟩ := trodAll_cons hA
  obtain ⟨rfl, rfl, rfl⟩ := trodAll_nil r0
  obtain rfl : args = #[v0] := by cases args; simp_all
  have w0 := open_world (hval 0 45 v0 rfl rfl) h0
  refine (walk W v0 w0).mono fun e W' ⟨he, hb⟩ => ?_
  subst he
  exact ⟨_, rfl, law_post laidOut (by kernel_rfl) rfl rfl Try.underlying4 (fun gs' h => by subst h; rfl) hW' hb⟩

theorem closed_ : joinedFacts Try.prog 14 Try.f14 Rows.fnExactWorldSumSpec Rows.fnExactWorldSumRow = true := by
  unfold joinedFacts
  rw [mayEnter_, liftsFinal_, make_, laidOut_, mapsRowed_, stopsHeard_]
  kernel_rfl

theorem proved : Rows.FnExactWorldSumSaid :=
  OpenClaim.holds_of_wide 14 Try.f14 rfl rfl rfl rfl rfl rfl rfl ⟨rfl, rfl, rfl, rfl, rfl⟩ rfl rfl rfl rfl rfl (by kernel_rfl) Try.func14 closed_
    (of_decide_eq_true (by kernel_rfl)) (by unfold Func.isWrapper; first | (rw [if_pos (by decide +kernel)]; kernel_rfl) | (rw [if_neg (by decide +kernel)]; exact ⟨rfl, rfl⟩))
    (fun os started H enc _ => lifted os started H enc)
end Go.Proofs.Ytkcknikaidbeoaa.fnExactWorldSum
