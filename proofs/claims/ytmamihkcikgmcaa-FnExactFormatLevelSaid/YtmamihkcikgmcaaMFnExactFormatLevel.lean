/- For every input the law FnExactFormatLevel returns true and leaves what was in memory as it was. No condition. -/
import Derived.Test.YtmamihkcikgmcaaKE1
import Derived.Test.YtmamihkcikgmcaaKA
import Derived.Deep.RegionWith
import Derived.Test.YtmamihkcikgmcaaOrd
namespace Go.Proofs.Ytmamihkcikgmcaa.fnExactFormatLevel
open Go.ChangeShapes Go.WideShapes Go.ChangeAt Go.RowKit
open Go.ChangeMaps (open_string shut_string)
set_option linter.unusedVariables false

set_option maxHeartbeats 4000000 in
theorem walk (w : World) (a0 : Value) (w0 : Arg_level w a0) :
    Calls Try.prog 3 #[a0] w fun e w' => e = .returned (.bool true) ∧ Below w.heap.size w w' := by
  obtain ⟨u, rfl, l, hat, hwf⟩ := w0
  have hat0 := hat
  have hmx : l.length ≤ maxLen := by
    obtain ⟨_, ao, cap, _, hn, hmx, _⟩ := hat
    omega
  unfold maxLen at hmx hwf
  have hb1 : ∀ A : Obj, Below w.heap.size w (w.alloc A) := fun A => (Below.refl _ _).alloc (Nat.le_refl _) _
  have hs1 : ∀ A : Obj, (w.alloc A).heap.size = w.heap.size + 1 := fun A => by simp
  have HZ : ∀ wx, At wx 1 u l.length (l.map Value.string) → Calls Try.prog 13 #[.agg #[u], .int .i64 1048576] wx fun e w' => e = .returned (.int .i64 (szS l 1048576)) ∧ Below wx.heap.size wx w' := fun wx hx =>
    szlevel_ret (u := u) (l := l) 1048576 wx hx (by omega) (fun s hs => by have := hwf s hs; omega) (by omega) (by omega)
  rcases szS_bd l 1048576 (by omega) with hneg | ⟨hneg, _, hm, hz⟩
  · simp only [hneg] at HZ
    obtain ⟨ao, cap, rfl, hc⟩ := hat.cellS
    clear hc hat
    go_enter Try.func3, Try.ntmps3
    go_wp2_with fail
    refine (HZ _ (hat0.below (hb1 _))).mono ?_
    rintro e wa ⟨rfl, ha⟩
    go_wp2_with fail
    go_ret
    exact ⟨rfl, (hb1 _).trans (ha.mono (by simp))⟩
  replace hneg : ¬ (szS l 1048576 < 0) := by omega
  generalize szS l 1048576 = Z at *
  replace hm : l.length ≤ 1048576 := by omega
  replace hz : ∀ s ∈ l, s.size ≤ 1048576 := fun s hs => by have := hz s hs; omega
  have HS : ∀ (v : Value) (wx : World), At wx 1 v l.length (l.map Value.string) → Calls Try.prog 14 #[.agg #[v]] wx fun e w' => e = .returned (.string (fmlT l)) ∧ Below wx.heap.size wx w' := fun v wx hx => fml_spec wx hx hm hz
  have HI : ∀ (v : Value) (wx : World), At wx 1 v l.length (l.map Value.string) → Calls Try.prog 16 #[.agg #[v]] wx fun e w' => e = .returned (.string (fmlT l)) ∧ Below wx.heap.size wx w' := fun v wx hx => fml_impl wx hx hm hz
  generalize fmlT l = R at HS HI
  obtain ⟨ao, cap, rfl, hc⟩ := hat.cellS
  clear hc hat
  go_enter Try.func3, Try.ntmps3
  go_wp2_with fail
  generalize hw1 : w.alloc _ = w1
  have hbl1 : Below w.heap.size w w1 := by rw [← hw1]; exact hb1 _
  have hz1 : w1.heap.size = w.heap.size + 1 := by rw [← hw1]; exact hs1 _
  have c1 : w1.cell? ⟨w.heap.size, 0, none⟩ = some (.slice ao l.length cap) := by rw [← hw1]; exact World.cell?_alloc_new _ _ _ 0
  clear hw1
  refine (HZ _ (hat0.below hbl1)).mono ?_
  rintro e wa ⟨rfl, ha⟩
  have hbla := hbl1.trans (ha.mono hbl1.size)
  have hza := ha.size
  have ca : wa.cell? ⟨w.heap.size, 0, none⟩ = some (.slice ao l.length cap) := (ha.cell (by show w.heap.size < _; omega)).trans c1
  go_wp2_with fail
  refine (tolevel_ret _ (hat0.below hbla) hm).mono ?_
  rintro e wb ⟨x0, rfl, hx0, hb⟩
  have hblb := hbla.trans (hb.mono hbla.size)
  have hzb := hb.size
  have cb : wb.cell? ⟨w.heap.size, 0, none⟩ = some (.slice ao l.length cap) := (hb.cell (by show w.heap.size < _; omega)).trans ca
  go_wp2_with fail
  refine (HS _ _ hx0.at_).mono ?_
  rintro e wc ⟨rfl, hcw⟩
  have hblc := hblb.trans (hcw.mono hblb.size)
  have hzc := hcw.size
  have cc : wc.cell? ⟨w.heap.size, 0, none⟩ = some (.slice ao l.length cap) := (hcw.cell (by show w.heap.size < _; omega)).trans cb
  go_wp2_with fail
  refine (tolevel_ret _ (hat0.below hblc) hm).mono ?_
  rintro e wd ⟨x, rfl, hx, hd⟩
  obtain ⟨xo, xc, rfl⟩ := hx.slice_
  have hbld := hblc.trans (hd.mono hblc.size)
  have hzd := hd.size
  have cd : wd.cell? ⟨w.heap.size, 0, none⟩ = some (.slice ao l.length cap) := (hd.cell (by show w.heap.size < _; omega)).trans cc
  go_wp2_with fail
  generalize hwe : wd.alloc _ = we
  have hble : Below w.heap.size w we := by rw [← hwe]; exact hbld.alloc hbld.size _
  have hze : we.heap.size = wd.heap.size + 1 := by rw [← hwe]; simp
  have ce : we.cell? ⟨w.heap.size, 0, none⟩ = some (.slice ao l.length cap) := by
    rw [← hwe, World.cell?_alloc_past _ _ _ (by omega)]
    exact cd
  have c5 : we.cell? ⟨wd.heap.size, 0, none⟩ = some (.slice xo l.length xc) := by rw [← hwe]; exact World.cell?_alloc_new _ _ _ 0
  have hxe : Own we wc.heap.size 1 (.slice xo l.length xc) l.length (l.map Value.string) := by rw [← hwe]; exact hx.alloc _
  clear hwe
  refine (HI _ _ hxe.at_).mono ?_
  rintro e wf ⟨rfl, hf⟩
  have hblf := hble.trans (hf.mono hble.size)
  have hzf := hf.size
  have cf : wf.cell? ⟨w.heap.size, 0, none⟩ = some (.slice ao l.length cap) := (hf.cell (by show w.heap.size < _; omega)).trans ce
  have c5f : wf.cell? ⟨wd.heap.size, 0, none⟩ = some (.slice xo l.length xc) := (hf.cell (by show wd.heap.size < _; omega)).trans c5
  have hxf : Own wf _ 1 (.slice xo l.length xc) _ _ := hxe.below hf (fun g hg => (hxe.ge g hg).2)
  have hblD : Below w.heap.size w wf.drew := hblf.drew
  have hatD := hat0.below hblD
  have hxD := hxf.drew
  clear hatD
  go_wp2_with fail
  go_region_with (first | (go_at_call 15; (with_reducible refine (tolevel_ret _ (hat0.below hblD) hm).mono ?_); rintro e wg ⟨y, rfl, hy, hg⟩; obtain ⟨yo, yc, rfl⟩ := hy.slice_; have hblg := hblD.trans (hg.mono hblD.size); have cg : wg.cell? ⟨w.heap.size, 0, none⟩ = some (.slice ao l.length cap) := (hg.cell (by show w.heap.size < wf.heap.size; omega)).trans cf; have c5g : wg.cell? ⟨wd.heap.size, 0, none⟩ = some (.slice xo l.length xc) := (hg.cell (by show wd.heap.size < wf.heap.size; omega)).trans c5f; have hxg : Own wg _ 1 (.slice xo l.length xc) _ _ := hxD.below hg (fun g hg => (hxD.ge g hg).2)) | (go_at_call 17; (with_reducible refine (eqlevel_ret _ hxg.at_ hy.at_ (by omega)).mono ?_); rintro e wh ⟨rfl, hh⟩; have hblh := hblg.trans (hh.mono hblg.size)))
  all_goals
    go_wp2_with fail
    go_ret
    exact ⟨rfl, hblh⟩

set_option maxRecDepth 100000 in
theorem lifted (os : Os) (started : os.Started) (H : Type) (enc : TypeId × Value → H) :
    ReturnsInHanded {} Try.checked os 3 .any (Rows.fnExactFormatLevelSpec.pre6 enc Try.prog Try.f3 Rows.fnExactFormatLevelRow.domain false) (Rows.fnExactFormatLevelSpec.post enc Try.prog Try.f3 false true false false) := by
  refine returnsInHanded_of_change (C := Try.checked) own_ started (by kernel_rfl) Try.func3
    (ChangeSpec.witness6 (enc := enc) (C := Try.checked) false ⟨#[], #[.agg #[.slice none 0 0]], []⟩ 8 (by kernel_rfl) (by kernel_rfl) (by kernel_rfl) (by kernel_rfl)) ?_
  intro W base args ds gs before hval0 hW hcnd _
  have hval : ∀ (j : Nat) t v, Try.f3.params[j]? = some t → args[j]? = some v → Value.okWide Try.prog W .any base t v := hval0
  have hW' := hW
  obtain ⟨p, q, hA0, hV, rfl, hfz, hnd⟩ := hW
  have hA : DataW.TrodAll enc Try.prog W 0 (fun _ => true) true Try.f3.params.toList args.toList ds p := hA0
  rw [Try.params3] at hA hval
  obtain ⟨v0, vs0, d0, ds0, p0, q0, hargs, rfl, rfl, h0, r0⟩ := trodAll_cons hA
  obtain ⟨rfl, rfl, rfl⟩ := trodAll_nil r0
  obtain rfl : args = #[v0] := by cases args; simp_all
  have w0 := open_level (hval 0 24 v0 rfl rfl) h0
  refine (walk W v0 w0).mono fun e W' ⟨he, hb⟩ => ?_
  subst he
  exact ⟨_, rfl, law_post laidOut (by kernel_rfl) rfl rfl Try.underlying4 (fun gs' h => by subst h; rfl) hW' hb⟩

theorem closed_ : joinedFacts Try.prog 3 Try.f3 Rows.fnExactFormatLevelSpec Rows.fnExactFormatLevelRow = true := by
  unfold joinedFacts
  rw [mayEnter_, liftsFinal_, make_, laidOut_, mapsRowed_, stopsHeard_]
  kernel_rfl

theorem proved : Rows.FnExactFormatLevelSaid :=
  OpenClaim.holds_of_wide 3 Try.f3 rfl rfl rfl rfl rfl rfl rfl ⟨rfl, rfl, rfl, rfl, rfl⟩ rfl rfl rfl rfl rfl (by kernel_rfl) Try.func3 closed_
    (of_decide_eq_true (by kernel_rfl)) (by unfold Func.isWrapper; first | (rw [if_pos (by decide +kernel)]; kernel_rfl) | (rw [if_neg (by decide +kernel)]; exact ⟨rfl, rfl⟩))
    (fun os started H enc _ => lifted os started H enc)
end Go.Proofs.Ytmamihkcikgmcaa.fnExactFormatLevel
