/- For every input the law FnExactShotOf returns true and leaves what was in memory as it was. No condition. -/
import Derived.Test.YtgkfldogjhegjaaSho
import Derived.Test.YtgkfldogjhegjaaFrame
import Derived.Test.YtgkfldogjhegjaaOrd
namespace Go.Proofs.Ytgkfldogjhegjaa.fnExactShotOf
open Go.ChangeShapes Go.WideShapes Go.ChangeAt Go.RowKit
open Go.ChangeMaps (open_string shut_string)
set_option linter.unusedVariables false

set_option maxHeartbeats 1000000 in
theorem walk (w : World) (a0 : Value) (w0 : Arg_body w a0) :
    Calls Try.prog 5 #[a0] w fun e w' => e = .returned (.bool true) ∧ Below w.heap.size w w' := by
  obtain ⟨k0, k1, k2, k3, k4, k5, k6, k7, k8, rfl⟩ := w0
  have hS : ∃ s0 s1 s2 s3 s4 s5 s6 s7 s8 : Int, shotT k1 k2 k3 k6 = bod s0 s1 s2 s3 s4 s5 s6 s7 s8 := by
    unfold shotT
    split
    · exact ⟨_, _, _, _, _, _, _, _, _, rfl⟩
    · exact ⟨_, _, _, _, _, _, _, _, _, rfl⟩
  obtain ⟨s0, s1, s2, s3, s4, s5, s6, s7, s8, hS⟩ := hS
  go_enter Try.func5, Try.ntmps5
  go_wp2_with fail
  refine (tobody_ret _ _ _ _ _ _ _ _ _ _).mono ?_
  rintro e wa ⟨rfl, ha⟩
  go_wp2_with fail
  refine (shot_spec _ _ _ _ _ _ _ _ _ _).mono ?_
  rintro e wb ⟨rfl, hb⟩
  go_wp2_with fail
  refine (tobody_ret _ _ _ _ _ _ _ _ _ _).mono ?_
  rintro e wc ⟨rfl, hc⟩
  go_wp2_with fail
  refine (shot_impl _ _ _ _ _ _ _ _ _ _).mono ?_
  rintro e wd ⟨rfl, hd⟩
  rw [hS]
  go_wp2_with fail
  refine (eqbody_ret _ _ _ _ _ _ _ _ _ _).mono ?_
  rintro e we ⟨rfl, he⟩
  go_wp2_with fail
  go_ret
  have h1 := ha.size
  have h2 := hb.size
  have h3 := hc.size
  have h4 := hd.size
  exact ⟨rfl, ha.trans ((hb.mono (by omega)).trans ((hc.mono (by omega)).trans ((hd.mono (by omega)).trans (he.mono (by omega)))))⟩

set_option maxRecDepth 100000 in
theorem lifted (os : Os) (started : os.Started) (H : Type) (enc : TypeId × Value → H) :
    ReturnsInHanded {} Try.checked os 5 .any (Rows.fnExactShotOfSpec.pre6 enc Try.prog Try.f5 Rows.fnExactShotOfRow.domain false) (Rows.fnExactShotOfSpec.post enc Try.prog Try.f5 false true false false) := by
  refine returnsInHanded_of_change (C := Try.checked) own_ started (by kernel_rfl) Try.func5
    (ChangeSpec.witness6 (enc := enc) (C := Try.checked) false ⟨#[], #[.agg #[.int .i64 0, .int .i64 0, .int .i64 0, .int .i64 0, .int .i64 0, .int .i64 0, .int .i64 0, .int .i64 0, .int .i64 0]], []⟩ 8 (by kernel_rfl) (by kernel_rfl) (by kernel_rfl) (by kernel_rfl)) ?_
  intro W base args ds gs before hval0 hW hcnd _
  have hval : ∀ (j : Nat) t v, Try.f5.params[j]? = some t → args[j]? = some v → Value.okWide Try.prog W .any base t v := hval0
  have hW' := hW
  obtain ⟨p, q, hA0, hV, rfl, hfz, hnd⟩ := hW
  have hA : DataW.TrodAll enc Try.prog W 0 (fun _ => true) true Try.f5.params.toList args.toList ds p := hA0
  rw [Try.params5] at hA hval
  obtain ⟨v0, vs0, d0, ds0, p0, q0, hargs, rfl, rfl, h0, r0⟩ := trodAll_cons hA
  obtain ⟨rfl, rfl, rfl⟩ := trodAll_nil r0
  obtain rfl : args = #[v0] := by cases args; simp_all
  have w0 := open_body (hval 0 25 v0 rfl rfl) h0
  refine (walk W v0 w0).mono fun e W' ⟨he, hb⟩ => ?_
  subst he
  exact ⟨_, rfl, law_post laidOut (by kernel_rfl) rfl rfl Try.underlying4 (fun gs' h => by subst h; rfl) hW' hb⟩

theorem closed_ : joinedFacts Try.prog 5 Try.f5 Rows.fnExactShotOfSpec Rows.fnExactShotOfRow = true := by
  unfold joinedFacts
  rw [mayEnter_, liftsFinal_, make_, laidOut_, mapsRowed_, stopsHeard_]
  kernel_rfl

theorem proved : Rows.FnExactShotOfSaid :=
  OpenClaim.holds_of_wide 5 Try.f5 rfl rfl rfl rfl rfl rfl rfl ⟨rfl, rfl, rfl, rfl, rfl⟩ rfl rfl rfl rfl rfl (by kernel_rfl) Try.func5 closed_
    (of_decide_eq_true (by kernel_rfl)) (by unfold Func.isWrapper; first | (rw [if_pos (by decide +kernel)]; kernel_rfl) | (rw [if_neg (by decide +kernel)]; exact ⟨rfl, rfl⟩))
    (fun os started H enc _ => lifted os started H enc)
end Go.Proofs.Ytgkfldogjhegjaa.fnExactShotOf
