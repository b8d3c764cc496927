/- For every input the law FnExactPackTrack returns true and leaves what was in memory as it was. No condition. -/
import Derived.Test.YtmnddbgblhmlbaaTrk
import Derived.Test.YtmnddbgblhmlbaaFrame
import Derived.Test.YtmnddbgblhmlbaaOrd
namespace Go.Proofs.Ytmnddbgblhmlbaa.fnExactPackTrack
open Go.ChangeShapes Go.WideShapes Go.ChangeAt Go.RowKit
open Go.ChangeMaps (open_string shut_string)
set_option linter.unusedVariables false

set_option maxHeartbeats 1000000 in
theorem walk (w : World) (a0 : Value) (w0 : Arg_ints w a0) :
    Calls Try.prog 9 #[a0] w fun e w' => e = .returned (.bool true) ∧ Below w.heap.size w w' := by
  obtain ⟨l, hat, hwf⟩ := w0
  by_cases hbig : (1048576 : Int) < (l.length : Int)
  · obtain ⟨ao, cap, rfl, _⟩ := hat.cell
    go_enter Try.func9, Try.ntmps9
    go_wp2_with fail
    go_ret
    exact ⟨rfl, Below.refl _ _⟩
  have hm : l.length ≤ 1048576 := by omega
  have hat0 := hat
  obtain ⟨ao, cap, rfl, hc⟩ := hat.cell
  clear hc
  go_enter Try.func9, Try.ntmps9
  go_wp2_with fail
  refine (toints_ret _ hat0 hm).mono ?_
  rintro e wa ⟨u, rfl, hu, ha⟩
  go_wp2_with fail
  refine (trk_spec _ hu.at_ hm).mono ?_
  rintro e wb ⟨rfl, hb⟩
  have hb1 := ha.trans (hb.mono ha.size)
  have hat2 := hat0.below hb1
  go_wp2_with fail
  refine (toints_ret _ hat2 hm).mono ?_
  rintro e wc ⟨x, rfl, hx, hcw⟩
  have hc1 := hb1.trans (hcw.mono hb1.size)
  go_wp2_with fail
  refine (trk_impl _ hx.at_ hm).mono ?_
  rintro e wd ⟨rfl, hd⟩
  have hd1 := hc1.trans (hd.mono hc1.size)
  have hx2 : Own wd _ 1 x _ _ := hx.below hd (fun g hg => (hx.ge g hg).2)
  have hat3 := hat0.below hd1
  go_wp2_with fail
  refine (toints_ret _ hat3 hm).mono ?_
  rintro e we ⟨y, rfl, hy, he⟩
  have he1 := hd1.trans (he.mono hd1.size)
  have hx3 : Own we _ 1 x _ _ := hx2.below he (fun g hg => (hx2.ge g hg).2)
  go_wp2_with fail
  refine (eqints_ret _ hx3.at_ hy.at_ (by omega)).mono ?_
  rintro e wf ⟨rfl, kd, rfl⟩
  go_wp2_with fail
  go_ret
  exact ⟨rfl, below_drewN he1 kd⟩

set_option maxRecDepth 100000 in
theorem lifted (os : Os) (started : os.Started) (H : Type) (enc : TypeId × Value → H) :
    ReturnsInHanded {} Try.checked os 9 .any (Rows.fnExactPackTrackSpec.pre6 enc Try.prog Try.f9 Rows.fnExactPackTrackRow.domain false) (Rows.fnExactPackTrackSpec.post enc Try.prog Try.f9 false true false false) := by
  refine returnsInHanded_of_change (C := Try.checked) own_ started (by kernel_rfl) Try.func9
    (ChangeSpec.witness6 (enc := enc) (C := Try.checked) false ⟨#[], #[.slice none 0 0], []⟩ 8 (by kernel_rfl) (by kernel_rfl) (by kernel_rfl) (by kernel_rfl)) ?_
  intro W base args ds gs before hval0 hW hcnd _
  have hval : ∀ (j : Nat) t v, Try.f9.params[j]? = some t → args[j]? = some v → Value.okWide Try.prog W .any base t v := hval0
  have hW' := hW
  obtain ⟨p, q, hA0, hV, rfl, hfz, hnd⟩ := hW
  have hA : DataW.TrodAll enc Try.prog W 0 (fun _ => true) true Try.f9.params.toList args.toList ds p := hA0
  rw [Try.params9] at hA hval
  obtain ⟨v0, vs0, d0, ds0, p0, q0, hargs, rfl, rfl, h0, r0⟩ := trodAll_cons hA
  obtain ⟨rfl, rfl, rfl⟩ := trodAll_nil r0
  obtain rfl : args = #[v0] := by cases args; simp_all
  have w0 := open_ints (hval 0 27 v0 rfl rfl) h0
  refine (walk W v0 w0).mono fun e W' ⟨he, hb⟩ => ?_
  subst he
  exact ⟨_, rfl, law_post laidOut (by kernel_rfl) rfl rfl Try.underlying4 (fun gs' h => by subst h; rfl) hW' hb⟩

theorem closed_ : joinedFacts Try.prog 9 Try.f9 Rows.fnExactPackTrackSpec Rows.fnExactPackTrackRow = true := by
  unfold joinedFacts
  rw [mayEnter_, liftsFinal_, make_, laidOut_, mapsRowed_, stopsHeard_]
  kernel_rfl

theorem proved : Rows.FnExactPackTrackSaid :=
  OpenClaim.holds_of_wide 9 Try.f9 rfl rfl rfl rfl rfl rfl rfl ⟨rfl, rfl, rfl, rfl, rfl⟩ rfl rfl rfl rfl rfl (by kernel_rfl) Try.func9 closed_
    (of_decide_eq_true (by kernel_rfl)) (by unfold Func.isWrapper; first | (rw [if_pos (by decide +kernel)]; kernel_rfl) | (rw [if_neg (by decide +kernel)]; exact ⟨rfl, rfl⟩))
    (fun os started H enc _ => lifted os started H enc)
end Go.Proofs.Ytmnddbgblhmlbaa.fnExactPackTrack
