/- For every input the law FnExactSplitFields returns true and leaves what was in memory as it was. No condition. -/
import Derived.Test.YtmnddbgblhmlbaaSpl
import Derived.Test.YtmnddbgblhmlbaaFrame
import Derived.Test.YtmnddbgblhmlbaaOrd
namespace Go.Proofs.Ytmnddbgblhmlbaa.fnExactSplitFields
open Go.ChangeShapes Go.WideShapes Go.ChangeAt Go.RowKit
open Go.ChangeMaps (open_string shut_string)
set_option linter.unusedVariables false

theorem splT_len (s : ByteArray) : (splT s).1.length ≤ 24 := by
  unfold splT
  split
  · rename_i h
    unfold splOk at h
    simp only [Bool.and_eq_true, decide_eq_true_eq] at h
    exact h.2
  · exact Nat.zero_le _

set_option maxHeartbeats 1000000 in
theorem walk (w : World) (a0 : ByteArray) (w0 : a0.size ≤ maxLen) :
    Calls Try.prog 8 #[.string a0] w fun e w' => e = .returned (.bool true) ∧ Below w.heap.size w w' := by
  by_cases hbig : (1048576 : Int) < (a0.size : Int)
  · go_enter Try.func8, Try.ntmps8
    go_wp2_with fail
    go_ret
    exact ⟨rfl, Below.refl _ _⟩
  have hS := fun wx => spl_spec a0 wx (by omega)
  have hI := fun wx => spl_impl a0 wx (by omega)
  have hl := splT_len a0
  obtain ⟨l, b, hE⟩ : ∃ l b, splT a0 = (l, b) := ⟨_, _, rfl⟩
  simp only [hE] at hS hI hl
  clear hE
  go_enter Try.func8, Try.ntmps8
  go_wp2_with fail
  refine (hS _).mono ?_
  rintro e wa ⟨u0, rfl, hu0, ha⟩
  go_wp2_with fail
  refine (hI _).mono ?_
  rintro e wb ⟨u1, rfl, hu1, hb⟩
  have hu0b : Own wb _ 1 u0 _ _ := hu0.below hb (fun g hg => (hu0.ge g hg).2)
  have hblb := ha.trans (hb.mono ha.size)
  have hsa := ha.size
  have hsb := hb.size
  go_wp2_with fail
  refine (eqstrs_ret _ hu1.at_ hu0b.at_ (by omega)).mono ?_
  rintro e wc ⟨rfl, kd, rfl⟩
  have hu0c := hu0b.drewN kd
  have hu1c := hu1.drewN kd
  have hblc := below_drewN hblb kd
  go_wp2_with fail
  refine (markstrs_ret _ hu1c (by omega)).mono ?_
  rintro e wd ⟨rfl, hu1d, hgd⟩
  have hne : u0.ownBlock = none ∨ u0.ownBlock ≠ u1.ownBlock := by
    cases h0 : u0.ownBlock with
    | none => exact .inl rfl
    | some g =>
      refine .inr fun h1 => ?_
      have g0 := (hu0.ge g h0).2
      have g1 := (hu1.ge g h1.symm).1
      omega
  have hu0d := hu0c.kept hgd hne
  have hszc : w.heap.size ≤ (wb.drewN kd).heap.size := Nat.le_trans hsa hsb
  have hbld := hblc.trans (hu1c.below_of hgd (B := w.heap.size) hsa hszc)
  have hszd := hbld.size
  go_wp2_with fail
  refine (heldstrs_ret _ hu1d.at_ (by omega)).mono ?_
  rintro e we ⟨rfl, hbe⟩
  have hble := hbld.trans (hbe.mono hszd)
  have hsze := hble.size
  have hu0e : Own we _ 1 u0 _ _ := hu0d.below hbe (fun g hg => (hu0d.ge g hg).2)
  have hu1e : Own we _ 1 u1 _ _ := hu1d.below hbe (fun g hg => (hu1d.ge g hg).2)
  go_wp2_with fail
  refine (hI _).mono ?_
  rintro e wf ⟨u2, rfl, hu2, hf⟩
  have hu0f : Own wf _ 1 u0 _ _ := hu0e.below hf (fun g hg => (hu0e.ge g hg).2)
  have hu1f : Own wf _ 1 u1 _ _ := hu1e.below hf (fun g hg => (hu1e.ge g hg).2)
  have hblf := hble.trans (hf.mono hsze)
  go_wp2_with fail
  refine (eqstrs_ret _ hu2.at_ hu0f.at_ (by omega)).mono ?_
  rintro e wg ⟨rfl, kd2, rfl⟩
  have hu1g := hu1f.drewN kd2
  have hblg := below_drewN hblf kd2
  go_wp2_with fail
  refine (heldstrs_ret _ hu1g.at_ (by omega)).mono ?_
  rintro e wh ⟨rfl, hbh⟩
  go_wp2_with fail
  go_ret
  exact ⟨rfl, hblg.trans (hbh.mono hblg.size)⟩

set_option maxRecDepth 100000 in
theorem lifted (os : Os) (started : os.Started) (H : Type) (enc : TypeId × Value → H) :
    ReturnsInHanded {} Try.checked os 8 .any (Rows.fnExactSplitFieldsSpec.pre6 enc Try.prog Try.f8 Rows.fnExactSplitFieldsRow.domain false) (Rows.fnExactSplitFieldsSpec.post enc Try.prog Try.f8 false true false false) := by
  refine returnsInHanded_of_change (C := Try.checked) own_ started (by kernel_rfl) Try.func8
    (ChangeSpec.witness6 (enc := enc) (C := Try.checked) false ⟨#[], #[.string ByteArray.empty], []⟩ 8 (by kernel_rfl) (by kernel_rfl) (by kernel_rfl) (by kernel_rfl)) ?_
  intro W base args ds gs before hval0 hW hcnd _
  have hval : ∀ (j : Nat) t v, Try.f8.params[j]? = some t → args[j]? = some v → Value.okWide Try.prog W .any base t v := hval0
  have hW' := hW
  obtain ⟨p, q, hA0, hV, rfl, hfz, hnd⟩ := hW
  have hA : DataW.TrodAll enc Try.prog W 0 (fun _ => true) true Try.f8.params.toList args.toList ds p := hA0
  rw [Try.params8] at hA hval
  obtain ⟨v0, vs0, d0, ds0, p0, q0, hargs, rfl, rfl, h0, r0⟩ := trodAll_cons hA
  obtain ⟨rfl, rfl, rfl⟩ := trodAll_nil r0
  obtain rfl : args = #[v0] := by cases args; simp_all
  obtain ⟨a0, rfl, rfl, rfl, w0⟩ := open_string Try.underlying9 (hval 0 9 v0 rfl rfl) h0
  refine (walk W a0 w0).mono fun e W' ⟨he, hb⟩ => ?_
  subst he
  exact ⟨_, rfl, law_post laidOut (by kernel_rfl) rfl rfl Try.underlying4 (fun gs' h => by subst h; rfl) hW' hb⟩

theorem closed_ : joinedFacts Try.prog 8 Try.f8 Rows.fnExactSplitFieldsSpec Rows.fnExactSplitFieldsRow = true := by
  unfold joinedFacts
  rw [mayEnter_, liftsFinal_, make_, laidOut_, mapsRowed_, stopsHeard_]
  kernel_rfl

theorem proved : Rows.FnExactSplitFieldsSaid :=
  OpenClaim.holds_of_wide 8 Try.f8 rfl rfl rfl rfl rfl rfl rfl ⟨rfl, rfl, rfl, rfl, rfl⟩ rfl rfl rfl rfl rfl (by kernel_rfl) Try.func8 closed_
    (of_decide_eq_true (by kernel_rfl)) (by unfold Func.isWrapper; first | (rw [if_pos (by decide +kernel)]; kernel_rfl) | (rw [if_neg (by decide +kernel)]; exact ⟨rfl, rfl⟩))
    (fun os started H enc _ => lifted os started H enc)
end Go.Proofs.Ytmnddbgblhmlbaa.fnExactSplitFields
