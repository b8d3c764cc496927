/- For every input the law FnExactUnpackInts returns true and leaves what was in memory as it was. No condition. -/
import Derived.Test.YtmnddbgblhmlbaaUpk
import Derived.Test.YtmnddbgblhmlbaaScr
import Derived.Test.YtmnddbgblhmlbaaFrame
import Derived.Test.YtmnddbgblhmlbaaOrd
namespace Go.Proofs.Ytmnddbgblhmlbaa.fnExactUnpackInts
open Go.ChangeShapes Go.WideShapes Go.ChangeAt Go.RowKit
open Go.ChangeMaps (open_string shut_string)
set_option linter.unusedVariables false

theorem unpI_len (s : ByteArray) (p : Int) : (unpI s p).1.length ≤ s.size := by
  rcases decA_cases s p with h | ⟨q, v, k, rfl, h, h1, h2, h3, h4, _⟩
  · rw [unpI_no h]; exact Nat.zero_le _
  · cases hr : rdI v (s.data.toList.drop (q + k)) with
    | none => rw [unpI_none h hr]; exact Nat.zero_le _
    | some x =>
      obtain ⟨l, m⟩ := x
      rw [unpI_some h hr]
      have := rdI_len hr
      simp only [List.length_drop, S_len] at this
      simp only
      omega

set_option maxHeartbeats 1000000 in
theorem walk (w : World) (a0 : ByteArray) (w0 : a0.size ≤ maxLen) (a1 : Int) (w1 : (Lit.int .i64 a1).wf = true) :
    Calls Try.prog 12 #[.string a0, .int .i64 a1] w fun e w' => e = .returned (.bool true) ∧ Below w.heap.size w w' := by
  by_cases hbig : (1048576 : Int) < (a0.size : Int)
  · go_enter Try.func12, Try.ntmps12
    go_wp2_with fail
    go_ret
    exact ⟨rfl, Below.refl _ _⟩
  have hS := fun wx => upk_spec a0 a1 wx (by omega)
  have hI := fun wx => upk_impl a0 a1 wx (by omega)
  have hl := unpI_len a0 a1
  obtain ⟨l, n, b, hE⟩ : ∃ l n b, unpI a0 a1 = (l, n, b) := ⟨_, _, _, rfl⟩
  simp only [hE] at hS hI hl
  clear hE
  have hml := marks_len 1 l.length
  go_enter Try.func12, Try.ntmps12
  go_wp2_with fail
  refine (hS _).mono ?_
  rintro e wa ⟨u0, rfl, hu0, ha⟩
  go_wp2_with fail
  refine (hI _).mono ?_
  rintro e wb ⟨u1, rfl, hu1, hb⟩
  have hu0b : Own wb _ 1 u0 _ _ := hu0.below hb (fun g hg => (hu0.ge g hg).2)
  have hblb := ha.trans (hb.mono ha.size)
  have hsa := ha.size
  have hsb := hb.size
  go_wp2_with fail
  refine (eqints_ret _ hu1.at_ hu0b.at_ (by omega)).mono ?_
  rintro e wc ⟨rfl, kd, rfl⟩
  have hu0c := hu0b.drewN kd
  have hu1c := hu1.drewN kd
  have hblc := below_drewN hblb kd
  go_wp2_with fail
  refine (markints_ret 1 _ hu1c (by omega) (by omega) (by omega)).mono ?_
  rintro e wd ⟨rfl, hu1d, hgd⟩
  have hne : u0.ownBlock = none ∨ u0.ownBlock ≠ u1.ownBlock := by
    cases h0 : u0.ownBlock with
    | none => exact .inl rfl
    | some g =>
      refine .inr fun h1 => ?_
      have g0 := (hu0.ge g h0).2
      have g1 := (hu1.ge g h1.symm).1
      omega
  have hu0d := hu0c.kept hgd hne
  have hszc : w.heap.size ≤ (wb.drewN kd).heap.size := Nat.le_trans hsa hsb
  have hbld := hblc.trans (hu1c.below_of hgd (B := w.heap.size) hsa hszc)
  have hszd := hbld.size
  go_wp2_with fail
  refine (heldints_ret 1 _ hu1d.at_ (by omega) (by omega) (by omega)).mono ?_
  rintro e we ⟨rfl, rfl⟩
  go_wp2_with fail
  refine (hI _).mono ?_
  rintro e wf ⟨u2, rfl, hu2, hf⟩
  have hu0f : Own wf _ 1 u0 _ _ := hu0d.below hf (fun g hg => (hu0d.ge g hg).2)
  have hu1f : Own wf _ 1 u1 _ _ := hu1d.below hf (fun g hg => (hu1d.ge g hg).2)
  have hblf := hbld.trans (hf.mono hszd)
  go_wp2_with fail
  refine (eqints_ret _ hu2.at_ hu0f.at_ (by omega)).mono ?_
  rintro e wg ⟨rfl, kd2, rfl⟩
  have hu1g := hu1f.drewN kd2
  go_wp2_with fail
  refine (heldints_ret 1 _ hu1g.at_ (by omega) (by omega) (by omega)).mono ?_
  rintro e wh ⟨rfl, rfl⟩
  go_wp2_with fail
  go_ret
  exact ⟨rfl, below_drewN hblf kd2⟩

set_option maxRecDepth 100000 in
theorem lifted (os : Os) (started : os.Started) (H : Type) (enc : TypeId × Value → H) :
    ReturnsInHanded {} Try.checked os 12 .any (Rows.fnExactUnpackIntsSpec.pre6 enc Try.prog Try.f12 Rows.fnExactUnpackIntsRow.domain false) (Rows.fnExactUnpackIntsSpec.post enc Try.prog Try.f12 false true false false) := by
  refine returnsInHanded_of_change (C := Try.checked) own_ started (by kernel_rfl) Try.func12
    (ChangeSpec.witness6 (enc := enc) (C := Try.checked) false ⟨#[], #[.string ByteArray.empty, .int .i64 0], []⟩ 8 (by kernel_rfl) (by kernel_rfl) (by kernel_rfl) (by kernel_rfl)) ?_
  intro W base args ds gs before hval0 hW hcnd _
  have hval : ∀ (j : Nat) t v, Try.f12.params[j]? = some t → args[j]? = some v → Value.okWide Try.prog W .any base t v := hval0
  have hW' := hW
  obtain ⟨p, q, hA0, hV, rfl, hfz, hnd⟩ := hW
  have hA : DataW.TrodAll enc Try.prog W 0 (fun _ => true) true Try.f12.params.toList args.toList ds p := hA0
  rw [Try.params12] at hA hval
  obtain ⟨v0, vs0, d0, ds0, p0, q0, hargs, rfl, rfl, h0, r0⟩ := trodAll_cons hA
  obtain ⟨v1, vs1, d1, ds1, p1, q1, rfl, rfl, rfl, h1, r1⟩ := trodAll_cons r0
  obtain ⟨rfl, rfl, rfl⟩ := trodAll_nil r1
  obtain rfl : args = #[v0, v1] := by cases args; simp_all
  obtain ⟨a0, rfl, rfl, rfl, w0⟩ := open_string Try.underlying9 (hval 0 9 v0 rfl rfl) h0
  obtain ⟨a1, rfl, rfl, rfl, w1⟩ := open_int Try.underlying3 (hval 1 3 v1 rfl rfl) h1
  refine (walk W a0 w0 a1 w1).mono fun e W' ⟨he, hb⟩ => ?_
  subst he
  exact ⟨_, rfl, law_post laidOut (by kernel_rfl) rfl rfl Try.underlying4 (fun gs' h => by subst h; rfl) hW' hb⟩

theorem closed_ : joinedFacts Try.prog 12 Try.f12 Rows.fnExactUnpackIntsSpec Rows.fnExactUnpackIntsRow = true := by
  unfold joinedFacts
  rw [mayEnter_, liftsFinal_, make_, laidOut_, mapsRowed_, stopsHeard_]
  kernel_rfl

theorem proved : Rows.FnExactUnpackIntsSaid :=
  OpenClaim.holds_of_wide 12 Try.f12 rfl rfl rfl rfl rfl rfl rfl ⟨rfl, rfl, rfl, rfl, rfl⟩ rfl rfl rfl rfl rfl (by kernel_rfl) Try.func12 closed_
    (of_decide_eq_true (by kernel_rfl)) (by unfold Func.isWrapper; first | (rw [if_pos (by decide +kernel)]; kernel_rfl) | (rw [if_neg (by decide +kernel)]; exact ⟨rfl, rfl⟩))
    (fun os started H enc _ => lifted os started H enc)
end Go.Proofs.Ytmnddbgblhmlbaa.fnExactUnpackInts
