/- For every input the law FnDeltas returns true and leaves what was in memory as it was. No condition. -/
import Derived.Test.YtmnddbgblhmlbaaTw
import Derived.Test.YtmnddbgblhmlbaaFrame
import Derived.Test.YtmnddbgblhmlbaaOrd
namespace Go.Proofs.Ytmnddbgblhmlbaa.fnDeltas
open Go.ChangeShapes Go.WideShapes Go.ChangeAt Go.RowKit
open Go.ChangeMaps (open_string shut_string)
set_option linter.unusedVariables false

set_option maxHeartbeats 1000000 in
theorem walk (w : World) (a0 : Value) (w0 : Arg_u8s w a0) :
    Calls Try.prog 14 #[a0] w fun e w' => e = .returned (.bool true) ∧ Below w.heap.size w w' := by
  obtain ⟨l, hat, hwf⟩ := w0
  by_cases hbig : (1048576 : Int) < (l.length : Int)
  · obtain ⟨ao, cap, rfl, _⟩ := hat.cell
    go_enter Try.func14, Try.ntmps14
    go_wp2
    go_ret
    exact ⟨rfl, Below.refl _ _⟩
  have hd : Code8 w a0 l := ⟨hat, hwf, by omega⟩
  obtain ⟨ao, cap, rfl, _⟩ := hat.cell
  go_enter Try.func14, Try.ntmps14
  go_wp2_with fail
  refine (big_no _ _ _ _ (by omega)).mono ?_
  rintro e wx ⟨rfl, rfl⟩
  go_wp2_with fail
  refine (drawtwins_ret _ hd).mono ?_
  rintro e wa ⟨a, b, rfl, ha, hb, hba⟩
  clear hd hwf hat hbig
  have HM : a.size ≤ maxLen ∧ b.size ≤ maxLen := by unfold maxLen; omega
  have hds : (deltaT a b).size ≤ 2000 := by
    unfold deltaT
    rw [ByteArray.size_append]
    have h1 := encVar_size (b.size : Nat)
    have h2 := packZ_size (xorT a b)
    have h3 := xorT_size a b
    omega
  have HA := app_delta a b (by omega)
  have HU := unz_pack (x := b) (by omega)
  have hps := packZ_size b
  have hxs := xorT_size a b
  have HX1 := xor_xor (xorT a b) b
  have hxs2 := xorT_size (xorT a b) b
  have HDS := delta_same a
  have hdd : (deltaT a a).size ≤ 2000 := by
    have h1 := encVar_size (a.size : Nat)
    omega
  have hes := encVar_size (a.size : Nat)
  have C1 : ∀ wx, Calls Try.prog 57 #[.string a, .string b] wx fun e w' => e = .returned (.string (deltaT a b)) ∧ Below wx.heap.size wx w' := fun wx => delta_impl a b wx (by omega) (by omega)
  have C2 : ∀ wx, Calls Try.prog 58 #[.string a, .string (deltaT a b)] wx fun e w' => e = .returned (.tuple #[.string b, .bool true]) ∧ Below wx.heap.size wx w' := fun wx => by
    have := app_impl a (deltaT a b) wx (by omega) (by omega)
    rw [HA] at this
    exact this
  have C3 : ∀ wx, Calls Try.prog 59 #[.string b] wx fun e w' => e = .returned (.string (packZ b)) ∧ Below wx.heap.size wx w' := fun wx => zer_impl b wx (by omega)
  have C4 : ∀ wx, Calls Try.prog 56 #[.string (packZ b)] wx fun e w' => e = .returned (.tuple #[.string b, .bool true]) ∧ Below wx.heap.size wx w' := fun wx => by
    have := unz_impl (packZ b) wx (by omega)
    rw [HU] at this
    exact this
  have C5 : ∀ wx, Calls Try.prog 60 #[.string a, .string b] wx fun e w' => e = .returned (.string (xorT a b)) ∧ Below wx.heap.size wx w' := fun wx => xor_impl a b wx HM.1 HM.2
  have hm5 : (xorT a b).size ≤ maxLen := by unfold maxLen; omega
  have hm6 : (xorT (xorT a b) b).size ≤ maxLen := by unfold maxLen; omega
  have C6 : ∀ wx, Calls Try.prog 60 #[.string (xorT a b), .string b] wx fun e w' => e = .returned (.string (xorT (xorT a b) b)) ∧ Below wx.heap.size wx w' := fun wx => xor_impl (xorT a b) b wx hm5 HM.2
  have C7 : ∀ wx, Calls Try.prog 60 #[.string (xorT a b), .string (xorT (xorT a b) b)] wx fun e w' => e = .returned (.string b) ∧ Below wx.heap.size wx w' := fun wx => (xor_impl (xorT a b) _ wx hm5 hm6).mono fun e w' ⟨h1, h2⟩ => ⟨by rw [h1, HX1], h2⟩
  have C8 : ∀ wx, Calls Try.prog 57 #[.string a, .string a] wx fun e w' => e = .returned (.string (deltaT a a)) ∧ Below wx.heap.size wx w' := fun wx => delta_impl a a wx (by omega) (by omega)
  have C9 : ∀ wx, Calls Try.prog 44 #[.int .i64 (a.size : Int)] wx fun e w' => e = .returned (.string (encVar (a.size : Nat))) ∧ Below wx.heap.size wx w' := fun wx => enc_impl _ wx
  have hcmp : ((deltaT a a).size : Int) ≤ 2 * ((encVar (a.size : Nat)).size : Int) + 1 := by omega
  clear HA HU HX1 hm5 hm6 HM hds hps hxs2 HDS
  obtain ⟨D, hD⟩ : ∃ D, D = deltaT a b := ⟨_, rfl⟩
  simp only [← hD] at C1 C2
  clear hD
  obtain ⟨Z, hZ⟩ : ∃ Z, Z = packZ b := ⟨_, rfl⟩
  simp only [← hZ] at C3 C4
  clear hZ
  obtain ⟨X, hX⟩ : ∃ X, X = xorT a b := ⟨_, rfl⟩
  simp only [← hX] at C5 C6 C7 hxs
  clear hX
  obtain ⟨Y, hY⟩ : ∃ Y, Y = xorT X b := ⟨_, rfl⟩
  simp only [← hY] at C6 C7
  clear hY
  obtain ⟨S, hS⟩ : ∃ S, S = deltaT a a := ⟨_, rfl⟩
  simp only [← hS] at C8 hcmp hdd
  clear hS
  obtain ⟨V, hV⟩ : ∃ V, V = encVar (a.size : Nat) := ⟨_, rfl⟩
  simp only [← hV] at C9 hcmp hes
  clear hV
  go_wp2_with fail
  refine (C1 _).mono ?_
  rintro e wb ⟨rfl, hb1⟩
  have hbb := hba.trans (hb1.mono hba.size)
  go_wp2_with fail
  refine (C2 _).mono ?_
  rintro e wc ⟨rfl, hb2⟩
  have hbc := hbb.trans (hb2.mono hbb.size)
  go_wp2_with fail
  refine (C3 _).mono ?_
  rintro e wd ⟨rfl, hb3⟩
  have hbd := hbc.trans (hb3.mono hbc.size)
  go_wp2_with fail
  refine (C4 _).mono ?_
  rintro e we ⟨rfl, hb4⟩
  have hbe := hbd.trans (hb4.mono hbd.size)
  go_wp2_with fail
  refine (C5 _).mono ?_
  rintro e wf ⟨rfl, hb5⟩
  have hbf := hbe.trans (hb5.mono hbe.size)
  go_wp2_with fail
  refine (C6 _).mono ?_
  rintro e wg ⟨rfl, hb6⟩
  have hbg := hbf.trans (hb6.mono hbf.size)
  go_wp2_with fail
  refine (C7 _).mono ?_
  rintro e wh ⟨rfl, hb7⟩
  have hbh := hbg.trans (hb7.mono hbg.size)
  go_wp2_with fail
  refine (C8 _).mono ?_
  rintro e wi ⟨rfl, hb8⟩
  have hbi := hbh.trans (hb8.mono hbh.size)
  go_wp2_with fail
  refine (C9 _).mono ?_
  rintro e wj ⟨rfl, hb9⟩
  have hbj := hbi.trans (hb9.mono hbi.size)
  go_wp2_with fail
  go_ret
  exact ⟨rfl, hbj⟩

set_option maxRecDepth 100000 in
theorem lifted (os : Os) (started : os.Started) (H : Type) (enc : TypeId × Value → H) :
    ReturnsInHanded {} Try.checked os 14 .any (Rows.fnDeltasSpec.pre6 enc Try.prog Try.f14 Rows.fnDeltasRow.domain false) (Rows.fnDeltasSpec.post enc Try.prog Try.f14 false true false false) := by
  refine returnsInHanded_of_change (C := Try.checked) own_ started (by kernel_rfl) Try.func14
    (ChangeSpec.witness6 (enc := enc) (C := Try.checked) false ⟨#[], #[.slice none 0 0], []⟩ 8 (by kernel_rfl) (by kernel_rfl) (by kernel_rfl) (by kernel_rfl)) ?_
  intro W base args ds gs before hval0 hW hcnd _
  have hval : ∀ (j : Nat) t v, Try.f14.params[j]? = some t → args[j]? = some v → Value.okWide Try.prog W .any base t v := hval0
  have hW' := hW
  obtain ⟨p, q, hA0, hV, rfl, hfz, hnd⟩ := hW
  have hA : DataW.TrodAll enc Try.prog W 0 (fun _ => true) true Try.f14.params.toList args.toList ds p := hA0
  rw [Try.params14] at hA hval
  obtain ⟨v0, vs0, d0, ds0, p0, q0, hargs, rfl, rfl, h0, r0⟩ := trodAll_cons hA
  obtain ⟨rfl, rfl, rfl⟩ := trodAll_nil r0
  obtain rfl : args = #[v0] := by cases args; simp_all
  have w0 := open_u8s (hval 0 22 v0 rfl rfl) h0
  refine (walk W v0 w0).mono fun e W' ⟨he, hb⟩ => ?_
  subst he
  exact ⟨_, rfl, law_post laidOut (by kernel_rfl) rfl rfl Try.underlying4 (fun gs' h => by subst h; rfl) hW' hb⟩

theorem closed_ : joinedFacts Try.prog 14 Try.f14 Rows.fnDeltasSpec Rows.fnDeltasRow = true := by
  unfold joinedFacts
  rw [mayEnter_, liftsFinal_, make_, laidOut_, mapsRowed_, stopsHeard_]
  kernel_rfl

theorem proved : Rows.FnDeltasSaid :=
  OpenClaim.holds_of_wide 14 Try.f14 rfl rfl rfl rfl rfl rfl rfl ⟨rfl, rfl, rfl, rfl, rfl⟩ rfl rfl rfl rfl rfl (by kernel_rfl) Try.func14 closed_
    (of_decide_eq_true (by kernel_rfl)) (by unfold Func.isWrapper; first | (rw [if_pos (by decide +kernel)]; kernel_rfl) | (rw [if_neg (by decide +kernel)]; exact ⟨rfl, rfl⟩))
    (fun os started H enc _ => lifted os started H enc)
end Go.Proofs.Ytmnddbgblhmlbaa.fnDeltas
