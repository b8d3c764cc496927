/- For every input the law FnHexText returns true and leaves what was in memory as it was. No condition. -/
import Derived.Test.YtmnddbgblhmlbaaDoorLng
import Derived.Test.YtmnddbgblhmlbaaDoorHexLaw
import Derived.Test.YtmnddbgblhmlbaaDoorTab
import Derived.Test.YtmnddbgblhmlbaaDoorFrame
import Derived.Test.YtmnddbgblhmlbaaDoorOrd
import Derived.Test.YtmnddbgblhmlbaaDoorTab
import Derived.Test.YtmnddbgblhmlbaaDoorCards
import Derived.Test.YtmnddbgblhmlbaaDoorTie
import Derived.ProofKit
import Derived.LaidMore
import Derived.OpenShut
import Derived.Stop.Joined
import Derived.Stop.LaidErr
import Derived.SevenTiedAt
namespace Go.Proofs.YtmnddbgblhmlbaaDoor.fnHexText
open Go.ChangeShapes Go.WideShapes Go.ChangeAt Go.RowKit
open Go.ChangeMaps (open_string shut_string)
set_option linter.unusedVariables false

theorem big_no (ao : Option Addr) (n cap : Nat) (w : World) (h : ¬ (1048576 : Int) < (n : Int)) :
    Calls Tryd.prog 8 #[.slice ao n cap] w fun e w' => e = .returned (.bool false) ∧ w = w' := by
  go_enter Tryd.func8, Tryd.ntmps8
  go_wp2
  go_ret
  exact ⟨rfl, rfl⟩
theorem itoaB_10 : itoaB 10 = ⟨#[49, 48]⟩ := by kernel_rfl
set_option maxHeartbeats 1000000 in
theorem walk (w : World) (a0 : Value) (w0 : Arg_u8s w a0) (ht : Tab w) :
    Calls Tryd.prog 4 #[a0] w fun e w' => e = .returned (.bool true) ∧ Below w.heap.size w w' := by
  obtain ⟨l, hat, hwf⟩ := w0
  by_cases hbig : (1048576 : Int) < (l.length : Int)
  · obtain ⟨ao, cap, rfl, _⟩ := hat.cell
    go_enter Tryd.func4, Tryd.ntmps4
    go_wp2
    go_ret
    exact ⟨rfl, Below.refl _ _⟩
  have hd : Code8 w a0 l := ⟨hat, hwf, by omega⟩
  obtain ⟨ao, cap, rfl, _⟩ := hat.cell
  go_enter Tryd.func4, Tryd.ntmps4
  go_wp2_with fail
  refine (big_no _ _ _ _ (by omega)).mono ?_
  rintro e wx ⟨rfl, rfl⟩
  go_wp2_with fail
  refine (drawhex_ret _ hd).mono ?_
  rintro e wa ⟨s, rfl, hs, ha⟩
  by_cases h2 : s.size ≤ 20000
  · have HE : ∀ wx : World, Calls Tryd.prog 10 #[.string s] wx fun e w' => e = .returned (.tuple #[.string (hexT s), .bool true]) ∧ Below wx.heap.size wx w' := fun wx => (hex_impl s wx).mono fun e w' ⟨h1, h3⟩ => ⟨by rw [h1, decide_eq_true h2], h3⟩
    have hz := hexT_size h2
    have HU : ∀ wx : World, Calls Tryd.prog 11 #[.string (hexT s)] wx fun e w' => e = .returned (.tuple #[.string s, .bool true]) ∧ Below wx.heap.size wx w' := fun wx => (unh_impl (hexT s) wx (by omega)).mono fun e w' ⟨h1, h3⟩ => ⟨by rw [h1, unh_hex h2], h3⟩
    generalize hexT s = H at *
    go_wp2_with fail
    refine (HE _).mono ?_
    rintro e wb ⟨rfl, hb⟩
    go_wp2_with fail
    refine (HU _).mono ?_
    rintro e wc ⟨rfl, hc⟩
    go_wp2_with fail
    go_ret
    exact ⟨rfl, ha.trans ((hb.trans (hc.mono hb.size)).mono ha.size)⟩
  · have HE : ∀ wx : World, Calls Tryd.prog 10 #[.string s] wx fun e w' => e = .returned (.tuple #[.string ⟨#[]⟩, .bool false]) ∧ Below wx.heap.size wx w' := fun wx => (hex_impl s wx).mono fun e w' ⟨h1, h3⟩ => ⟨by rw [h1, decide_eq_false h2, show hexT s = ⟨#[]⟩ from if_neg h2], h3⟩
    have HF : ∀ wx : World, Tab wx → Calls Tryd.prog 7 #[.int .i64 10] wx fun e w' => e = .returned (.string ⟨#[49, 48]⟩) ∧ Below wx.heap.size wx w' := fun wx hx => (fmt_impl 10 wx (by omega) (by omega) hx).mono fun e w' ⟨h1, h3⟩ => ⟨by rw [h1, itoaB_10], h3⟩
    go_wp2_with fail
    refine (HE _).mono ?_
    rintro e wb ⟨rfl, hb⟩
    have hab := ha.trans (hb.mono ha.size)
    go_wp2_with fail
    refine (HF _ (ht.below hab)).mono ?_
    rintro e wc ⟨rfl, hc⟩
    go_wp2_with fail
    go_ret
    exact ⟨rfl, hab.trans (hc.mono hab.size)⟩

def laidL : List (String × DataW Unit) := [("math/bits.deBruijn32tab", Rows.laid_math_bits_deBruijn32tab), ("math/bits.deBruijn64tab", Rows.laid_math_bits_deBruijn64tab), ("internal/strconv.uint64pow10", Rows.laid_internal_strconv_uint64pow10)]
theorem door_met (os : Os) (args : Array Value) : laidMetH Tryd.prog laidL ((World.doorLaid Tryd.prog 4000 os).forCall (fun _ _ => 0) ⟨#[], args, []⟩).memory :=
  laidMetH_of_parts3 (fuel := 8) (laidMet_of_run' 8 (by kernel_rfl) (by kernel_rfl)) (by kernel_rfl) (by kernel_rfl)
theorem tab_of {W : World} (h : laidMetH Tryd.prog laidL W) : Tab W := by
  rw [MakeChecks.laidMetH_plain _ _ _ (by kernel_rfl)] at h
  exact Lib.tabIs_of_head (k := .u64) (zs := Lib.pow10Tab) gTab (by kernel_rfl) Tryd.underlying55 Tryd.underlying48 (by kernel_rfl) (by kernel_rfl) h.tail.tail
set_option maxRecDepth 100000 in
theorem lifted (os : Os) (started : os.Started) (H : Type) (enc : TypeId × Value → H) :
    ReturnsInHanded {} Tryd.checked os 4 .any (fun w args => (Rows.fnHexTextSpec.pre enc Tryd.prog Tryd.f4 [] false w args ∧ laidMetH Tryd.prog laidL w) ∧ sizedMet enc Tryd.prog Tryd.f4 (OpenSpec.ofChange Rows.fnHexTextSpec) false w args) (Rows.fnHexTextSpec.post enc Tryd.prog Tryd.f4 false true false false) := by
  refine returnsInHanded_of_change_and (C := Tryd.checked) (X := fun w _ => laidMetH Tryd.prog laidL w) (fun _ _ _ hh h => h.of_heap hh) own_ started (by kernel_rfl) Tryd.func4
    (ChangeSpec.witness_shaped (enc := enc) (C := Tryd.checked) (os := os) (X := fun w _ => laidMetH Tryd.prog laidL w) false (World.doorLaid Tryd.prog 4000 os) #[.slice none 0 0] 8 rfl (World.shaped_of_RefB (by kernel_rfl) (by kernel_rfl)) (by kernel_rfl) (by kernel_rfl) (by kernel_rfl) (door_met os _)) ?_
  intro W base args ds gs before hval0 hW _ _ hL _
  have hval : ∀ (j : Nat) t v, Tryd.f4.params[j]? = some t → args[j]? = some v → Value.okWide Tryd.prog W .any base t v := hval0
  have hW' := hW
  have htab := tab_of hL
  obtain ⟨p, q, hA0, hV, rfl, hfz, hnd⟩ := hW
  have hA : DataW.TrodAll enc Tryd.prog W 0 (fun _ => true) true Tryd.f4.params.toList args.toList ds p := hA0
  rw [Tryd.params4] at hA hval
  obtain ⟨v0, vs0, d0, ds0, p0, q0, hargs, rfl, rfl, h0, r0⟩ := trodAll_cons hA
  obtain ⟨rfl, rfl, rfl⟩ := trodAll_nil r0
  obtain rfl : args = #[v0] := by cases args; simp_all
  have w0 := open_u8s (hval 0 24 v0 rfl rfl) h0
  refine (walk W v0 w0 htab).mono fun e W' ⟨he, hb⟩ => ?_
  subst he
  exact ⟨_, rfl, law_post laidOut (by kernel_rfl) rfl rfl Tryd.underlying4 (fun gs' h => by subst h; rfl) hW' hb⟩

theorem closed_ : joinedFacts Tryd.prog 4 Tryd.f4 Rows.fnHexTextSpec Rows.fnHexTextRow = true := by
  unfold joinedFacts
  rw [mayEnter_, liftsFinal_, make_, laidOut_, mapsRowed_, stopsHeard_]
  kernel_rfl

theorem row_holds : Rows.FnHexTextSaid :=
  OpenClaim.holds_of_wide 4 Tryd.f4 rfl rfl rfl rfl rfl rfl rfl ⟨rfl, rfl, rfl, rfl, rfl⟩ rfl rfl rfl rfl rfl (by kernel_rfl) Tryd.func4 closed_
    (of_decide_eq_true (by kernel_rfl)) (by unfold Func.isWrapper; first | (rw [if_pos (by decide +kernel)]; kernel_rfl) | (rw [if_neg (by decide +kernel)]; exact ⟨rfl, rfl⟩))
    (fun os started H enc _ => lifted os started H enc)
theorem proved : Rows.FnHexTextCardSaid :=
  Claim7.holds_tied_plain_at .later [] [.data, .data, .data] true (true, "7dde9fdd5fc1133baac09baa9ba99da55e3f1be5bea87deb44111995e334d1ee") false
    row_holds (fun _ h => by cases h) (by kernel_rfl) (fun _ h => by cases h) fnHexText_row_tie rfl ⟨rfl, rfl⟩ (by kernel_rfl) rfl
    (fun f fn hf hfn => by
      obtain rfl : f = 4 := Option.some.inj ((show Tryd.prog.funcNamed "loop.example/g03315/laws.FnHexText" = some 4 by kernel_rfl).symm.trans hf) |>.symm
      obtain rfl : fn = Tryd.f4 := (Option.some.inj (Tryd.func4.symm.trans hfn)).symm
      exact ⟨by kernel_rfl, fun j t ht => by
        rw [Tryd.params4] at ht
        have hm : t ∈ [24] := by simpa using Array.mem_of_getElem? ht
        have hall : ([24].all fun u => !Tryd.prog.wantsStandIn u) = true := by kernel_rfl
        exact (show Tryd.prog.wantsStandIn t = false by simpa using List.all_eq_true.1 hall t hm)⟩)
    (by kernel_rfl)
end Go.Proofs.YtmnddbgblhmlbaaDoor.fnHexText
