/- FnFieldsAgain: the fields of a line, joined by single spaces, have the same fields. No condition beyond the card's. -/
import Derived.Test.YtiopbdodegopdaaDoorFdr
import Derived.Test.YtiopbdodegopdaaDoorTab
import Derived.Deep.DeepCutAuto
import Derived.Deep.CutRange
import Derived.Test.YtiopbdodegopdaaDoorFrame
import Derived.Test.YtiopbdodegopdaaDoorOrd
import Derived.Test.YtiopbdodegopdaaDoorTab
import Derived.Test.YtiopbdodegopdaaDoorCards
import Derived.Test.YtiopbdodegopdaaDoorTie
import Derived.ProofKit
import Derived.LaidMore
import Derived.OpenShut
import Derived.Stop.Joined
import Derived.Stop.LaidErr
import Derived.SevenTiedAt
namespace Go.Proofs.YtiopbdodegopdaaDoor.fnFieldsAgain
open Go.ChangeShapes Go.WideShapes Go.ChangeAt Go.RowKit
open Go.ChangeMaps (open_string shut_string)
set_option linter.unusedVariables false

theorem big_no (ao : Option Addr) (n cap : Nat) (w : World) (h : ¬ (1048576 : Int) < (n : Int)) :
    Calls Tryd.prog 6 #[.slice ao n cap] w fun e w' => e = .returned (.bool false) ∧ w = w' := by
  go_enter Tryd.func6, Tryd.ntmps6
  go_wp2
  go_ret
  exact ⟨rfl, rfl⟩
theorem itoaB_m3 : itoaB (-3) = ⟨#[45, 51]⟩ := by kernel_rfl
theorem joinF_le {p : List ByteArray} (hl : p.length ≤ 24) (hz : ∀ f ∈ p, f.size ≤ 2000) (k : Nat) : (joinF (p.take k)).size ≤ 48024 := by
  have h := joinF_size (p.take k) 2000 fun f hf => hz f (List.mem_of_mem_take hf)
  have h2 : (p.take k).length ≤ 24 := by rw [List.length_take]; omega
  have h3 : (p.take k).length * (2000 + 1) ≤ 24 * (2000 + 1) := Nat.mul_le_mul_right _ h2
  omega
set_option maxHeartbeats 400000 in
theorem same_ret {va vb : Value} {l : List ByteArray} (w : World) (ha : At w 1 va l.length (l.map Value.string)) (hb : At w 1 vb l.length (l.map Value.string)) (hm : l.length ≤ 1099511627776) :
    Calls Tryd.prog 11 #[va, vb] w fun e w' => e = .returned (.bool true) ∧ Below w.heap.size w w' := by
  obtain ⟨ao, cap, rfl, hca⟩ := ha.cellS
  obtain ⟨bo, cap2, rfl, hcb⟩ := hb.cellS
  go_enter Tryd.func11, Tryd.ntmps11
  go_wp2
  go_loopw [5] (fun i wr => ∃ k : Nat, k ≤ l.length ∧ i = .int .i64 k ∧ ∃ d, wr = w.drewN d) (fun i _ => l.length - (intOf i).toNat)
  case atStart => exact ⟨0, Nat.zero_le _, rfl, 0, rfl⟩
  case round =>
    obtain ⟨k, hk, rfl, d, rfl⟩ := hrel
    by_cases hlt : k < l.length
    · obtain ⟨g, off, rfl, hg, hcell⟩ := hca (by omega)
      obtain ⟨g2, off2, rfl, hg2, hcell2⟩ := hcb (by omega)
      clear hca hcb
      have c1 := hcell k hlt
      have c2 := hcell2 k hlt
      clear hcell hcell2
      go_wp2
      go_region
      go_wp2
      go_roundw
      case rel => exact ⟨k + 1, by omega, by go_num, d + 1, rfl⟩
      case measure => simp [intOf]; omega
    · go_wp2
      go_ret
      exact ⟨rfl, below_drewN (Below.refl _ _) d⟩
set_option maxRecDepth 100000 in
set_option maxHeartbeats 8000000 in
theorem walk (w : World) (a0 : Value) (w0 : Arg_u8s w a0) (ht : Tab w) :
    Calls Tryd.prog 3 #[a0] w fun e w' => e = .returned (.bool true) ∧ Below w.heap.size w w' := by
  obtain ⟨l, hat, hwf⟩ := w0
  by_cases hbig : (1048576 : Int) < (l.length : Int)
  · obtain ⟨ao, cap, rfl, _⟩ := hat.cell
    go_enter Tryd.func3, Tryd.ntmps3
    go_wp2
    go_ret
    exact ⟨rfl, Below.refl _ _⟩
  have hd : Code8 w a0 l := ⟨hat, hwf, by omega⟩
  obtain ⟨ao, cap, rfl, _⟩ := hat.cell
  go_enter Tryd.func3, Tryd.ntmps3
  go_wp2_with fail
  refine (big_no _ _ _ _ (by omega)).mono ?_
  rintro e wx ⟨rfl, rfl⟩
  go_wp2_with fail
  refine (drawfld_ret _ hd).mono ?_
  rintro e wa ⟨s, rfl, hs, ha⟩
  have HSs := fun wx => spl_spec s wx (by omega)
  have HIs := fun wx => spl_impl s wx (by omega)
  obtain ⟨p, b, hE⟩ : ∃ p b, splT s = (p, b) := ⟨_, _, rfl⟩
  simp only [hE] at HIs HSs
  go_wp2_with fail
  refine (HIs _).mono ?_
  rintro e wb ⟨u, rfl, hu, hb⟩
  have hbb := ha.trans (hb.mono ha.size)
  have huat := hu.at_
  clear hu hb ha HIs hd hwf hat
  go_wp2_with fail
  refine (HSs _).mono ?_
  rintro e wc ⟨u2, rfl, _, hc⟩
  have hbc := hbb.trans (hc.mono hbb.size)
  have huc := huat.below hc
  clear hbb huat hc HSs
  cases b with
  | false =>
    obtain rfl : p = [] := spl_none hE
    obtain ⟨uo, uc, rfl, _⟩ := huc.cellS
    have HF := fmt_impl (-3) wc (by omega) (by omega) (ht.below hbc)
    rw [itoaB_m3] at HF
    clear hE huc
    go_wp2_with fail
    refine HF.mono ?_
    rintro e wd ⟨rfl, hd⟩
    go_wp2_with fail
    go_ret
    exact ⟨rfl, hbc.trans (hd.mono hbc.size)⟩
  | true =>
    obtain ⟨hp, hl⟩ := spl_fields hE
    have hz := spl_sizes hE
    have HJ := Lib.hid (fun k => joinF_le hl (fun f hf => by have := hz f hf; omega) k)
    have HZ := Lib.hid (fun k (hk : k < p.length) => show (p[k]'hk).size ≤ 2000 by have := hz _ (List.getElem_mem hk); omega)
    have HT := Lib.hid (fun k (hk : k < p.length) => joinF_take hk)
    have HE : Hid (joinF (p.take p.length) = joinF p) := Lib.hid (by rw [List.take_length])
    have HQ : Hid ((joinF p).size ≤ 600 → splT (joinF p) = (p, true)) := Lib.hid (spl_join hp hl)
    have HU := Lib.hid huc
    obtain ⟨uo, uc, rfl, hcell⟩ := huc.cellS
    clear hE hp hz huc
    go_wp2_with fail
    go_loopw [8, 9] (fun t i wr => ∃ k : Nat, k ≤ p.length ∧ i = .int .i64 k ∧ t = .string (joinF (p.take k)) ∧ wr = wc) (fun _ i _ => p.length - (intOf i).toNat)
    case atStart => exact ⟨0, Nat.zero_le _, rfl, rfl, rfl⟩
    case round =>
      obtain ⟨k, hk, rfl, rfl, hw⟩ := hrel
      obtain rfl := hw.symm
      clear hw
      have hj := HJ.out k
      by_cases hlt : k < p.length
      · obtain ⟨g, off, rfl, hg, hcell⟩ := hcell (by omega)
        have c1 := hcell k hlt
        have hz := HZ.out k hlt
        have HN := Lib.hid (HT.out k hlt)
        generalize p[k]'hlt = f at *
        generalize joinF (p.take k) = t at *
        have hs1 : t.size + f.size ≤ 9223372036854775807 := by omega
        have hs2 : (t ++ f).size + (⟨#[32]⟩ : ByteArray).size ≤ 9223372036854775807 := by rw [ByteArray.size_append]; show t.size + f.size + 1 ≤ _; omega
        have x1 : decide ((k : Int) < (p.length : Int)) = true := decide_eq_true (by omega)
        clear hcell
        go_wp2_with fail
        go_roundw
        case rel => exact ⟨k + 1, by omega, by go_num, by rw [HN.out]; rfl, by first | rfl | trivial⟩
        case measure => simp [intOf]; omega
      · obtain rfl : k = p.length := by omega
        have x1 : decide ((p.length : Int) < (p.length : Int)) = false := decide_eq_false (by omega)
        rw [HE.out] at hj ⊢
        clear hcell HT HZ HJ
        have HIj := spl_impl (joinF p) wc (by omega)
        by_cases h6 : (joinF p).size ≤ 600
        · rw [HQ.out h6] at HIj
          clear HQ
          generalize joinF p = J at *
          have x2 : decide ((J.size : Int) > 600) = false := decide_eq_false (by omega)
          go_wp2_with fail
          refine HIj.mono ?_
          rintro e wd ⟨v, rfl, hv, hd⟩
          have hbd := hbc.trans (hd.mono hbc.size)
          have huv := HU.out.below hd
          have HS := same_ret _ huv hv.at_ (by omega)
          obtain ⟨vo, vc, rfl, _⟩ := hv.at_.cellS
          clear hv huv hd
          go_wp2_with fail
          refine HS.mono ?_
          rintro e we ⟨rfl, he⟩
          go_wp2_with fail
          go_ret
          exact ⟨rfl, hbd.trans (he.mono hbd.size)⟩
        · rw [spl_long (by omega)] at HIj
          clear HQ
          generalize joinF p = J at *
          have x2 : decide ((J.size : Int) > 600) = true := decide_eq_true (by omega)
          go_wp2_with fail
          refine HIj.mono ?_
          rintro e wd ⟨v, rfl, hv, hd⟩
          obtain ⟨vo, vc, rfl, _⟩ := hv.at_.cellS
          clear hv
          go_wp2_with fail
          go_ret
          exact ⟨rfl, hbc.trans (hd.mono hbc.size)⟩

def laidL : List (String × DataW Unit) := [("math/bits.deBruijn32tab", Rows.laid_math_bits_deBruijn32tab), ("math/bits.deBruijn64tab", Rows.laid_math_bits_deBruijn64tab), ("internal/strconv.uint64pow10", Rows.laid_internal_strconv_uint64pow10)]
theorem door_met (os : Os) (args : Array Value) : laidMetH Tryd.prog laidL ((World.doorLaid Tryd.prog 4000 os).forCall (fun _ _ => 0) ⟨#[], args, []⟩).memory :=
  laidMetH_of_parts3 (fuel := 8) (laidMet_of_run' 8 (by kernel_rfl) (by kernel_rfl)) (by kernel_rfl) (by kernel_rfl)
theorem tab_of {W : World} (h : laidMetH Tryd.prog laidL W) : Tab W := by
  rw [MakeChecks.laidMetH_plain _ _ _ (by kernel_rfl)] at h
  exact Lib.tabIs_of_head (k := .u64) (zs := Lib.pow10Tab) gTab (by kernel_rfl) Tryd.underlying109 Tryd.underlying95 (by kernel_rfl) (by kernel_rfl) h.tail.tail
set_option maxRecDepth 100000 in
theorem lifted (os : Os) (started : os.Started) (H : Type) (enc : TypeId × Value → H) :
    ReturnsInHanded {} Tryd.checked os 3 .any (fun w args => (Rows.fnFieldsAgainSpec.pre enc Tryd.prog Tryd.f3 [] false w args ∧ laidMetH Tryd.prog laidL w) ∧ sizedMet enc Tryd.prog Tryd.f3 (OpenSpec.ofChange Rows.fnFieldsAgainSpec) false w args) (Rows.fnFieldsAgainSpec.post enc Tryd.prog Tryd.f3 false true false false) := by
  refine returnsInHanded_of_change_and (C := Tryd.checked) (X := fun w _ => laidMetH Tryd.prog laidL w) (fun _ _ _ hh h => h.of_heap hh) own_ started (by kernel_rfl) Tryd.func3
    (ChangeSpec.witness_shaped (enc := enc) (C := Tryd.checked) (os := os) (X := fun w _ => laidMetH Tryd.prog laidL w) false (World.doorLaid Tryd.prog 4000 os) #[.slice none 0 0] 8 rfl (World.shaped_of_RefB (by kernel_rfl) (by kernel_rfl)) (by kernel_rfl) (by kernel_rfl) (by kernel_rfl) (door_met os _)) ?_
  intro W base args ds gs before hval0 hW _ _ hL _
  have hval : ∀ (j : Nat) t v, Tryd.f3.params[j]? = some t → args[j]? = some v → Value.okWide Tryd.prog W .any base t v := hval0
  have hW' := hW
  have htab := tab_of hL
  obtain ⟨p, q, hA0, hV, rfl, hfz, hnd⟩ := hW
  have hA : DataW.TrodAll enc Tryd.prog W 0 (fun _ => true) true Tryd.f3.params.toList args.toList ds p := hA0
  rw [Tryd.params3] at hA hval
  obtain ⟨v0, vs0, d0, ds0, p0, q0, hargs, rfl, rfl, h0, r0⟩ := trodAll_cons hA
  obtain ⟨rfl, rfl, rfl⟩ := trodAll_nil r0
  obtain rfl : args = #[v0] := by cases args; simp_all
  have w0 := open_u8s (hval 0 22 v0 rfl rfl) h0
  refine (walk W v0 w0 htab).mono fun e W' ⟨he, hb⟩ => ?_
  subst he
  exact ⟨_, rfl, law_post laidOut (by kernel_rfl) rfl rfl Tryd.underlying4 (fun gs' h => by subst h; rfl) hW' hb⟩

theorem closed_ : joinedFacts Tryd.prog 3 Tryd.f3 Rows.fnFieldsAgainSpec Rows.fnFieldsAgainRow = true := by
  unfold joinedFacts
  rw [mayEnter_, liftsFinal_, make_, laidOut_, mapsRowed_, stopsHeard_]
  kernel_rfl

theorem row_holds : Rows.FnFieldsAgainSaid :=
  OpenClaim.holds_of_wide 3 Tryd.f3 rfl rfl rfl rfl rfl rfl rfl ⟨rfl, rfl, rfl, rfl, rfl⟩ rfl rfl rfl rfl rfl (by kernel_rfl) Tryd.func3 closed_
    (of_decide_eq_true (by kernel_rfl)) (by unfold Func.isWrapper; first | (rw [if_pos (by decide +kernel)]; kernel_rfl) | (rw [if_neg (by decide +kernel)]; exact ⟨rfl, rfl⟩))
    (fun os started H enc _ => lifted os started H enc)
theorem proved : Rows.FnFieldsAgainCardSaid :=
  Claim7.holds_tied_plain_at .later [] [.data, .data, .data] true (true, "e237502f62a1fcf744cbf13f53634d41c40dc214f60e4a1aaddad8da9800779b") false
    row_holds (fun _ h => by cases h) (by kernel_rfl) (fun _ h => by cases h) fnFieldsAgain_row_tie rfl ⟨rfl, rfl⟩ (by kernel_rfl) rfl
    (fun f fn hf hfn => by
      obtain rfl : f = 3 := Option.some.inj ((show Tryd.prog.funcNamed "loop.example/g03315/laws.FnFieldsAgain" = some 3 by kernel_rfl).symm.trans hf) |>.symm
      obtain rfl : fn = Tryd.f3 := (Option.some.inj (Tryd.func3.symm.trans hfn)).symm
      exact ⟨by kernel_rfl, fun j t ht => by
        rw [Tryd.params3] at ht
        have hm : t ∈ [22] := by simpa using Array.mem_of_getElem? ht
        have hall : ([22].all fun u => !Tryd.prog.wantsStandIn u) = true := by kernel_rfl
        exact (show Tryd.prog.wantsStandIn t = false by simpa using List.all_eq_true.1 hall t hm)⟩)
    (by kernel_rfl)
end Go.Proofs.YtiopbdodegopdaaDoor.fnFieldsAgain
