/- For every input the law FnSealed returns true and leaves what was in memory as it was. No condition. -/
import Derived.Test.YtmnddbgblhmlbaaSea
import Derived.Deep.RegionWith
import Derived.Deep.DeepCutAuto
import Derived.Deep.CutBlock
import Derived.Test.YtmnddbgblhmlbaaFrame
import Derived.Test.YtmnddbgblhmlbaaOrd
namespace Go.Proofs.Ytmnddbgblhmlbaa.fnSealed
open Go.ChangeShapes Go.WideShapes Go.ChangeAt Go.RowKit
open Go.ChangeMaps (open_string shut_string)
set_option linter.unusedVariables false

theorem atV_bd {l : List Int} (hw : ∀ n ∈ l, (Lit.int .u8 n).wf = true) (i : Int) : 0 ≤ atV l i ∧ atV l i ≤ 255 := by
  unfold atV
  split
  · omega
  · rw [List.getD]
    cases hx : l[((i * 5 + 1) % (l.length : Int)).toNat]? with
    | none => simp
    | some x =>
      have := Go.bounds_u8 (hw x (List.mem_of_getElem? hx))
      simp
      omega
theorem conv_one (w : World) (y : UInt8) : (convert 22 9 (.slice (some ⟨w.heap.size, 0, none⟩) 1 1)).run Try.prog (w.alloc (.cells #[.int .u8 (y.toNat : Int)] 5)).drew = .ok (.string ⟨#[y]⟩) (w.alloc (.cells #[.int .u8 (y.toNat : Int)] 5)).drew :=
  run_string_at (P := Try.prog) _ 22 9 5 Try.underlying22 Try.underlying5 Try.underlying9 _ 1 [y] (Own.lit (base := 0) (sz := 1) (n := 1) 5 rfl rfl (Nat.zero_le _) (by unfold maxLen; omega)).drew.at_
set_option maxRecDepth 100000 in
set_option maxHeartbeats 40000000 in
theorem walk (w : World) (a0 : Value) (w0 : Arg_u8s w a0) :
    Calls Try.prog 10 #[a0] w fun e w' => e = .returned (.bool true) ∧ Below w.heap.size w w' := by
  obtain ⟨l, hat, hwf⟩ := w0
  by_cases hbig : (1048576 : Int) < (l.length : Int)
  · obtain ⟨ao, cap, rfl, _⟩ := hat.cell
    go_enter Try.func10, Try.ntmps10
    go_wp2
    go_ret
    exact ⟨rfl, Below.refl _ _⟩
  have hd : Code8 w a0 l := ⟨hat, hwf, by omega⟩
  have hm : l.length ≤ 1048576 := by omega
  have HA : ∀ (i : Int) (wx : World), Below w.heap.size w wx → 0 ≤ i → i ≤ 1000 → Calls Try.prog 42 #[a0, .int .i64 i] wx fun e w' => e = .returned (.int .i64 (atV l i)) ∧ wx = w' := fun i wx hb h1 h2 => at_ret _ l _ _ (hat.below hb) h1 h2 hm hwf
  have b0 := atV_bd hwf 0
  have b1 := atV_bd hwf 1
  have HA0 := HA 0
  have HA1 := HA 1
  obtain ⟨x0, hx0⟩ : ∃ x, x = atV l 0 := ⟨_, rfl⟩
  obtain ⟨x1, hx1⟩ : ∃ x, x = atV l 1 := ⟨_, rfl⟩
  rw [← hx0] at HA0 b0
  rw [← hx1] at HA1 b1
  clear hx0 hx1 HA
  obtain ⟨ao, cap, rfl, _⟩ := hat.cell
  go_enter Try.func10, Try.ntmps10
  go_wp2_with fail
  refine (big_no _ _ _ _ (by omega)).mono ?_
  rintro e wx ⟨rfl, rfl⟩
  go_wp2_with fail
  refine (drawtwins_ret _ hd).mono ?_
  rintro e wa ⟨a, b, rfl, ha, hb, hba⟩
  clear hd hwf hat hbig hb
  have hss := sealT_size a
  have hop := seal_opens a
  have hbs : (sealT a).size ≤ 104 := by omega
  have C1 : ∀ wx, Calls Try.prog 40 #[.string a] wx fun e w' => e = .returned (.string (sealT a)) ∧ Below wx.heap.size wx w' := fun wx => seal_impl a wx (by omega)
  have C2 : ∀ wx, Calls Try.prog 41 #[.string (sealT a)] wx fun e w' => e = .returned (.tuple #[.string a, .bool true]) ∧ Below wx.heap.size wx w' := fun wx => by
    have := open_impl (sealT a) wx (by omega)
    rw [hop.1, hop.2] at this
    exact this
  have C5 : ∀ wx, Calls Try.prog 43 #[.string a] wx fun e w' => e = .returned (.int .i64 (cksum a)) ∧ wx = w' := fun wx => ck_impl a wx (by unfold maxLen; omega)
  have hck := (cksum_bd a).1
  obtain ⟨C, hC⟩ : ∃ C, C = cksum a := ⟨_, rfl⟩
  rw [← hC] at hck
  simp only [← hC] at C5
  clear hC
  have HT0 : ∀ s : ByteArray, s = sealT a → ∀ (k : Nat) (y : UInt8) (hk : k < s.size), y ≠ s[k]'hk → openB (tam s k y) = false := by
    rintro s rfl k y hk hy
    exact tam_bad hk hy
  obtain ⟨s, hs⟩ : ∃ s, s = sealT a := ⟨_, rfl⟩
  simp only [← hs] at C1 C2 hss hbs
  have HT1 := HT0 s hs
  clear HT0 hs hop
  -- the place and the byte
  have hmod0 : 0 ≤ x0 % (s.size : Int) := Int.emod_nonneg _ (by omega)
  have hmod1 : x0 % (s.size : Int) < (s.size : Int) := Int.emod_lt_of_pos _ (by omega)
  obtain ⟨k, hk⟩ := Int.eq_ofNat_of_zero_le hmod0
  have hks : k < s.size := by omega
  obtain ⟨m, hmm⟩ : ∃ m : UInt8, m = b8 (1 + x1 % 255) := ⟨_, rfl⟩
  have hmn : ((m.toNat : Nat) : Int) = 1 + x1 % 255 := by rw [hmm]; exact b8_nat (by omega) (by omega)
  clear hmm
  obtain ⟨y, hy⟩ : ∃ y : UInt8, y = (s[k]'hks) ^^^ m := ⟨_, rfl⟩
  have hyx : bits .xor .u8 (((s[k]'hks).toNat : Nat) : Int) (1 + x1 % 255) = ((y.toNat : Nat) : Int) := by rw [← hmn, hy]; exact xor_u8 _ _
  have hyne : y ≠ s[k]'hks := by
    intro e
    have e2 : m = 0 := by
      have := congrArg (fun z => (s[k]'hks) ^^^ z) (hy.symm.trans e)
      rw [← UInt8.xor_assoc, UInt8.xor_self, UInt8.zero_xor] at this
      exact this
    rw [e2] at hmn
    have h0 : ((0 : UInt8).toNat : Int) = 0 := rfl
    omega
  have HBad := HT1 k y hks hyne
  have hne := tam_ne hks hyne
  have hts := tam_size (y := y) hks
  have C4 : ∀ wx, Calls Try.prog 41 #[.string (tam s k y)] wx fun e w' => e = .returned (.tuple #[.string ⟨#[]⟩, .bool false]) ∧ Below wx.heap.size wx w' := fun wx => by
    have := open_impl (tam s k y) wx (by omega)
    rw [HBad, openT_no HBad] at this
    exact this
  have hnb : ((tam s k y).toList == s.toList) = false := by
    rw [beq_eq_false_iff_ne, Lib.toList_data, Lib.toList_data]
    intro e
    exact hne (Go.WideShapes.bytes_inj e)
  clear HT1 HBad hne hts hyne hmn hy m
  have hlen4 : ((s.size : Int) == (a.size : Int) + 4) = true := by rw [beq_iff_eq]; omega
  have hsn : 4 ≤ s.size := by omega
  clear hss
  unfold tam at C4 hnb
  have hb0 : ((s.size : Int) == 0) = false := beq_eq_false_iff_ne.2 (by omega)
  go_wp2_with fail
  refine (C1 _).mono ?_
  rintro e wb ⟨rfl, hb1⟩
  have hbb := hba.trans (hb1.mono hba.size)
  go_wp2_with fail
  refine (C2 _).mono ?_
  rintro e wc ⟨rfl, hb2⟩
  have hbc := hbb.trans (hb2.mono hbb.size)
  go_wp2_with fail
  refine (HA0 _ hbc (by omega) (by omega)).mono ?_
  rintro e wx ⟨rfl, rfl⟩
  have e1 : x1.tmod 255 = x1 % 255 := IntWalk.rem_in _ _ (by omega)
  have e2 : IntKind.i64.wrap (x1 % 255) = x1 % 255 := IntWalk.i64_in _ (by omega)
  have e3 : IntKind.i64.wrap (1 + x1 % 255) = 1 + x1 % 255 := IntWalk.i64_in _ (by omega)
  have e4 : IntKind.u8.wrap (1 + x1 % 255) = 1 + x1 % 255 := by simp [IntKind.wrap, IntKind.bits, IntKind.signed]; omega
  have hw : IntKind.i64.wrap ((k : Int) + 1) = (k : Int) + 1 := IntWalk.i64_in _ (by omega)
  have hk2 : k + 1 ≤ s.size := by omega
  have hk3 : (k : Int) + 1 ≤ (s.size : Int) := by omega
  have hk4 : (0 : Int) ≤ (k : Int) + 1 := by omega
  have hk5 : (k : Int) < (s.size : Int) := by omega
  have hs1 : (s.extract 0 k).size + (⟨#[y]⟩ : ByteArray).size ≤ 9223372036854775807 := by
    have : (⟨#[y]⟩ : ByteArray).size = 1 := rfl
    rw [ByteArray.size_extract]; omega
  have hs2 : (s.extract 0 k ++ ⟨#[y]⟩).size + (s.extract (k + 1) s.size).size ≤ 9223372036854775807 := by
    have : (⟨#[y]⟩ : ByteArray).size = 1 := rfl
    rw [ByteArray.size_append, ByteArray.size_extract, ByteArray.size_extract]; omega
  have HC := conv_one wc y
  have hbd : Below w.heap.size w wc.drew := hbc.drew
  have hbal := (hbc.alloc hbc.size (.cells #[.int .u8 (y.toNat : Int)] 5)).drew
  go_upto_region 7 with (fail)
  rw [hk]
  go_cut [9] (fun v wx => v = .string ((s.extract 0 k ++ ⟨#[y]⟩) ++ s.extract (k + 1) s.size) ∧ Below w.heap.size w wx)
  case first =>
    go_region_with (first
      | (go_at_call 42; with_reducible refine (HA1 _ hbd (by omega) (by omega)).mono ?_; rintro e wx ⟨rfl, rfl⟩)
      | (go_at_call 42; with_reducible refine (HA1 _ hbal (by omega) (by omega)).mono ?_; rintro e wx ⟨rfl, rfl⟩))
    all_goals
      go_wp2_with fail
      (try go_simp)
      go_meet
      exact ⟨by first | rfl | simp, hbal⟩
  case rest =>
    obtain ⟨rfl, hbw⟩ := hcut
    go_wp2_with fail
    refine (C4 _).mono ?_
    rintro e wd ⟨rfl, hb4⟩
    have hbf := hbw.trans (hb4.mono hbw.size)
    go_wp2_with fail
    refine (C5 _).mono ?_
    rintro e wx ⟨rfl, rfl⟩
    go_wp2_with fail
    go_ret
    exact ⟨rfl, hbf⟩

set_option maxRecDepth 100000 in
theorem lifted (os : Os) (started : os.Started) (H : Type) (enc : TypeId × Value → H) :
    ReturnsInHanded {} Try.checked os 10 .any (Rows.fnSealedSpec.pre6 enc Try.prog Try.f10 Rows.fnSealedRow.domain false) (Rows.fnSealedSpec.post enc Try.prog Try.f10 false true false false) := by
  refine returnsInHanded_of_change (C := Try.checked) own_ started (by kernel_rfl) Try.func10
    (ChangeSpec.witness6 (enc := enc) (C := Try.checked) false ⟨#[], #[.slice none 0 0], []⟩ 8 (by kernel_rfl) (by kernel_rfl) (by kernel_rfl) (by kernel_rfl)) ?_
  intro W base args ds gs before hval0 hW hcnd _
  have hval : ∀ (j : Nat) t v, Try.f10.params[j]? = some t → args[j]? = some v → Value.okWide Try.prog W .any base t v := hval0
  have hW' := hW
  obtain ⟨p, q, hA0, hV, rfl, hfz, hnd⟩ := hW
  have hA : DataW.TrodAll enc Try.prog W 0 (fun _ => true) true Try.f10.params.toList args.toList ds p := hA0
  rw [Try.params10] at hA hval
  obtain ⟨v0, vs0, d0, ds0, p0, q0, hargs, rfl, rfl, h0, r0⟩ := trodAll_cons hA
  obtain ⟨rfl, rfl, rfl⟩ := trodAll_nil r0
  obtain rfl : args = #[v0] := by cases args; simp_all
  have w0 := open_u8s (hval 0 22 v0 rfl rfl) h0
  refine (walk W v0 w0).mono fun e W' ⟨he, hb⟩ => ?_
  subst he
  exact ⟨_, rfl, law_post laidOut (by kernel_rfl) rfl rfl Try.underlying4 (fun gs' h => by subst h; rfl) hW' hb⟩

theorem closed_ : joinedFacts Try.prog 10 Try.f10 Rows.fnSealedSpec Rows.fnSealedRow = true := by
  unfold joinedFacts
  rw [mayEnter_, liftsFinal_, make_, laidOut_, mapsRowed_, stopsHeard_]
  kernel_rfl

theorem proved : Rows.FnSealedSaid :=
  OpenClaim.holds_of_wide 10 Try.f10 rfl rfl rfl rfl rfl rfl rfl ⟨rfl, rfl, rfl, rfl, rfl⟩ rfl rfl rfl rfl rfl (by kernel_rfl) Try.func10 closed_
    (of_decide_eq_true (by kernel_rfl)) (by unfold Func.isWrapper; first | (rw [if_pos (by decide +kernel)]; kernel_rfl) | (rw [if_neg (by decide +kernel)]; exact ⟨rfl, rfl⟩))
    (fun os started H enc _ => lifted os started H enc)
end Go.Proofs.Ytmnddbgblhmlbaa.fnSealed
