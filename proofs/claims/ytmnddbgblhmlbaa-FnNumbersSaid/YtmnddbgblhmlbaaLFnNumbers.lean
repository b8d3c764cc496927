/- For every input the law FnNumbers returns true and leaves what was in memory as it was. No condition. -/
import Derived.Test.YtmnddbgblhmlbaaUpk
import Derived.Test.YtmnddbgblhmlbaaPkI
import Derived.Test.YtmnddbgblhmlbaaFrame
import Derived.Test.YtmnddbgblhmlbaaOrd
namespace Go.Proofs.Ytmnddbgblhmlbaa.fnNumbers
open Go.ChangeShapes Go.WideShapes Go.ChangeAt Go.RowKit
open Go.ChangeMaps (open_string shut_string)
set_option linter.unusedVariables false

theorem big_no (ao : Option Addr) (n cap : Nat) (w : World) (h : ¬ (1048576 : Int) < (n : Int)) :
    Calls Try.prog 16 #[.slice ao n cap] w fun e w' => e = .returned (.bool false) ∧ w = w' := by
  go_enter Try.func16, Try.ntmps16
  go_wp2
  go_ret
  exact ⟨rfl, rfl⟩
theorem atV_bd {l : List Int} (hw : ∀ n ∈ l, (Lit.int .u8 n).wf = true) (i : Int) : 0 ≤ atV l i ∧ atV l i ≤ 255 := by
  unfold atV
  split
  · omega
  · rw [List.getD]
    cases hx : l[((i * 5 + 1) % (l.length : Int)).toNat]? with
    | none => simp
    | some x =>
      have := Go.bounds_u8 (hw x (List.mem_of_getElem? hx))
      simp
      omega
set_option maxHeartbeats 400000 in
theorem sameints_ret {va vb : Value} {l : List Int} (w : World) (ha : At w 1 va l.length (l.map (Value.int .i64))) (hb : At w 1 vb l.length (l.map (Value.int .i64))) (hm : l.length ≤ 1099511627776) :
    Calls Try.prog 49 #[va, vb] w fun e w' => e = .returned (.bool true) ∧ ∃ k, w' = w.drewN k := by
  obtain ⟨ao, cap, rfl, hca⟩ := ha.cell
  obtain ⟨bo, cap2, rfl, hcb⟩ := hb.cell
  go_enter Try.func49, Try.ntmps49
  go_wp2
  go_loopw [5] (fun i wr => ∃ k : Nat, k ≤ l.length ∧ i = .int .i64 k ∧ ∃ d, wr = w.drewN d) (fun i _ => l.length - (intOf i).toNat)
  case atStart => exact ⟨0, Nat.zero_le _, rfl, 0, rfl⟩
  case round =>
    obtain ⟨k, hk, rfl, d, rfl⟩ := hrel
    by_cases hlt : k < l.length
    · obtain ⟨g, off, rfl, hg, hcell⟩ := hca (by omega)
      obtain ⟨g2, off2, rfl, hg2, hcell2⟩ := hcb (by omega)
      clear hca hcb
      have c1 := hcell k hlt
      have c2 := hcell2 k hlt
      clear hcell hcell2
      go_wp2
      go_region
      go_wp2
      go_roundw
      case rel => exact ⟨k + 1, by omega, by go_num, d + 1, rfl⟩
      case measure => simp [intOf]; omega
    · go_wp2
      go_ret
      exact ⟨rfl, d, rfl⟩
theorem dec_mid (a s b : ByteArray) {n : Int} (h0 : 0 ≤ n) (h1 : n ≤ 1099511627775) (hs : s = encVar n) : decA (a ++ s ++ b) (a.size : Nat) = (n, (s.size : Int), true) := by
  rw [decA_nat, ByteArray.data_append, Array.toList_append, ByteArray.data_append, Array.toList_append, List.append_assoc]
  have e : a.size = a.data.toList.length := by simp
  rw [e, List.drop_left, hs]
  show decV (encV n ++ b.data.toList) = _
  rw [decV_enc h0 h1]
  rfl
theorem unpI_mid (a t b : ByteArray) {l : List Int} (hl : l.length ≤ 1000) (hok : okS l = true) (ht : t = packI l) : unpI (a ++ t ++ b) (a.size : Nat) = (l, (t.size : Int), true) := by
  have hd : (a ++ t ++ b).data.toList = a.data.toList ++ (encV (l.length : Nat) ++ (encsL l ++ b.data.toList)) := by
    rw [ByteArray.data_append, Array.toList_append, ByteArray.data_append, Array.toList_append, ht, packI_yes hok]
    simp
  have e : a.size = a.data.toList.length := by simp
  have hdec : decA (a ++ t ++ b) (a.size : Nat) = ((l.length : Int), ((encV (l.length : Nat)).length : Int), true) := by
    rw [decA_nat, hd, e, List.drop_left]
    exact decV_enc (by omega) (by omega) _
  have hr : rdI l.length ((a ++ t ++ b).data.toList.drop (a.size + (encV (l.length : Nat)).length)) = some (l, (encsL l).length) := by
    rw [← List.drop_drop, hd, e, List.drop_left, List.drop_left]
    exact rdI_encs _ _ hok
  rw [unpI_some hdec hr]
  have hts : t.size = (encV (l.length : Nat)).length + (encsL l).length := by
    rw [ht, packI_yes hok]
    show (encV (l.length : Nat) ++ encsL l).toArray.size = _
    simp
  rw [hts]
  simp
theorem unpA_mid (s b : ByteArray) (hs : s.size ≤ 1000) : unpA (packT s ++ b) 0 = (s, ((packT s).size : Int), true) := by
  have hd : (packT s ++ b).data.toList = encV (s.size : Nat) ++ (s.data.toList ++ b.data.toList) := by
    unfold packT
    rw [ByteArray.data_append, Array.toList_append, ByteArray.data_append, Array.toList_append, List.append_assoc]
    rfl
  have hdec : decA (packT s ++ b) ((0 : Nat) : Int) = ((s.size : Int), ((encV (s.size : Nat)).length : Int), true) := by
    rw [decA_nat, hd, List.drop_zero]
    exact decV_enc (by omega) (by omega) _
  have hps : (packT s).size = (encV (s.size : Nat)).length + s.size := by
    unfold packT
    rw [ByteArray.size_append]
    rfl
  have hsz : (packT s ++ b).size = (encV (s.size : Nat)).length + s.size + b.size := by rw [ByteArray.size_append, hps]
  have h := unpA_yes hdec (by omega)
  have hx : (packT s ++ b).extract (0 + (encV (s.size : Nat)).length) (0 + (encV (s.size : Nat)).length + s.size) = s := by
    apply Go.WideShapes.bytes_inj
    rw [S_ext, hd, Nat.zero_add, List.drop_left]
    have e : s.size = s.data.toList.length := by simp
    rw [e, List.take_left]
  rw [hx] at h
  rw [hps]
  have h0 : ((0 : Nat) : Int) = 0 := rfl
  rw [h0] at h
  rw [h]
  simp

set_option maxHeartbeats 1000000 in
theorem walk (w : World) (a0 : Value) (w0 : Arg_u8s w a0) :
    Calls Try.prog 11 #[a0] w fun e w' => e = .returned (.bool true) ∧ Below w.heap.size w w' := by
  obtain ⟨l, hat, hwf⟩ := w0
  by_cases hbig : (1048576 : Int) < (l.length : Int)
  · obtain ⟨ao, cap, rfl, _⟩ := hat.cell
    go_enter Try.func11, Try.ntmps11
    go_wp2
    go_ret
    exact ⟨rfl, Below.refl _ _⟩
  have b0 := atV_bd hwf 0
  have b1 := atV_bd hwf 1
  have b2 := atV_bd hwf 2
  have b3 := atV_bd hwf 3
  have b4 := atV_bd hwf 4
  have hm : l.length ≤ 1048576 := by omega
  have HA : ∀ (i : Int) (wx : World), Below w.heap.size w wx → 0 ≤ i → i ≤ 1000 → Calls Try.prog 42 #[a0, .int .i64 i] wx fun e w' => e = .returned (.int .i64 (atV l i)) ∧ wx = w' := fun i wx hb h1 h2 => at_ret _ l _ _ (hat.below hb) h1 h2 hm hwf
  have hp0 : 0 ≤ atV l 0 * atV l 1 := Int.mul_nonneg b0.1 b1.1
  have hp1 : atV l 0 * atV l 1 ≤ 255 * 255 := Int.mul_le_mul b0.2 b1.2 b1.1 (by omega)
  have hq0 : 0 ≤ atV l 0 * atV l 1 * atV l 2 := Int.mul_nonneg hp0 b2.1
  have hq1 : atV l 0 * atV l 1 * atV l 2 ≤ 255 * 255 * 255 := Int.mul_le_mul hp1 b2.2 b2.1 (by omega)
  obtain ⟨a4, ha4⟩ : ∃ x, x = atV l 4 := ⟨_, rfl⟩
  have HA4 := HA 4
  rw [← ha4] at b4 HA4
  obtain ⟨a3, ha3⟩ : ∃ x, x = atV l 3 := ⟨_, rfl⟩
  have HA3 := HA 3
  rw [← ha3] at b3 HA3
  have HA0 := HA 0
  have HA1 := HA 1
  have HA2 := HA 2
  clear ha3 ha4
  obtain ⟨x0, hx0⟩ : ∃ x, x = atV l 0 := ⟨_, rfl⟩
  obtain ⟨x1, hx1⟩ : ∃ x, x = atV l 1 := ⟨_, rfl⟩
  obtain ⟨x2, hx2⟩ : ∃ x, x = atV l 2 := ⟨_, rfl⟩
  rw [← hx0] at hp0 hp1 hq0 hq1 HA0 b0
  rw [← hx1] at hp0 hp1 hq0 hq1 HA1 b1
  rw [← hx2] at hq0 hq1 HA2 b2
  clear hx0 hx1 hx2 HA
  obtain ⟨n, hn⟩ : ∃ n, n = x0 * x1 * x2 * 256 + a3 := ⟨_, rfl⟩
  have hn0 : 0 ≤ n := by omega
  have hn1 : n ≤ 4300000000 := by omega
  have HE : ∀ wx, Calls Try.prog 44 #[.int .i64 n] wx fun e w' => e = .returned (.string (encVar n)) ∧ Below wx.heap.size wx w' := fun wx => enc_impl n wx
  have hS := encVar_size n
  have HD := dec_mid ⟨#[120]⟩ (encVar n) ⟨#[128]⟩ hn0 (by omega) rfl
  have HP := fun wx => pack_impl (encVar n) wx (by omega)
  have HU := unpA_mid (encVar n) ⟨#[122, 122]⟩ (by omega)
  have hT := packT_size (encVar n)
  obtain ⟨S, hSe⟩ : ∃ S, S = encVar n := ⟨_, rfl⟩
  rw [← hSe] at HE hS HD HP HU hT
  clear hSe
  have HDC : ∀ wx, Calls Try.prog 45 #[.string (⟨#[120]⟩ ++ S ++ ⟨#[128]⟩), .int .i64 1] wx fun e w' => e = .returned (.tuple #[.int .i64 n, .int .i64 (S.size : Int), .bool true]) ∧ wx = w' := fun wx => decv_impl_at wx (by rw [ByteArray.size_append, ByteArray.size_append]; show 1 + S.size + 1 ≤ _; omega) HD
  clear HD
  obtain ⟨P, hPe⟩ : ∃ P, P = packT S := ⟨_, rfl⟩
  rw [← hPe] at HP HU hT
  clear hPe
  have HUC : ∀ wx, Calls Try.prog 48 #[.string (P ++ ⟨#[122, 122]⟩), .int .i64 0] wx fun e w' => e = .returned (.tuple #[.string S, .int .i64 (P.size : Int), .bool true]) ∧ wx = w' := fun wx => unp_impl_at (by rw [ByteArray.size_append]; show P.size + 2 ≤ _; omega) HU wx
  clear HU
  have hok : okS [n, -n, a4, -1] = true := by
    simp only [okS, List.all_cons, List.all_nil, Bool.and_true, Bool.and_eq_true, decide_eq_true_eq]
    refine ⟨?_, ?_, ?_, ?_⟩ <;> (unfold signless; split <;> (try split) <;> omega)
  have HQ : ∀ {v : Value} (wx : World), At wx 1 v 4 ([n, -n, a4, -1].map (Value.int .i64)) → Calls Try.prog 31 #[v] wx fun e w' => e = .returned (.string (packI [n, -n, a4, -1])) ∧ Below wx.heap.size wx w' := fun wx h => pki_impl wx h (by show 4 ≤ 1048576; omega)
  have HR := unpI_mid ⟨#[97, 98]⟩ (packI [n, -n, a4, -1]) ⟨#[99]⟩ (by show 4 ≤ 1000; omega) hok rfl
  have hTI : (packI [n, -n, a4, -1]).size ≤ 30 := by
    rw [packI_yes hok]
    show (encV _ ++ encsL _).toArray.size ≤ 30
    have e1 := encV_len (([n, -n, a4, -1] : List Int).length : Nat)
    have e2 := encsL_len [n, -n, a4, -1]
    simp only [List.size_toArray, List.length_append]
    simp only [List.length_cons, List.length_nil] at e1 e2 ⊢
    omega
  clear hok
  obtain ⟨T, hTe⟩ : ∃ T, T = packI [n, -n, a4, -1] := ⟨_, rfl⟩
  rw [← hTe] at HR hTI
  simp only [← hTe] at HQ
  clear hTe
  have HRC : ∀ wx, Calls Try.prog 46 #[.string (⟨#[97, 98]⟩ ++ T ++ ⟨#[99]⟩), .int .i64 2] wx fun e w' => ∃ u, e = .returned (.tuple #[u, .int .i64 (T.size : Int), .bool true]) ∧ Own w' wx.heap.size 1 u 4 ([n, -n, a4, -1].map (Value.int .i64)) ∧ Below wx.heap.size wx w' := fun wx => by
    have h := upk_impl (⟨#[97, 98]⟩ ++ T ++ ⟨#[99]⟩) 2 wx (by rw [ByteArray.size_append, ByteArray.size_append]; show 2 + T.size + 1 ≤ _; omega)
    have h2 : unpI (⟨#[97, 98]⟩ ++ T ++ ⟨#[99]⟩) 2 = ([n, -n, a4, -1], (T.size : Int), true) := HR
    rw [h2] at h
    exact h
  clear HR
  have hsl : (0 < n ∧ signless (-n) = 2 * n - 1) ∨ (n = 0 ∧ signless (-n) = 0) := by
    by_cases h0 : n = 0
    · right; refine ⟨h0, ?_⟩; rw [h0]; rfl
    · left; refine ⟨by omega, ?_⟩; rw [signless_neg (by omega) (by omega)]; omega
  have hsb := signless_bd (-n)
  have hss : signed (signless (-n)) = -n := signed_signless (by omega)
  have HS1 : ∀ wx, Calls Try.prog 51 #[.int .i64 (-n)] wx fun e w' => e = .returned (.int .i64 (signless (-n))) ∧ wx = w' := fun wx => signless_impl _ wx
  have HS2 : ∀ wx, Calls Try.prog 50 #[.int .i64 (signless (-n))] wx fun e w' => e = .returned (.int .i64 (-n)) ∧ wx = w' := fun wx => (signed_impl _ wx).mono fun e w' ⟨h1, h2⟩ => ⟨by rw [h1, hss], h2⟩
  have HS3 : ∀ wx, Calls Try.prog 51 #[.int .i64 n] wx fun e w' => e = .returned (.int .i64 (2 * n)) ∧ wx = w' := fun wx => (signless_impl _ wx).mono fun e w' ⟨h1, h2⟩ => ⟨by rw [h1, signless_pos hn0 (by omega)], h2⟩
  obtain ⟨sl, hsle⟩ : ∃ x, x = signless (-n) := ⟨_, rfl⟩
  rw [← hsle] at HS1 HS2
  clear hsle hsl hsb hss
  obtain ⟨ao, cap, rfl, _⟩ := hat.cell
  go_enter Try.func11, Try.ntmps11
  go_wp2_with fail
  refine (big_no _ _ _ _ (by omega)).mono ?_
  rintro e wx ⟨rfl, rfl⟩
  go_wp2_with fail
  refine (HA0 _ (Below.refl _ _) (by omega) (by omega)).mono ?_
  rintro e wx ⟨rfl, rfl⟩
  go_wp2_with fail
  refine (HA1 _ (Below.refl _ _) (by omega) (by omega)).mono ?_
  rintro e wx ⟨rfl, rfl⟩
  go_wp2_with fail
  refine (HA2 _ (Below.refl _ _) (by omega) (by omega)).mono ?_
  rintro e wx ⟨rfl, rfl⟩
  go_wp2_with fail
  refine (HA3 _ (Below.refl _ _) (by omega) (by omega)).mono ?_
  rintro e wx ⟨rfl, rfl⟩
  have HN := Lib.hid hn
  go_wp2_with fail
  rw [← HN.out]
  clear hn
  refine (HE _).mono ?_
  rintro e wa ⟨rfl, ha⟩
  have hsa := ha.size
  go_wp2_with fail
  refine (HDC _).mono ?_
  rintro e wx ⟨rfl, rfl⟩
  go_wp2_with fail
  refine (HA4 _ ha (by omega) (by omega)).mono ?_
  rintro e wx ⟨rfl, rfl⟩
  go_wp2_with fail
  have hlit : Own (wa.alloc (.cells #[.int .i64 n, .int .i64 (-n), .int .i64 a4, .int .i64 (-1)] 3)) wa.heap.size 1 (.slice (some ⟨wa.heap.size, 0, none⟩) 4 4) 4 ([n, -n, a4, -1].map (Value.int .i64)) := Own.lit 3 rfl rfl (Nat.le_refl _) (by unfold maxLen; omega)
  have hal : Below w.heap.size w (wa.alloc (.cells #[.int .i64 n, .int .i64 (-n), .int .i64 a4, .int .i64 (-1)] 3)) := ha.alloc hsa _
  have hsal := hal.size
  refine (HQ _ hlit.at_).mono ?_
  rintro e wb ⟨rfl, hb⟩
  have hlb : Own wb _ 1 _ 4 _ := hlit.below hb (fun g hg => (hlit.ge g hg).2)
  have hbb := hal.trans (hb.mono hsal)
  have hsb := hbb.size
  go_wp2_with fail
  refine (HRC _).mono ?_
  rintro e wc ⟨u, rfl, hu, hc⟩
  have hlc : Own wc _ 1 _ 4 _ := hlb.below hc (fun g hg => (hlb.ge g hg).2)
  have hbc := hbb.trans (hc.mono hsb)
  have hsc := hbc.size
  go_wp2_with fail
  refine (HP _).mono ?_
  rintro e wd ⟨rfl, hd⟩
  have hld : Own wd _ 1 _ 4 _ := hlc.below hd (fun g hg => (hlc.ge g hg).2)
  have hud : Own wd _ 1 u 4 _ := hu.below hd (fun g hg => (hu.ge g hg).2)
  have hbd := hbc.trans (hd.mono hsc)
  go_wp2_with fail
  refine (HUC _).mono ?_
  rintro e wx ⟨rfl, rfl⟩
  go_wp2_with fail
  refine (sameints_ret (l := [n, -n, a4, -1]) _ hud.at_ hld.at_ (by show 4 ≤ 1099511627776; omega)).mono ?_
  rintro e we ⟨rfl, kd, rfl⟩
  go_wp2_with fail
  refine (HS1 _).mono ?_
  rintro e wx ⟨rfl, rfl⟩
  go_wp2_with fail
  refine (HS2 _).mono ?_
  rintro e wx ⟨rfl, rfl⟩
  go_wp2_with fail
  refine (HS3 _).mono ?_
  rintro e wx ⟨rfl, rfl⟩
  go_wp2_with fail
  go_ret
  exact ⟨rfl, below_drewN hbd kd⟩

set_option maxRecDepth 100000 in
theorem lifted (os : Os) (started : os.Started) (H : Type) (enc : TypeId × Value → H) :
    ReturnsInHanded {} Try.checked os 11 .any (Rows.fnNumbersSpec.pre6 enc Try.prog Try.f11 Rows.fnNumbersRow.domain false) (Rows.fnNumbersSpec.post enc Try.prog Try.f11 false true false false) := by
  refine returnsInHanded_of_change (C := Try.checked) own_ started (by kernel_rfl) Try.func11
    (ChangeSpec.witness6 (enc := enc) (C := Try.checked) false ⟨#[], #[.slice none 0 0], []⟩ 8 (by kernel_rfl) (by kernel_rfl) (by kernel_rfl) (by kernel_rfl)) ?_
  intro W base args ds gs before hval0 hW hcnd _
  have hval : ∀ (j : Nat) t v, Try.f11.params[j]? = some t → args[j]? = some v → Value.okWide Try.prog W .any base t v := hval0
  have hW' := hW
  obtain ⟨p, q, hA0, hV, rfl, hfz, hnd⟩ := hW
  have hA : DataW.TrodAll enc Try.prog W 0 (fun _ => true) true Try.f11.params.toList args.toList ds p := hA0
  rw [Try.params11] at hA hval
  obtain ⟨v0, vs0, d0, ds0, p0, q0, hargs, rfl, rfl, h0, r0⟩ := trodAll_cons hA
  obtain ⟨rfl, rfl, rfl⟩ := trodAll_nil r0
  obtain rfl : args = #[v0] := by cases args; simp_all
  have w0 := open_u8s (hval 0 22 v0 rfl rfl) h0
  refine (walk W v0 w0).mono fun e W' ⟨he, hb⟩ => ?_
  subst he
  exact ⟨_, rfl, law_post laidOut (by kernel_rfl) rfl rfl Try.underlying4 (fun gs' h => by subst h; rfl) hW' hb⟩

theorem closed_ : joinedFacts Try.prog 11 Try.f11 Rows.fnNumbersSpec Rows.fnNumbersRow = true := by
  unfold joinedFacts
  rw [mayEnter_, liftsFinal_, make_, laidOut_, mapsRowed_, stopsHeard_]
  kernel_rfl

theorem proved : Rows.FnNumbersSaid :=
  OpenClaim.holds_of_wide 11 Try.f11 rfl rfl rfl rfl rfl rfl rfl ⟨rfl, rfl, rfl, rfl, rfl⟩ rfl rfl rfl rfl rfl (by kernel_rfl) Try.func11 closed_
    (of_decide_eq_true (by kernel_rfl)) (by unfold Func.isWrapper; first | (rw [if_pos (by decide +kernel)]; kernel_rfl) | (rw [if_neg (by decide +kernel)]; exact ⟨rfl, rfl⟩))
    (fun os started H enc _ => lifted os started H enc)
end Go.Proofs.Ytmnddbgblhmlbaa.fnNumbers
