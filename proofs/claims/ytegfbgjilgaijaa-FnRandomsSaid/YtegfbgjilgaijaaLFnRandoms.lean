/- For every input the law FnRandoms returns true and leaves what was in memory as it was. No condition. -/
import Derived.Test.YtegfbgjilgaijaaAt
import Derived.Test.YtegfbgjilgaijaaRnd
import Derived.Test.YtegfbgjilgaijaaFrame
import Derived.Test.YtegfbgjilgaijaaOrd
namespace Go.Proofs.Ytegfbgjilgaijaa.fnRandoms
open Go.ChangeShapes Go.WideShapes Go.ChangeAt Go.RowKit
open Go.ChangeMaps (open_string shut_string)
set_option linter.unusedVariables false

theorem big_no (ao : Option Addr) (n cap : Nat) (w : World) (h : ¬ (1048576 : Int) < (n : Int)) :
    Calls Try.prog 35 #[.slice ao n cap] w fun e w' => e = .returned (.bool false) ∧ w = w' := by
  go_enter Try.func35, Try.ntmps35
  go_wp2
  go_ret
  exact ⟨rfl, rfl⟩
theorem atV_bd {l : List Int} (hw : ∀ n ∈ l, (Lit.int .u8 n).wf = true) (i : Int) : 0 ≤ atV l i ∧ atV l i ≤ 255 := by
  unfold atV
  split
  · omega
  · rw [List.getD]
    cases hx : l[((i * 5 + 1) % (l.length : Int)).toNat]? with
    | none => simp
    | some x =>
      have := Go.bounds_u8 (hw x (List.mem_of_getElem? hx))
      simp
      omega

set_option maxHeartbeats 1000000 in
theorem walk (w : World) (a0 : Value) (w0 : Arg_u8s w a0) :
    Calls Try.prog 6 #[a0] w fun e w' => e = .returned (.bool true) ∧ Below w.heap.size w w' := by
  obtain ⟨l, hat, hwf⟩ := w0
  by_cases hbig : (1048576 : Int) < (l.length : Int)
  · obtain ⟨ao, cap, rfl, _⟩ := hat.cell
    go_enter Try.func6, Try.ntmps6
    go_wp2
    go_ret
    exact ⟨rfl, Below.refl _ _⟩
  · have b0 := atV_bd hwf 0
    have b1 := atV_bd hwf 1
    have b2 := atV_bd hwf 2
    have b3 := atV_bd hwf 3
    have hp0 : 0 ≤ atV l 2 * atV l 3 := Int.mul_nonneg b2.1 b3.1
    have hp1 : atV l 2 * atV l 3 ≤ 255 * 255 := Int.mul_le_mul b2.2 b3.2 b3.1 (by omega)
    have hm : l.length ≤ 1048576 := by omega
    obtain ⟨ao, cap, rfl, _⟩ := hat.cell
    go_enter Try.func6, Try.ntmps6
    go_wp2_with (first | (go_at_call 35; refine (big_no _ _ _ _ hbig).mono ?_; rintro e w' ⟨rfl, rfl⟩) | (go_at_call 36; refine (at_ret _ l _ _ hat (by omega) (by omega) hm hwf).mono ?_; rintro e w' ⟨rfl, rfl⟩))
    go_loopw [3, 5] (fun v i wr => ∃ (s : Int) (k : Nat), 0 ≤ s ∧ s ≤ 65535 ∧ v = .int .i64 s ∧ k ≤ 12 ∧ i = .int .i64 k ∧ Below w.heap.size w wr) (fun _ i _ => 12 - (intOf i).toNat)
    case atStart => exact ⟨_, 0, by omega, by omega, rfl, by omega, rfl, Below.refl _ _⟩
    case round =>
      obtain ⟨s, k, hs0, hs1, rfl, hk, rfl, hbl⟩ := hrel
      have hn1 : 1 ≤ 1 + atV l 2 * atV l 3 % 4096 := by omega
      by_cases hk12 : k < 12
      · skip
        have hn2 : 1 + atV l 2 * atV l 3 % 4096 ≤ 4096 := by omega
        obtain ⟨n, hn⟩ : ∃ n, n = 1 + atV l 2 * atV l 3 % 4096 := ⟨_, rfl⟩
        rw [← hn] at hn1 hn2
        rw [← hn]
        clear hn
        have hok : rndOk s n := ⟨hs0, hs1, hn1, hn2⟩
        have e1 : rnd1 s n = nextR s := if_pos hok
        have e2 : rnd2 s n = nextR s / 16 % n := if_pos hok
        have hx := nextR_bd s
        have r1 : 0 ≤ nextR s / 16 % n := Int.emod_nonneg _ (by omega)
        have r2 : nextR s / 16 % n < n := Int.emod_lt_of_pos _ (by omega)
        obtain ⟨r, hr⟩ : ∃ r, r = nextR s / 16 % n := ⟨_, rfl⟩
        obtain ⟨x, hxe⟩ : ∃ x, x = nextR s := ⟨_, rfl⟩
        have HX := Lib.hid hxe
        rw [← hr] at r1 r2 e2
        rw [← hxe] at hx e1
        clear hr hxe hok
        have S1 : ∀ wx : World, Calls Try.prog 37 #[.int .i64 s] wx fun e w' => e = .returned (.int .i64 x) ∧ wx = w' := fun wx => by
          rw [HX.out]
          exact next_spec s wx
        have S2 : ∀ wx : World, Calls Try.prog 38 #[.int .i64 s] wx fun e w' => e = .returned (.int .i64 x) ∧ wx = w' := fun wx => by
          rw [HX.out]
          exact next_impl s wx
        go_wp2_with fail
        refine (rnd_impl _ _ _).mono ?_
        rw [e1, e2]
        rintro e wa ⟨rfl, hd⟩
        go_wp2_with fail
        refine (S1 _).mono ?_
        rintro e w1 ⟨rfl, rfl⟩
        go_wp2_with fail
        refine (S2 _).mono ?_
        rintro e w1 ⟨rfl, rfl⟩
        obtain ⟨hx0, hx1⟩ := hx
        by_cases hxs : x = s
        · subst hxs
          go_wp2_with fail
          refine (S2 _).mono ?_
          rintro e w1 ⟨rfl, rfl⟩
          go_wp2_with fail
          go_roundw
          case rel => exact ⟨x, k + 1, hs0, hs1, rfl, by omega, by go_num, hbl.trans (hd.below _)⟩
          case measure => simp [intOf]; omega
        · have hb : (x == s) = false := beq_eq_false_iff_ne.2 hxs
          go_wp2_with fail
          go_roundw
          case rel => exact ⟨x, k + 1, hx0, hx1, rfl, by omega, by go_num, hbl.trans (hd.below _)⟩
          case measure => simp [intOf]; omega
      · go_wp2_with fail
        go_ret
        exact ⟨rfl, hbl⟩

set_option maxRecDepth 100000 in
theorem lifted (os : Os) (started : os.Started) (H : Type) (enc : TypeId × Value → H) :
    ReturnsInHanded {} Try.checked os 6 .any (Rows.fnRandomsSpec.pre6 enc Try.prog Try.f6 Rows.fnRandomsRow.domain false) (Rows.fnRandomsSpec.post enc Try.prog Try.f6 false true false false) := by
  refine returnsInHanded_of_change (C := Try.checked) own_ started (by kernel_rfl) Try.func6
    (ChangeSpec.witness6 (enc := enc) (C := Try.checked) false ⟨#[], #[.slice none 0 0], []⟩ 8 (by kernel_rfl) (by kernel_rfl) (by kernel_rfl) (by kernel_rfl)) ?_
  intro W base args ds gs before hval0 hW hcnd _
  have hval : ∀ (j : Nat) t v, Try.f6.params[j]? = some t → args[j]? = some v → Value.okWide Try.prog W .any base t v := hval0
  have hW' := hW
  obtain ⟨p, q, hA0, hV, rfl, hfz, hnd⟩ := hW
  have hA : DataW.TrodAll enc Try.prog W 0 (fun _ => true) true Try.f6.params.toList args.toList ds p := hA0
  rw [Try.params6] at hA hval
  obtain ⟨v0, vs0, d0, ds0, p0, q0, hargs, rfl, rfl, h0, r0⟩ := trodAll_cons hA
  obtain ⟨rfl, rfl, rfl⟩ := trodAll_nil r0
  obtain rfl : args = #[v0] := by cases args; simp_all
  have w0 := open_u8s (hval 0 30 v0 rfl rfl) h0
  refine (walk W v0 w0).mono fun e W' ⟨he, hb⟩ => ?_
  subst he
  exact ⟨_, rfl, law_post laidOut (by kernel_rfl) rfl rfl Try.underlying4 (fun gs' h => by subst h; rfl) hW' hb⟩

theorem closed_ : joinedFacts Try.prog 6 Try.f6 Rows.fnRandomsSpec Rows.fnRandomsRow = true := by
  unfold joinedFacts
  rw [mayEnter_, liftsFinal_, make_, laidOut_, mapsRowed_, stopsHeard_]
  kernel_rfl

theorem proved : Rows.FnRandomsSaid :=
  OpenClaim.holds_of_wide 6 Try.f6 rfl rfl rfl rfl rfl rfl rfl ⟨rfl, rfl, rfl, rfl, rfl⟩ rfl rfl rfl rfl rfl (by kernel_rfl) Try.func6 closed_
    (of_decide_eq_true (by kernel_rfl)) (by unfold Func.isWrapper; first | (rw [if_pos (by decide +kernel)]; kernel_rfl) | (rw [if_neg (by decide +kernel)]; exact ⟨rfl, rfl⟩))
    (fun os started H enc _ => lifted os started H enc)
end Go.Proofs.Ytegfbgjilgaijaa.fnRandoms
