/- For every input the law FnClamped returns true and leaves what was in memory as it was. No condition. -/
import Derived.Test.YtmnddbgblhmlbaaGen
import Derived.Test.YtmnddbgblhmlbaaFrame
import Derived.Test.YtmnddbgblhmlbaaOrd
namespace Go.Proofs.Ytmnddbgblhmlbaa.fnClamped
open Go.ChangeShapes Go.WideShapes Go.ChangeAt Go.RowKit
open Go.ChangeMaps (open_string shut_string)
set_option linter.unusedVariables false

theorem big_no (ao : Option Addr) (n cap : Nat) (w : World) (h : ¬ (1048576 : Int) < (n : Int)) :
    Calls Try.prog 16 #[.slice ao n cap] w fun e w' => e = .returned (.bool false) ∧ w = w' := by
  go_enter Try.func16, Try.ntmps16
  go_wp2
  go_ret
  exact ⟨rfl, rfl⟩
def clampV (n lo hi : Int) : Int := if hi < lo ∨ n < lo then lo else if hi < n then hi else n
theorem clamp_lo {n lo hi : Int} (h : hi < lo ∨ n < lo) : clampV n lo hi = lo := if_pos h
theorem clamp_hi {n lo hi : Int} (h1 : lo ≤ hi) (h2 : hi < n) : clampV n lo hi = hi := (if_neg (by omega)).trans (if_pos h2)
theorem clamp_mid {n lo hi : Int} (h1 : lo ≤ n) (h2 : n ≤ hi) : clampV n lo hi = n := (if_neg (by omega)).trans (if_neg (by omega))
theorem clamp_ret (n lo hi : Int) (w : World) :
    Calls Try.prog 18 #[.int .i64 n, .int .i64 lo, .int .i64 hi] w fun e w' => e = .returned (.int .i64 (clampV n lo hi)) ∧ w = w' := by
  by_cases h1 : hi < lo
  · have HC := Lib.hid (clamp_lo (n := n) (.inl h1))
    go_enter Try.func18, Try.ntmps18
    go_wp2
    go_ret
    exact ⟨ret_int (by rw [HC.out]), rfl⟩
  · by_cases h2 : n < lo
    · have HC := Lib.hid (clamp_lo (hi := hi) (.inr h2))
      go_enter Try.func18, Try.ntmps18
      go_wp2
      go_ret
      exact ⟨ret_int (by rw [HC.out]), rfl⟩
    · by_cases h3 : hi < n
      · have HC := Lib.hid (clamp_hi (lo := lo) (by omega) h3)
        go_enter Try.func18, Try.ntmps18
        go_wp2
        go_ret
        exact ⟨ret_int (by rw [HC.out]), rfl⟩
      · have HC := Lib.hid (clamp_mid (n := n) (lo := lo) (hi := hi) (by omega) (by omega))
        go_enter Try.func18, Try.ntmps18
        go_wp2
        go_ret
        exact ⟨ret_int (by rw [HC.out]), rfl⟩
theorem clamp_is {n lo hi x : Int} (h : clampV n lo hi = x) (w : World) :
    Calls Try.prog 18 #[.int .i64 n, .int .i64 lo, .int .i64 hi] w fun e w' => e = .returned (.int .i64 x) ∧ w = w' :=
  (clamp_ret n lo hi w).mono fun _ _ ⟨h1, h2⟩ => ⟨by rw [h1, h], h2⟩
theorem drawclamp_ret {v : Value} {l : List Int} (w : World) (hd : Code8 w v l) :
    Calls Try.prog 17 #[v] w fun e w' => ∃ a b c : Int, e = .returned (.tuple #[.int .i64 a, .int .i64 b, .int .i64 c]) ∧ Below w.heap.size w w' := by
  go_enter Try.func17, Try.ntmps17
  go_wp2_with fail
  refine (new_ret _ hd).mono ?_
  rintro e w1 ⟨g, rfl, hc1⟩
  go_wp2_with fail
  refine (once_ret _ _ hd hc1 (by omega) (by omega)).mono ?_
  rintro e w2 ⟨b, rfl, hc2, hg2⟩
  cases b with
  | true =>
    go_wp2_with fail
    refine (number_ret _ hd hc2).mono ?_
    rintro e w3 ⟨x, rfl, hx0, hx1, hc3, hg3⟩
    go_wp2_with fail
    refine (number_ret _ hd hc3).mono ?_
    rintro e w4 ⟨y, rfl, hy0, hy1, hc4, hg4⟩
    go_wp2_with fail
    refine (number_ret _ hd hc4).mono ?_
    rintro e w5 ⟨z, rfl, hz0, hz1, hc5, hg5⟩
    go_wp2_with fail
    go_ret3
    exact ⟨x, y, z, rfl, hc5.bl⟩
  | false =>
    go_wp2_with fail
    refine (below_ret _ _ hd hc2 (by omega) (by omega)).mono ?_
    rintro e w3 ⟨x, rfl, hx0, hx1, hc3, hg3⟩
    go_wp2_with fail
    refine (below_ret _ _ hd hc3 (by omega) (by omega)).mono ?_
    rintro e w4 ⟨y, rfl, hy0, hy1, hc4, hg4⟩
    go_wp2_with fail
    refine (below_ret _ _ hd hc4 (by omega) (by omega)).mono ?_
    rintro e w5 ⟨z, rfl, hz0, hz1, hc5, hg5⟩
    go_wp2_with fail
    go_ret3
    exact ⟨_, _, _, rfl, hc5.bl⟩

set_option maxHeartbeats 1000000 in
theorem walk (w : World) (a0 : Value) (w0 : Arg_u8s w a0) :
    Calls Try.prog 3 #[a0] w fun e w' => e = .returned (.bool true) ∧ Below w.heap.size w w' := by
  obtain ⟨l, hat, hwf⟩ := w0
  by_cases hbig : (1048576 : Int) < (l.length : Int)
  · obtain ⟨ao, cap, rfl, _⟩ := hat.cell
    go_enter Try.func3, Try.ntmps3
    go_wp2
    go_ret
    exact ⟨rfl, Below.refl _ _⟩
  have hd : Code8 w a0 l := ⟨hat, hwf, by omega⟩
  have h7 : ∀ wx : World, Calls Try.prog 18 #[.int .i64 7, .int .i64 3, .int .i64 5] wx fun e w' => e = .returned (.int .i64 5) ∧ wx = w' := fun wx => clamp_is (by rfl) wx
  obtain ⟨ao, cap, rfl, _⟩ := hat.cell
  go_enter Try.func3, Try.ntmps3
  go_wp2_with fail
  refine (big_no _ _ _ _ (by omega)).mono ?_
  rintro e wx ⟨rfl, rfl⟩
  go_wp2_with fail
  refine (drawclamp_ret _ hd).mono ?_
  rintro e wa ⟨n, a, b, rfl, ha⟩
  by_cases hba : b < a
  · have H1 := fun wx => clamp_is (clamp_lo (n := n) (.inl hba)) wx
    go_wp2_with fail
    refine (H1 _).mono ?_
    rintro e wx ⟨rfl, rfl⟩
    go_wp2_with fail
    refine (h7 _).mono ?_
    rintro e wx ⟨rfl, rfl⟩
    go_wp2_with fail
    go_ret
    exact ⟨rfl, ha⟩
  · by_cases hna : n < a
    · have H1 := fun wx => clamp_is (clamp_lo (hi := b) (.inr hna)) wx
      have H2 := fun wx => clamp_is (clamp_mid (n := a) (lo := a) (hi := b) (by omega) (by omega)) wx
      go_wp2_with fail
      refine (H1 _).mono ?_
      rintro e wx ⟨rfl, rfl⟩
      go_wp2_with fail
      refine (H2 _).mono ?_
      rintro e wx ⟨rfl, rfl⟩
      go_wp2_with fail
      refine (h7 _).mono ?_
      rintro e wx ⟨rfl, rfl⟩
      go_wp2_with fail
      go_ret
      exact ⟨rfl, ha⟩
    · by_cases hnb : b < n
      · have H1 := fun wx => clamp_is (clamp_hi (lo := a) (by omega) hnb) wx
        have H2 := fun wx => clamp_is (clamp_mid (n := b) (lo := a) (hi := b) (by omega) (by omega)) wx
        go_wp2_with fail
        refine (H1 _).mono ?_
        rintro e wx ⟨rfl, rfl⟩
        go_wp2_with fail
        refine (H2 _).mono ?_
        rintro e wx ⟨rfl, rfl⟩
        go_wp2_with fail
        refine (h7 _).mono ?_
        rintro e wx ⟨rfl, rfl⟩
        go_wp2_with fail
        go_ret
        exact ⟨rfl, ha⟩
      · have H1 := fun wx => clamp_is (clamp_mid (n := n) (lo := a) (hi := b) (by omega) (by omega)) wx
        go_wp2_with fail
        refine (H1 _).mono ?_
        rintro e wx ⟨rfl, rfl⟩
        go_wp2_with fail
        refine (H1 _).mono ?_
        rintro e wx ⟨rfl, rfl⟩
        go_wp2_with fail
        refine (h7 _).mono ?_
        rintro e wx ⟨rfl, rfl⟩
        go_wp2_with fail
        go_ret
        exact ⟨rfl, ha⟩

set_option maxRecDepth 100000 in
theorem lifted (os : Os) (started : os.Started) (H : Type) (enc : TypeId × Value → H) :
    ReturnsInHanded {} Try.checked os 3 .any (Rows.fnClampedSpec.pre6 enc Try.prog Try.f3 Rows.fnClampedRow.domain false) (Rows.fnClampedSpec.post enc Try.prog Try.f3 false true false false) := by
  refine returnsInHanded_of_change (C := Try.checked) own_ started (by kernel_rfl) Try.func3
    (ChangeSpec.witness6 (enc := enc) (C := Try.checked) false ⟨#[], #[.slice none 0 0], []⟩ 8 (by kernel_rfl) (by kernel_rfl) (by kernel_rfl) (by kernel_rfl)) ?_
  intro W base args ds gs before hval0 hW hcnd _
  have hval : ∀ (j : Nat) t v, Try.f3.params[j]? = some t → args[j]? = some v → Value.okWide Try.prog W .any base t v := hval0
  have hW' := hW
  obtain ⟨p, q, hA0, hV, rfl, hfz, hnd⟩ := hW
  have hA : DataW.TrodAll enc Try.prog W 0 (fun _ => true) true Try.f3.params.toList args.toList ds p := hA0
  rw [Try.params3] at hA hval
  obtain ⟨v0, vs0, d0, ds0, p0, q0, hargs, rfl, rfl, h0, r0⟩ := trodAll_cons hA
  obtain ⟨rfl, rfl, rfl⟩ := trodAll_nil r0
  obtain rfl : args = #[v0] := by cases args; simp_all
  have w0 := open_u8s (hval 0 22 v0 rfl rfl) h0
  refine (walk W v0 w0).mono fun e W' ⟨he, hb⟩ => ?_
  subst he
  exact ⟨_, rfl, law_post laidOut (by kernel_rfl) rfl rfl Try.underlying4 (fun gs' h => by subst h; rfl) hW' hb⟩

theorem closed_ : joinedFacts Try.prog 3 Try.f3 Rows.fnClampedSpec Rows.fnClampedRow = true := by
  unfold joinedFacts
  rw [mayEnter_, liftsFinal_, make_, laidOut_, mapsRowed_, stopsHeard_]
  kernel_rfl

theorem proved : Rows.FnClampedSaid :=
  OpenClaim.holds_of_wide 3 Try.f3 rfl rfl rfl rfl rfl rfl rfl ⟨rfl, rfl, rfl, rfl, rfl⟩ rfl rfl rfl rfl rfl (by kernel_rfl) Try.func3 closed_
    (of_decide_eq_true (by kernel_rfl)) (by unfold Func.isWrapper; first | (rw [if_pos (by decide +kernel)]; kernel_rfl) | (rw [if_neg (by decide +kernel)]; exact ⟨rfl, rfl⟩))
    (fun os started H enc _ => lifted os started H enc)
end Go.Proofs.Ytmnddbgblhmlbaa.fnClamped
