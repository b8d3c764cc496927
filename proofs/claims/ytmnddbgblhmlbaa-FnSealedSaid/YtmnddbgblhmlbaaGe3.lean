/- The draws' twins: l01Twins, DrawTwins, as far as bounds go. -/
import Derived.Test.YtmnddbgblhmlbaaGe2
namespace Go.Proofs.Ytmnddbgblhmlbaa
open Go.RowKit

theorem app_size {a b : ByteArray} {m n : Nat} (h : a.size ≤ m) (k : b.size ≤ n) : (a ++ b).size ≤ m + n := by rw [ByteArray.size_append]; omega
theorem sum_ok {a b : ByteArray} {m n : Nat} (h : a.size ≤ m) (k : b.size ≤ n) (hm : m + n ≤ 1000) : a.size + b.size ≤ 9223372036854775807 := by omega
theorem ext_le (s : ByteArray) (a b : Nat) {m : Nat} (h : s.size ≤ m) : (s.extract a b).size ≤ m := by rw [ByteArray.size_extract]; omega
theorem swap_size {a T : ByteArray} {k : Nat} (hk : k < a.size) (hT : T.size = 1) : ((a.extract 0 k ++ T) ++ a.extract (k + 1) a.size).size ≤ a.size := by
  rw [ByteArray.size_append, ByteArray.size_append, ByteArray.size_extract, ByteArray.size_extract]
  omega
theorem text1_ret {v : Value} {l : List Int} {g : Nat} {W0 : World} (w : World) (hd : Code8 W0 v l) (hc : Cur W0 w g v l.length) :
    Calls Try.prog 86 #[.pointer (some ⟨g, 0, none⟩), .int .i64 1] w fun e w' => ∃ s : ByteArray, e = .returned (.string s) ∧ s.size = 1 ∧ Cur W0 w' g v l.length ∧ w.grownBy w' (some g) := text_ret 1 w hd hc (by omega)
set_option maxRecDepth 100000 in
set_option maxHeartbeats 8000000 in
theorem twins_ret {v : Value} {l : List Int} {g : Nat} {W0 : World} (w : World) (hd : Code8 W0 v l) (hc : Cur W0 w g v l.length) :
    Calls Try.prog 77 #[.pointer (some ⟨g, 0, none⟩)] w fun e w' => ∃ a b : ByteArray, e = .returned (.tuple #[.string a, .string b]) ∧ a.size ≤ 100 ∧ b.size ≤ 100 ∧ Cur W0 w' g v l.length := by
  go_enter Try.func77, Try.ntmps77
  go_wp2_with fail
  refine (holes_ret _ hd hc).mono ?_
  rintro e wa ⟨a, rfl, ha, hcur, hgr⟩
  have ha0 := ha
  by_cases h0 : a.size = 0
  · have h0' : ¬ (0 : Int) < (a.size : Int) := by omega
    have hb := ha
    go_wp2_with fail
    refine (once_ret _ _ hd hcur (by omega) (by omega)).mono ?_
    rintro e wf ⟨b2, rfl, hcur, hgr⟩
    cases b2
    case false =>
      go_wp2_with fail
      refine (once_ret _ _ hd hcur (by omega) (by omega)).mono ?_
      rintro e wh ⟨b3, rfl, hcur, hgr⟩
      cases b3
      case false =>
        go_wp2_with fail
        go_ret2
        exact ⟨_, _, rfl, by omega, by omega, hcur⟩
      case true =>
        go_wp2_with fail
        refine (below_ret _ _ hd hcur (by omega) (by omega)).mono ?_
        rintro e wi ⟨x, rfl, hx0, hx1, hcur, hgr⟩
        obtain ⟨x, rfl⟩ := Int.eq_ofNat_of_zero_le hx0
        go_wp2_with fail
        go_ret2
        exact ⟨_, _, rfl, by omega, Nat.le_trans (ext_le _ _ _ hb) (by omega), hcur⟩
    case true =>
      go_wp2_with fail
      refine (holes_ret _ hd hcur).mono ?_
      rintro e wg ⟨H, rfl, hH, hcur, hgr⟩
      have hsH := sum_ok hb hH (by omega)
      have hb := app_size hb hH
      go_wp2_with fail
      refine (once_ret _ _ hd hcur (by omega) (by omega)).mono ?_
      rintro e wh ⟨b3, rfl, hcur, hgr⟩
      cases b3
      case false =>
        go_wp2_with fail
        go_ret2
        exact ⟨_, _, rfl, by omega, by omega, hcur⟩
      case true =>
        go_wp2_with fail
        refine (below_ret _ _ hd hcur (by omega) (by omega)).mono ?_
        rintro e wi ⟨x, rfl, hx0, hx1, hcur, hgr⟩
        obtain ⟨x, rfl⟩ := Int.eq_ofNat_of_zero_le hx0
        go_wp2_with fail
        go_ret2
        exact ⟨_, _, rfl, by omega, Nat.le_trans (ext_le _ _ _ hb) (by omega), hcur⟩
  · have h0' : (0 : Int) < (a.size : Int) := by omega
    go_wp2_with fail
    refine (once_ret _ _ hd hcur (by omega) (by omega)).mono ?_
    rintro e wb ⟨b1, rfl, hcur, hgr⟩
    cases b1 with
    | true =>
      have hb := ha
      go_wp2_with fail
      refine (once_ret _ _ hd hcur (by omega) (by omega)).mono ?_
      rintro e wf ⟨b2, rfl, hcur, hgr⟩
      cases b2
      case false =>
        go_wp2_with fail
        refine (once_ret _ _ hd hcur (by omega) (by omega)).mono ?_
        rintro e wh ⟨b3, rfl, hcur, hgr⟩
        cases b3
        case false =>
          go_wp2_with fail
          go_ret2
          exact ⟨_, _, rfl, by omega, by omega, hcur⟩
        case true =>
          go_wp2_with fail
          refine (below_ret _ _ hd hcur (by omega) (by omega)).mono ?_
          rintro e wi ⟨x, rfl, hx0, hx1, hcur, hgr⟩
          obtain ⟨x, rfl⟩ := Int.eq_ofNat_of_zero_le hx0
          go_wp2_with fail
          go_ret2
          exact ⟨_, _, rfl, by omega, Nat.le_trans (ext_le _ _ _ hb) (by omega), hcur⟩
      case true =>
        go_wp2_with fail
        refine (holes_ret _ hd hcur).mono ?_
        rintro e wg ⟨H, rfl, hH, hcur, hgr⟩
        have hsH := sum_ok hb hH (by omega)
        have hb := app_size hb hH
        go_wp2_with fail
        refine (once_ret _ _ hd hcur (by omega) (by omega)).mono ?_
        rintro e wh ⟨b3, rfl, hcur, hgr⟩
        cases b3
        case false =>
          go_wp2_with fail
          go_ret2
          exact ⟨_, _, rfl, by omega, by omega, hcur⟩
        case true =>
          go_wp2_with fail
          refine (below_ret _ _ hd hcur (by omega) (by omega)).mono ?_
          rintro e wi ⟨x, rfl, hx0, hx1, hcur, hgr⟩
          obtain ⟨x, rfl⟩ := Int.eq_ofNat_of_zero_le hx0
          go_wp2_with fail
          go_ret2
          exact ⟨_, _, rfl, by omega, Nat.le_trans (ext_le _ _ _ hb) (by omega), hcur⟩
    | false =>
      go_wp2_with fail
      refine (below_ret _ _ hd hcur (by omega) (by omega)).mono ?_
      rintro e wc ⟨k, rfl, hk0, hk1, hcur, hgr⟩
      obtain ⟨k, rfl⟩ := Int.eq_ofNat_of_zero_le hk0
      have hkl : k < a.size := by omega
      have hk2 : k + 1 ≤ a.size := by omega
      have hk3 : (k : Int) + 1 ≤ (a.size : Int) := by omega
      have hk4 : (0 : Int) ≤ (k : Int) + 1 := by omega
      have hw : IntKind.i64.wrap ((k : Int) + 1) = (k : Int) + 1 := IntWalk.i64_in _ (by omega)
      have hcurD := hcur.drew
      go_wp2_with fail
      go_region_with ((go_at_call 86; with_reducible refine (text1_ret _ hd hcurD).mono ?_; rintro e wd ⟨T, rfl, hT, hcurE, hgE⟩; have hs1 := sum_ok (ext_le a 0 k ha) (Nat.le_of_eq hT) (by omega); have hs2 := sum_ok (app_size (ext_le a 0 k ha) (Nat.le_of_eq hT)) (ext_le a (k + 1) a.size ha) (by omega)))
      all_goals
        have hb := Nat.le_trans (swap_size hkl hT) ha
        replace hcur := hcurE
        clear hcurD hs1 hs2 hkl hk1
        go_wp2_with fail
        (try go_simp)
        refine (once_ret _ _ hd hcur (by omega) (by omega)).mono ?_
        rintro e wf ⟨b2, rfl, hcur, hgr⟩
        cases b2
        case false =>
          go_wp2_with fail
          refine (once_ret _ _ hd hcur (by omega) (by omega)).mono ?_
          rintro e wh ⟨b3, rfl, hcur, hgr⟩
          cases b3
          case false =>
            go_wp2_with fail
            go_ret2
            exact ⟨_, _, rfl, by omega, by omega, hcur⟩
          case true =>
            go_wp2_with fail
            refine (below_ret _ _ hd hcur (by omega) (by omega)).mono ?_
            rintro e wi ⟨x, rfl, hx0, hx1, hcur, hgr⟩
            obtain ⟨x, rfl⟩ := Int.eq_ofNat_of_zero_le hx0
            go_wp2_with fail
            go_ret2
            exact ⟨_, _, rfl, by omega, Nat.le_trans (ext_le _ _ _ hb) (by omega), hcur⟩
        case true =>
          go_wp2_with fail
          refine (holes_ret _ hd hcur).mono ?_
          rintro e wg ⟨H, rfl, hH, hcur, hgr⟩
          have hsH := sum_ok hb hH (by omega)
          have hb := app_size hb hH
          go_wp2_with fail
          refine (once_ret _ _ hd hcur (by omega) (by omega)).mono ?_
          rintro e wh ⟨b3, rfl, hcur, hgr⟩
          cases b3
          case false =>
            go_wp2_with fail
            go_ret2
            exact ⟨_, _, rfl, by omega, by omega, hcur⟩
          case true =>
            go_wp2_with fail
            refine (below_ret _ _ hd hcur (by omega) (by omega)).mono ?_
            rintro e wi ⟨x, rfl, hx0, hx1, hcur, hgr⟩
            obtain ⟨x, rfl⟩ := Int.eq_ofNat_of_zero_le hx0
            go_wp2_with fail
            go_ret2
            exact ⟨_, _, rfl, by omega, Nat.le_trans (ext_le _ _ _ hb) (by omega), hcur⟩
end Go.Proofs.Ytmnddbgblhmlbaa
