/- EncodeVarint: the program's and the reference's return the same plain function of the number. -/
import Derived.Test.YtkcknikaidbeoaaNum
import Derived.Test.YtkcknikaidbeoaaLaws
import Derived.Test.YtkcknikaidbeoaaVarFn
import Derived.Outline
namespace Go.Proofs.Ytkcknikaidbeoaa
open Go.RowKit

set_option maxHeartbeats 400000 in
theorem enc_impl (n : Int) (w : World) :
    Calls Try.prog 143 #[.int .i64 n] w fun e w' => e = .returned (.string (encVar n)) ∧ Below w.heap.size w w' := by
  by_cases hr : n < 0 ∨ 1099511627775 < n
  · have HE : Hid (encVar n = ⟨#[]⟩) := Lib.hid (by unfold encVar; rw [encV_out hr])
    rcases hr with hr | hr
    all_goals
      go_enter Try.func143, Try.ntmps143
      go_wp2
      go_ret
      exact ⟨by rw [HE.out]; rfl, Below.refl _ _⟩
  · have h1 : 0 ≤ n := by omega
    have h2 : n ≤ 1099511627775 := by omega
    have HN : Hid (encV n = [] ++ encF 5 n) := Lib.hid (if_neg hr)
    have HS : Hid (n < 128 ^ (5 + 1)) := Lib.hid (by omega)
    clear hr
    go_enter Try.func143, Try.ntmps143
    go_wp2
    go_loopw [0, 3] (fun x v wr => ∃ (f : Nat) (m : Int) (l : List UInt8), x = .int .i64 m ∧ 0 ≤ m ∧ m ≤ n ∧ Hid (m < 128 ^ (f + 1)) ∧ Hid (encV n = l ++ encF f m) ∧ l.length + f ≤ 5 ∧ Own wr w.heap.size 1 v l.length (u8s l) ∧ Below w.heap.size w wr) (fun x _ _ => (intOf x).toNat)
    case atStart => exact ⟨5, n, [], rfl, h1, Int.le_refl _, HS, HN, by simp, Own.nil _ _ _, Below.refl _ _⟩
    case round =>
      obtain ⟨f, m, l, rfl, hm0, hmN, hm, HE, hf, hown, hbl⟩ := hrel
      have hsz := hbl.size
      by_cases hlt : m < 128
      · have HL := Lib.hid (encF_end HE.out hlt)
        have HC := b8_one (n := m) hm0 (by omega)
        go_wp2_with (with_reducible refine app_u8 (o := ⟨some 25, _, _, _, _, _⟩) wr _ rfl _ _ rfl w.heap.size hown rfl 1 1 [b8 m] rfl HC rfl (by omega) (by omega) ?_)
        intro v' w' hown' hg hv
        have hbl' := hbl.trans (hown.below_of hg (Nat.le_refl _) hsz)
        go_wp2_with (with_reducible refine str_law (o := ⟨some 27, _, _, _, _, _⟩) _ rfl _ rfl hown'.at_ rfl ?_)
        go_ret
        exact ⟨by rw [encVar, HL.out]; rfl, hbl'⟩
      · obtain ⟨f', hf', HM⟩ := encF_fuel hm.out hlt
        subst hf'
        have HL := Lib.hid (encF_more HE.out hlt)
        have HM := Lib.hid HM
        have HC := b8_one (n := m % 128 + 128) (by omega) (by omega)
        go_wp2_with (with_reducible refine app_u8 (o := ⟨some 18, _, _, _, _, _⟩) wr _ rfl _ _ rfl w.heap.size hown rfl 1 1 [b8 (m % 128 + 128)] rfl HC rfl (by omega) (by omega) ?_)
        intro v' w' hown' hg hv
        have hbl' := hbl.trans (hown.below_of hg (Nat.le_refl _) hsz)
        go_wp2
        go_roundw
        case rel => exact ⟨f', m / 128, _, rfl, by omega, by omega, HM, HL, by simp; omega, by simpa using hown', hbl'⟩
        case measure => simp [intOf]; omega

set_option maxHeartbeats 400000 in
theorem enc_spec (n : Int) (w : World) :
    Calls Try.prog 141 #[.int .i64 n] w fun e w' => e = .returned (.string (encVar n)) ∧ Below w.heap.size w w' := by
  by_cases hr : n < 0 ∨ 1099511627775 < n
  · have HE : Hid (encVar n = ⟨#[]⟩) := Lib.hid (by unfold encVar; rw [encV_out hr])
    go_enter Try.func141, Try.ntmps141
    go_wp2_with (go_at_call 84; refine (in_no _ _ _ _ (by omega)).mono ?_; rintro e w' ⟨rfl, rfl⟩)
    go_ret
    exact ⟨by rw [HE.out]; rfl, Below.refl _ _⟩
  · have h1 : 0 ≤ n := by omega
    have h2 : n ≤ 1099511627775 := by omega
    have HN : Hid (encV n = [] ++ encF 5 n) := Lib.hid (if_neg hr)
    have HS : Hid (n < 128 ^ (5 + 1)) := Lib.hid (by omega)
    clear hr
    go_enter Try.func141, Try.ntmps141
    go_wp2_with (go_at_call 84; refine (in_yes _ _ _ _ (by omega) (by omega)).mono ?_; rintro e w' ⟨rfl, rfl⟩)
    go_loopw [0, 3] (fun x v wr => ∃ (f : Nat) (m : Int) (l : List UInt8), x = .int .i64 m ∧ 0 ≤ m ∧ m ≤ n ∧ Hid (m < 128 ^ (f + 1)) ∧ Hid (encV n = l ++ encF f m) ∧ l.length + f ≤ 5 ∧ Own wr w.heap.size 1 v l.length (u8s l) ∧ Below w.heap.size w wr) (fun x _ _ => (intOf x).toNat)
    case atStart => exact ⟨5, n, [], rfl, h1, Int.le_refl _, HS, HN, by simp, Own.lit _ rfl rfl (Nat.le_refl _) (Nat.zero_le _), (Below.refl _ _).alloc (Nat.le_refl _) _⟩
    case round =>
      obtain ⟨f, m, l, rfl, hm0, hmN, hm, HE, hf, hown, hbl⟩ := hrel
      have hsz := hbl.size
      by_cases hlt : m < 128
      · have HL := Lib.hid (encF_end HE.out hlt)
        have HC := b8_one (n := m) hm0 (by omega)
        go_wp2_with (with_reducible refine app_u8 (o := ⟨some 23, _, _, _, _, _⟩) wr _ rfl _ _ rfl w.heap.size hown rfl 1 1 [b8 m] rfl HC rfl (by omega) (by omega) ?_)
        intro v' w' hown' hg hv
        have hbl' := hbl.trans (hown.below_of hg (Nat.le_refl _) hsz)
        go_wp2_with (with_reducible refine str_law (o := ⟨some 24, _, _, _, _, _⟩) _ rfl _ rfl hown'.at_ rfl ?_)
        go_ret
        exact ⟨by rw [encVar, HL.out]; rfl, hbl'⟩
      · obtain ⟨f', hf', HM⟩ := encF_fuel hm.out hlt
        subst hf'
        have HL := Lib.hid (encF_more HE.out hlt)
        have HM := Lib.hid HM
        have HC := b8_one (n := m % 128 + 128) (by omega) (by omega)
        have e1 := and_127 m hm0 (by omega)
        have e2 := or_128 (m % 128) (by omega) (by omega)
        go_wp2_with (with_reducible refine app_u8 (o := ⟨some 16, _, _, _, _, _⟩) wr _ rfl _ _ rfl w.heap.size hown rfl 1 1 [b8 (m % 128 + 128)] rfl HC rfl (by omega) (by omega) ?_)
        intro v' w' hown' hg hv
        have hbl' := hbl.trans (hown.below_of hg (Nat.le_refl _) hsz)
        go_wp2
        go_roundw
        case rel => exact ⟨f', m / 128, _, rfl, by omega, by omega, HM, HL, by simp; omega, by simpa using hown', hbl'⟩
        case measure => simp [intOf]; omega
end Go.Proofs.Ytkcknikaidbeoaa
