/- RandomBelow: the program's and the reference's return the same two plain functions of their arguments. -/
import Derived.Test.YtegfbgjilgaijaaNum
import Derived.Outline
import Derived.Deep.QuietTactic
import Derived.BigQuiet
namespace Go.Proofs.Ytegfbgjilgaijaa
open Go.RowKit

def rndOk (s n : Int) : Prop := 0 ≤ s ∧ s ≤ 65535 ∧ 1 ≤ n ∧ n ≤ 4096
instance (s n : Int) : Decidable (rndOk s n) := by unfold rndOk; infer_instance
def rnd1 (s n : Int) : Int := if rndOk s n then nextR s else 0
def rnd2 (s n : Int) : Int := if rndOk s n then nextR s / 16 % n else 0

theorem rnd_impl (s n : Int) (w : World) :
    Calls Try.prog 34 #[.int .i64 s, .int .i64 n] w fun e w' => e = .returned (.tuple #[.int .i64 (rnd1 s n), .int .i64 (rnd2 s n)]) ∧ Drawn w w' := by
  by_cases h : rndOk s n
  · have H1 := Lib.hid (show rnd1 s n = nextR s from if_pos h)
    have H2 := Lib.hid (show rnd2 s n = nextR s / 16 % n from if_pos h)
    obtain ⟨h1, h2, h3, h4⟩ := h
    have hb := nextR_bd s
    go_enter Try.func34, Try.ntmps34
    go_wp2_with (go_at_call 38; refine (next_impl _ _).mono ?_; rintro e w' ⟨rfl, rfl⟩)
    have hq := nextR_bd s
    have HQ := Lib.hid (show IntKind.i64.wrap ((nextR s).tdiv 16) = nextR s / 16 from IntWalk.i64_quo _ _ (by omega))
    go_quiet (fail)
    go_wp2
    go_ret2
    exact ⟨by rw [H1.out, H2.out]; rfl, Drawn.mk _ _⟩
  · have H1 := Lib.hid (show rnd1 s n = 0 from if_neg h)
    have H2 := Lib.hid (show rnd2 s n = 0 from if_neg h)
    have h' : s < 0 ∨ 65535 < s ∨ n < 1 ∨ 4096 < n := by unfold rndOk at h; omega
    clear h
    go_enter Try.func34, Try.ntmps34
    go_wp2_with (fail)
    all_goals (go_ret2; exact ⟨by rw [H1.out, H2.out]; rfl, Drawn.refl _⟩)
theorem rnd_spec (s n : Int) (w : World) :
    Calls Try.prog 33 #[.int .i64 s, .int .i64 n] w fun e w' => e = .returned (.tuple #[.int .i64 (rnd1 s n), .int .i64 (rnd2 s n)]) ∧ Drawn w w' := by
  by_cases h : rndOk s n
  · have H1 := Lib.hid (show rnd1 s n = nextR s from if_pos h)
    have H2 := Lib.hid (show rnd2 s n = nextR s / 16 % n from if_pos h)
    obtain ⟨h1, h2, h3, h4⟩ := h
    have hb := nextR_bd s
    go_enter Try.func33, Try.ntmps33
    go_wp2_with (first | (go_at_call 37; refine (next_spec _ _).mono ?_; rintro e w' ⟨rfl, rfl⟩) | (go_at_call 93; refine (in_yes _ _ _ _ (by omega) (by omega)).mono ?_; rintro e w' ⟨rfl, rfl⟩))
    have hq := nextR_bd s
    have HQ := Lib.hid (show IntKind.i64.wrap ((nextR s).tdiv 16) = nextR s / 16 from IntWalk.i64_quo _ _ (by omega))
    go_quiet (fail)
    go_wp2
    go_ret2
    exact ⟨by rw [H1.out, H2.out]; rfl, Drawn.mk _ _⟩
  · have H1 := Lib.hid (show rnd1 s n = 0 from if_neg h)
    have H2 := Lib.hid (show rnd2 s n = 0 from if_neg h)
    have h' : s < 0 ∨ 65535 < s ∨ n < 1 ∨ 4096 < n := by unfold rndOk at h; omega
    clear h
    rcases (show (s < 0 ∨ 65535 < s) ∨ (0 ≤ s ∧ s ≤ 65535) ∧ (n < 1 ∨ 4096 < n) by omega) with h | ⟨⟨h1, h2⟩, h3⟩
    all_goals clear h'
    all_goals go_enter Try.func33, Try.ntmps33
    all_goals go_wp2_with (first | (go_at_call 93; refine (in_yes _ _ _ _ ?_ ?_).mono ?_; omega; omega; rintro e w' ⟨rfl, rfl⟩) | (go_at_call 93; refine (in_no _ _ _ _ ?_).mono ?_; omega; rintro e w' ⟨rfl, rfl⟩))
    all_goals (go_ret2; exact ⟨by rw [H1.out, H2.out]; rfl, Drawn.refl _⟩)
end Go.Proofs.Ytegfbgjilgaijaa
