/- ShotOf and BodiesMeet. -/
import Derived.Test.YtgkfldogjhegjaaBod
namespace Go.Proofs.Ytgkfldogjhegjaa
open Go.RowKit

def shotIn (x y a : Int) : Prop := 0 ≤ x ∧ x ≤ 1000 ∧ 0 ≤ y ∧ y ≤ 1000 ∧ -1 ≤ a ∧ a ≤ 1
instance (x y a : Int) : Decidable (shotIn x y a) := by unfold shotIn; infer_instance
def shotT (o x y a : Int) : Value := if shotIn x y a then bod 1 o (x + 4) (y + 4) (6 * a) 0 0 0 25 else bod 0 0 0 0 0 0 0 0 0
theorem shot_out {x y a : Int} (h : ¬ shotIn x y a) : (x < 0) ∨ (0 ≤ x ∧ 1000 < x) ∨ (0 ≤ x ∧ x ≤ 1000 ∧ y < 0) ∨ (0 ≤ x ∧ x ≤ 1000 ∧ 0 ≤ y ∧ 1000 < y) ∨ (0 ≤ x ∧ x ≤ 1000 ∧ 0 ≤ y ∧ y ≤ 1000 ∧ a < -1) ∨ (0 ≤ x ∧ x ≤ 1000 ∧ 0 ≤ y ∧ y ≤ 1000 ∧ -1 ≤ a ∧ 1 < a) := by
  unfold shotIn at h
  omega
set_option maxHeartbeats 2000000 in
theorem shot_impl (k0 k1 k2 k3 k4 k5 k6 k7 k8 : Int) (w : World) :
    Calls Try.prog 33 #[bod k0 k1 k2 k3 k4 k5 k6 k7 k8] w fun e w' => e = .returned (shotT k1 k2 k3 k6) ∧ Below w.heap.size w w' := by
  by_cases h : shotIn k2 k3 k6
  · have HS := Lib.hid (show shotT k1 k2 k3 k6 = bod 1 k1 (k2 + 4) (k3 + 4) (6 * k6) 0 0 0 25 from if_pos h)
    obtain ⟨h1, h2, h3, h4, h5, h6⟩ := h
    unfold bod
    go_enter Try.func33, Try.ntmps33
    go_wp2
    go_returns
    exact ⟨by rw [HS.out]; rfl, by repeat (first | exact Below.refl _ _ | refine Below.alloc ?_ (by simp <;> omega) _ | refine Below.setCell ?_ (by simp <;> omega) _)⟩
  · have HS := Lib.hid (show shotT k1 k2 k3 k6 = bod 0 0 0 0 0 0 0 0 0 from if_neg h)
    unfold bod
    rcases shot_out h with h1 | ⟨h1, h2⟩ | ⟨h1, h2, h3⟩ | ⟨h1, h2, h3, h4⟩ | ⟨h1, h2, h3, h4, h5⟩ | ⟨h1, h2, h3, h4, h5, h6⟩
    all_goals
      clear h
      go_enter Try.func33, Try.ntmps33
      go_wp2
      all_goals first
        | (exfalso; rename_i hx; simp at hx; omega)
        | (go_returns; exact ⟨by rw [HS.out]; rfl, by repeat (first | exact Below.refl _ _ | refine Below.alloc ?_ (by simp <;> omega) _ | refine Below.setCell ?_ (by simp <;> omega) _)⟩)
set_option maxHeartbeats 2000000 in
theorem shot_spec (k0 k1 k2 k3 k4 k5 k6 k7 k8 : Int) (w : World) :
    Calls Try.prog 32 #[bod k0 k1 k2 k3 k4 k5 k6 k7 k8] w fun e w' => e = .returned (shotT k1 k2 k3 k6) ∧ Below w.heap.size w w' := by
  by_cases h : shotIn k2 k3 k6
  · have HS := Lib.hid (show shotT k1 k2 k3 k6 = bod 1 k1 (k2 + 4) (k3 + 4) (6 * k6) 0 0 0 25 from if_pos h)
    obtain ⟨h1, h2, h3, h4, h5, h6⟩ := h
    unfold bod
    go_enter Try.func32, Try.ntmps32
    go_wp2
    go_returns
    exact ⟨by rw [HS.out]; rfl, by repeat (first | exact Below.refl _ _ | refine Below.alloc ?_ (by simp <;> omega) _ | refine Below.setCell ?_ (by simp <;> omega) _)⟩
  · have HS := Lib.hid (show shotT k1 k2 k3 k6 = bod 0 0 0 0 0 0 0 0 0 from if_neg h)
    unfold bod
    rcases shot_out h with h1 | ⟨h1, h2⟩ | ⟨h1, h2, h3⟩ | ⟨h1, h2, h3, h4⟩ | ⟨h1, h2, h3, h4, h5⟩ | ⟨h1, h2, h3, h4, h5, h6⟩
    all_goals
      clear h
      go_enter Try.func32, Try.ntmps32
      go_wp2
      all_goals first
        | (exfalso; rename_i hx; simp at hx; omega)
        | (go_returns; exact ⟨by rw [HS.out]; rfl, by repeat (first | exact Below.refl _ _ | refine Below.alloc ?_ (by simp <;> omega) _ | refine Below.setCell ?_ (by simp <;> omega) _)⟩)
end Go.Proofs.Ytgkfldogjhegjaa
