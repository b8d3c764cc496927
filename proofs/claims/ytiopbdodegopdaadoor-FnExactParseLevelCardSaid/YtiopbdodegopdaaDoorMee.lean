/- BodiesMeet. -/
import Derived.Test.YtiopbdodegopdaaDoorBod
import Derived.Outline
namespace Go.Proofs.YtiopbdodegopdaaDoor
open Go.RowKit

def szOf (k : Int) : Int := if k = 0 then 12 else if k = 1 then 4 else if k = 2 then 8 else 0
theorem szOf_bd (k : Int) : 0 ≤ szOf k ∧ szOf k ≤ 12 := by unfold szOf; split <;> (try split) <;> (try split) <;> omega
theorem sz_cases (k : Int) : (k = 0) ∨ (k ≠ 0 ∧ k = 1) ∨ (k ≠ 0 ∧ k ≠ 1 ∧ k = 2) ∨ (k ≠ 0 ∧ k ≠ 1 ∧ k ≠ 2) := by omega
theorem sz_impl (k : Int) (w : World) : Calls Tryd.prog 22 #[.int .i64 k] w fun e w' => e = .returned (.int .i64 (szOf k)) ∧ w = w' := by
  have HS : Hid (szOf k = if k = 0 then 12 else if k = 1 then 4 else if k = 2 then 8 else 0) := Lib.hid rfl
  rcases sz_cases k with rfl | ⟨_, rfl⟩ | ⟨_, _, rfl⟩ | ⟨h1, h2, h3⟩
  all_goals
    go_enter Tryd.func22, Tryd.ntmps22
    go_wp2
    all_goals first
      | (exfalso; simp_all; done)
      | (go_ret; exact ⟨ret_int (by rw [HS.out]; first | rfl | (rw [if_neg h1, if_neg h2, if_neg h3])), rfl⟩)
theorem sz_spec (k : Int) (w : World) : Calls Tryd.prog 72 #[.int .i64 k] w fun e w' => e = .returned (.int .i64 (szOf k)) ∧ w = w' := by
  have HS : Hid (szOf k = if k = 0 then 12 else if k = 1 then 4 else if k = 2 then 8 else 0) := Lib.hid rfl
  rcases sz_cases k with rfl | ⟨_, rfl⟩ | ⟨_, _, rfl⟩ | ⟨h1, h2, h3⟩
  all_goals
    go_enter Tryd.func72, Tryd.ntmps72
    go_wp2
    all_goals first
      | (exfalso; simp_all; done)
      | (go_ret; exact ⟨ret_int (by rw [HS.out]; first | rfl | (rw [if_neg h1, if_neg h2, if_neg h3])), rfl⟩)

def inR (x : Int) : Prop := 0 ≤ x ∧ x ≤ 1000
instance (x : Int) : Decidable (inR x) := by unfold inR; infer_instance
def meetT (ka xa ya kb xb yb : Int) : Bool := decide (szOf ka ≠ 0 ∧ szOf kb ≠ 0 ∧ inR xa ∧ inR ya ∧ inR xb ∧ inR yb ∧ xa < xb + szOf kb ∧ xb < xa + szOf ka ∧ ya < yb + szOf kb ∧ yb < ya + szOf ka)
theorem meet_no {ka xa ya kb xb yb : Int} (h : szOf ka = 0 ∨ szOf kb = 0 ∨ ¬ inR xa ∨ ¬ inR ya ∨ ¬ inR xb ∨ ¬ inR yb) : meetT ka xa ya kb xb yb = false := by
  unfold meetT
  rw [decide_eq_false_iff_not]
  rintro ⟨h1, h2, h3, h4, h5, h6, _⟩
  rcases h with h | h | h | h | h | h
  · exact h1 h
  · exact h2 h
  · exact h h3
  · exact h h4
  · exact h h5
  · exact h h6
theorem meet_in {ka xa ya kb xb yb : Int} (h1 : szOf ka ≠ 0) (h2 : szOf kb ≠ 0) (h3 : inR xa) (h4 : inR ya) (h5 : inR xb) (h6 : inR yb) : meetT ka xa ya kb xb yb = (decide (xa < xb + szOf kb) && (decide (xb < xa + szOf ka) && (decide (ya < yb + szOf kb) && decide (yb < ya + szOf ka)))) := by
  unfold meetT
  simp only [h3, h4, h5, h6, ne_eq, h1, h2, not_false_eq_true, true_and, Bool.decide_and]
theorem notR {x : Int} (h : ¬ inR x) : x < 0 ∨ (0 ≤ x ∧ 1000 < x) := by unfold inR at h; omega

end Go.Proofs.YtiopbdodegopdaaDoor
