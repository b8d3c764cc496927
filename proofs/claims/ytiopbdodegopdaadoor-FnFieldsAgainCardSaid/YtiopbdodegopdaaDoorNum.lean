/- Contracts of the small number functions: each program function and its reference return the same plain function of their arguments. -/
import Derived.Test.YtiopbdodegopdaaDoorRows
import Derived.Test.YtiopbdodegopdaaDoorBits
import Derived.WalkKit
import Derived.WalkSpells
import Derived.WalkLawsBesides
import Derived.Lib.Hide
namespace Go.Proofs.YtiopbdodegopdaaDoor
open Go.RowKit

theorem ret_int {k : IntKind} {a b : Int} (h : a = b) : Ending.returned (.int k a) = .returned (.int k b) := by rw [h]
theorem ret_bool {a b : Bool} (h : a = b) : Ending.returned (.bool a) = .returned (.bool b) := by rw [h]

def inB (x a b : Int) : Bool := decide (a ≤ x ∧ x ≤ b)
theorem inB_yes {x a b : Int} (h1 : a ≤ x) (h2 : x ≤ b) : inB x a b = true := by simp [inB, h1, h2]
theorem inB_no {x a b : Int} (h : x < a ∨ b < x) : inB x a b = false := by simp [inB]; omega
theorem inB_iff {x a b : Int} : inB x a b = true ↔ a ≤ x ∧ x ≤ b := by simp [inB]

theorem in_any (x a b : Int) (w : World) :
    Calls Tryd.prog 43 #[.int .i64 x, .int .i64 a, .int .i64 b] w fun e w' => e = .returned (.bool (inB x a b)) ∧ w = w' := by
  by_cases h1 : a ≤ x
  · by_cases h2 : x ≤ b
    · have hf := inB_yes h1 h2
      have Hf := Lib.hid hf; clear hf
      go_enter Tryd.func43, Tryd.ntmps43
      go_wp2
      go_ret
      exact ⟨ret_bool (by rw [Hf.out]), rfl⟩
    · have hf := inB_no (x := x) (a := a) (b := b) (by omega)
      have Hf := Lib.hid hf; clear hf
      go_enter Tryd.func43, Tryd.ntmps43
      go_wp2
      go_ret
      exact ⟨ret_bool (by rw [Hf.out]), rfl⟩
  · have hf := inB_no (x := x) (a := a) (b := b) (by omega)
    have Hf := Lib.hid hf; clear hf
    go_enter Tryd.func43, Tryd.ntmps43
    go_wp2
    go_ret
    exact ⟨ret_bool (by rw [Hf.out]), rfl⟩
theorem in_yes (x a b : Int) (w : World) (h1 : a ≤ x) (h2 : x ≤ b) :
    Calls Tryd.prog 43 #[.int .i64 x, .int .i64 a, .int .i64 b] w fun e w' => e = .returned (.bool true) ∧ w = w' :=
  (in_any x a b w).mono fun _ _ ⟨h, hw⟩ => ⟨by rw [h, inB_yes h1 h2], hw⟩
theorem in_no (x a b : Int) (w : World) (h : x < a ∨ b < x) :
    Calls Tryd.prog 43 #[.int .i64 x, .int .i64 a, .int .i64 b] w fun e w' => e = .returned (.bool false) ∧ w = w' :=
  (in_any x a b w).mono fun _ _ ⟨he, hw⟩ => ⟨by rw [he, inB_no h], hw⟩

/-! NextRandom -/
def nextR (s : Int) : Int := if s < 0 ∨ 65535 < s then 0 else (s * 25173 + 13849) % 65536
theorem nextR_out {s : Int} (h : s < 0 ∨ 65535 < s) : nextR s = 0 := if_pos h
theorem nextR_in {s : Int} (h1 : 0 ≤ s) (h2 : s ≤ 65535) : nextR s = (s * 25173 + 13849) % 65536 := if_neg (by omega)
theorem nextR_bd (s : Int) : 0 ≤ nextR s ∧ nextR s ≤ 65535 := by unfold nextR; split <;> omega

/-! Signless -/
def signless (n : Int) : Int := if n < -549755813888 ∨ 549755813887 < n then -1 else if 0 ≤ n then 2 * n else -2 * n - 1
theorem signless_out {n : Int} (h : n < -549755813888 ∨ 549755813887 < n) : signless n = -1 := if_pos h
theorem signless_pos {n : Int} (h1 : 0 ≤ n) (h2 : n ≤ 549755813887) : signless n = 2 * n := by
  unfold signless; rw [if_neg (by omega), if_pos h1]
theorem signless_neg {n : Int} (h1 : n < 0) (h2 : -549755813888 ≤ n) : signless n = -2 * n - 1 := by
  unfold signless; rw [if_neg (by omega), if_neg (by omega)]
theorem signless_bd (n : Int) : -1 ≤ signless n ∧ signless n ≤ 1099511627775 := by
  unfold signless; split
  · omega
  · split <;> omega

/-! Signed -/
def signed (n : Int) : Int := if n < 0 ∨ 1099511627775 < n then 0 else if n % 2 = 0 then n / 2 else -((n + 1) / 2)
theorem signed_out {n : Int} (h : n < 0 ∨ 1099511627775 < n) : signed n = 0 := if_pos h
theorem signed_even {n : Int} (h1 : 0 ≤ n) (h2 : n ≤ 1099511627775) (h : n % 2 = 0) : signed n = n / 2 := by
  unfold signed; rw [if_neg (by omega), if_pos h]
theorem signed_odd {n : Int} (h1 : 0 ≤ n) (h2 : n ≤ 1099511627775) (h : n % 2 = 1) : signed n = -((n + 1) / 2) := by
  unfold signed; rw [if_neg (by omega), if_neg (by omega)]
theorem signed_bd (n : Int) : -549755813888 ≤ signed n ∧ signed n ≤ 549755813887 := by
  unfold signed; split
  · omega
  · split <;> omega

theorem neg_half (n : Int) (h1 : 0 ≤ n) (h2 : n ≤ 1099511627775) : wrap64 (-(n + 1).tdiv 2) = -((n + 1) / 2) := by
  rw [Int.tdiv_eq_ediv_of_nonneg (by omega)]; exact IntWalk.wrap64_in _ (by omega)

end Go.Proofs.YtiopbdodegopdaaDoor
