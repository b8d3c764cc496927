/- Contracts of the small number functions: each program function and its reference return the same plain function of their arguments. -/
import Derived.Test.YtkcknikaidbeoaaRows
import Derived.Test.YtkcknikaidbeoaaBits
import Derived.WalkKit
import Derived.WalkSpells
import Derived.WalkLawsBesides
import Derived.Lib.Hide
namespace Go.Proofs.Ytkcknikaidbeoaa
open Go.RowKit

theorem ret_int {k : IntKind} {a b : Int} (h : a = b) : Ending.returned (.int k a) = .returned (.int k b) := by rw [h]
theorem ret_bool {a b : Bool} (h : a = b) : Ending.returned (.bool a) = .returned (.bool b) := by rw [h]

def inB (x a b : Int) : Bool := decide (a ≤ x ∧ x ≤ b)
theorem inB_yes {x a b : Int} (h1 : a ≤ x) (h2 : x ≤ b) : inB x a b = true := by simp [inB, h1, h2]
theorem inB_no {x a b : Int} (h : x < a ∨ b < x) : inB x a b = false := by simp [inB]; omega
theorem inB_iff {x a b : Int} : inB x a b = true ↔ a ≤ x ∧ x ≤ b := by simp [inB]

theorem in_any (x a b : Int) (w : World) :
    Calls Try.prog 84 #[.int .i64 x, .int .i64 a, .int .i64 b] w fun e w' => e = .returned (.bool (inB x a b)) ∧ w = w' := by
  by_cases h1 : a ≤ x
  · by_cases h2 : x ≤ b
    · have hf := inB_yes h1 h2
      have Hf := Lib.hid hf; clear hf
      go_enter Try.func84, Try.ntmps84
      go_wp2
      go_ret
      exact ⟨ret_bool (by rw [Hf.out]), rfl⟩
    · have hf := inB_no (x := x) (a := a) (b := b) (by omega)
      have Hf := Lib.hid hf; clear hf
      go_enter Try.func84, Try.ntmps84
      go_wp2
      go_ret
      exact ⟨ret_bool (by rw [Hf.out]), rfl⟩
  · have hf := inB_no (x := x) (a := a) (b := b) (by omega)
    have Hf := Lib.hid hf; clear hf
    go_enter Try.func84, Try.ntmps84
    go_wp2
    go_ret
    exact ⟨ret_bool (by rw [Hf.out]), rfl⟩
theorem in_yes (x a b : Int) (w : World) (h1 : a ≤ x) (h2 : x ≤ b) :
    Calls Try.prog 84 #[.int .i64 x, .int .i64 a, .int .i64 b] w fun e w' => e = .returned (.bool true) ∧ w = w' :=
  (in_any x a b w).mono fun _ _ ⟨h, hw⟩ => ⟨by rw [h, inB_yes h1 h2], hw⟩
theorem in_no (x a b : Int) (w : World) (h : x < a ∨ b < x) :
    Calls Try.prog 84 #[.int .i64 x, .int .i64 a, .int .i64 b] w fun e w' => e = .returned (.bool false) ∧ w = w' :=
  (in_any x a b w).mono fun _ _ ⟨he, hw⟩ => ⟨by rw [he, inB_no h], hw⟩

/-! NextRandom -/
def nextR (s : Int) : Int := if s < 0 ∨ 65535 < s then 0 else (s * 25173 + 13849) % 65536
theorem nextR_out {s : Int} (h : s < 0 ∨ 65535 < s) : nextR s = 0 := if_pos h
theorem nextR_in {s : Int} (h1 : 0 ≤ s) (h2 : s ≤ 65535) : nextR s = (s * 25173 + 13849) % 65536 := if_neg (by omega)
theorem nextR_bd (s : Int) : 0 ≤ nextR s ∧ nextR s ≤ 65535 := by unfold nextR; split <;> omega

theorem next_impl (s : Int) (w : World) :
    Calls Try.prog 129 #[.int .i64 s] w fun e w' => e = .returned (.int .i64 (nextR s)) ∧ w = w' := by
  by_cases h1 : 0 ≤ s
  · by_cases h2 : s ≤ 65535
    · have Hf := Lib.hid (nextR_in h1 h2)
      go_enter Try.func129, Try.ntmps129
      go_wp2
      go_ret
      exact ⟨ret_int (by rw [Hf.out]), rfl⟩
    · have Hf := Lib.hid (nextR_out (s := s) (by omega))
      go_enter Try.func129, Try.ntmps129
      go_wp2
      go_ret
      exact ⟨ret_int (by rw [Hf.out]), rfl⟩
  · have Hf := Lib.hid (nextR_out (s := s) (by omega))
    go_enter Try.func129, Try.ntmps129
    go_wp2
    go_ret
    exact ⟨ret_int (by rw [Hf.out]), rfl⟩

theorem next_spec (s : Int) (w : World) :
    Calls Try.prog 159 #[.int .i64 s] w fun e w' => e = .returned (.int .i64 (nextR s)) ∧ w = w' := by
  by_cases h : 0 ≤ s ∧ s ≤ 65535
  · obtain ⟨h1, h2⟩ := h
    have Hf := Lib.hid (nextR_in h1 h2)
    have hb := Lib.hid (and_65535 (s * 25173 + 13849) (by omega) (by omega))
    go_enter Try.func159, Try.ntmps159
    go_wp2_with (go_at_call 84; refine (in_yes _ _ _ _ (by omega) (by omega)).mono ?_; rintro e w' ⟨rfl, rfl⟩)
    go_ret
    exact ⟨ret_int (by rw [Hf.out, hb.out]), rfl⟩
  · have Hf := Lib.hid (nextR_out (s := s) (by omega))
    go_enter Try.func159, Try.ntmps159
    go_wp2_with (go_at_call 84; refine (in_no _ _ _ _ (by omega)).mono ?_; rintro e w' ⟨rfl, rfl⟩)
    go_ret
    exact ⟨ret_int (by rw [Hf.out]), rfl⟩

/-! Signless -/
def signless (n : Int) : Int := if n < -549755813888 ∨ 549755813887 < n then -1 else if 0 ≤ n then 2 * n else -2 * n - 1
theorem signless_out {n : Int} (h : n < -549755813888 ∨ 549755813887 < n) : signless n = -1 := if_pos h
theorem signless_pos {n : Int} (h1 : 0 ≤ n) (h2 : n ≤ 549755813887) : signless n = 2 * n := by
  unfold signless; rw [if_neg (by omega), if_pos h1]
theorem signless_neg {n : Int} (h1 : n < 0) (h2 : -549755813888 ≤ n) : signless n = -2 * n - 1 := by
  unfold signless; rw [if_neg (by omega), if_neg (by omega)]
theorem signless_bd (n : Int) : -1 ≤ signless n ∧ signless n ≤ 1099511627775 := by
  unfold signless; split
  · omega
  · split <;> omega

theorem signless_impl (n : Int) (w : World) :
    Calls Try.prog 144 #[.int .i64 n] w fun e w' => e = .returned (.int .i64 (signless n)) ∧ w = w' := by
  by_cases h : n < -549755813888 ∨ 549755813887 < n
  · have Hf := Lib.hid (signless_out h)
    rcases h with h | h
    all_goals
      go_enter Try.func144, Try.ntmps144
      go_wp2
      go_ret
      exact ⟨ret_int (by rw [Hf.out]), rfl⟩
  · have h1 : -549755813888 ≤ n := by omega
    have h2 : n ≤ 549755813887 := by omega
    clear h
    by_cases h0 : 0 ≤ n
    · have Hf := Lib.hid (signless_pos h0 h2)
      go_enter Try.func144, Try.ntmps144
      go_wp2
      go_ret
      exact ⟨ret_int (by rw [Hf.out]), rfl⟩
    · have Hf := Lib.hid (signless_neg (n := n) (by omega) h1)
      go_enter Try.func144, Try.ntmps144
      go_wp2
      go_ret
      exact ⟨ret_int (by rw [Hf.out]), rfl⟩

theorem signless_spec (n : Int) (w : World) :
    Calls Try.prog 142 #[.int .i64 n] w fun e w' => e = .returned (.int .i64 (signless n)) ∧ w = w' := by
  by_cases h : n < -549755813888 ∨ 549755813887 < n
  · have Hf := Lib.hid (signless_out h)
    go_enter Try.func142, Try.ntmps142
    go_wp2_with (go_at_call 84; refine (in_no _ _ _ _ (by omega)).mono ?_; rintro e w' ⟨rfl, rfl⟩)
    go_ret
    exact ⟨ret_int (by rw [Hf.out]), rfl⟩
  · have h1 : -549755813888 ≤ n := by omega
    have h2 : n ≤ 549755813887 := by omega
    clear h
    by_cases h0 : 0 ≤ n
    · have Hf := Lib.hid (signless_pos h0 h2)
      go_enter Try.func142, Try.ntmps142
      go_wp2_with (go_at_call 84; refine (in_yes _ _ _ _ (by omega) (by omega)).mono ?_; rintro e w' ⟨rfl, rfl⟩)
      go_ret
      exact ⟨ret_int (by rw [Hf.out]), rfl⟩
    · have Hf := Lib.hid (signless_neg (n := n) (by omega) h1)
      go_enter Try.func142, Try.ntmps142
      go_wp2_with (go_at_call 84; refine (in_yes _ _ _ _ (by omega) (by omega)).mono ?_; rintro e w' ⟨rfl, rfl⟩)
      go_ret
      exact ⟨ret_int (by rw [Hf.out]), rfl⟩

/-! Signed -/
def signed (n : Int) : Int := if n < 0 ∨ 1099511627775 < n then 0 else if n % 2 = 0 then n / 2 else -((n + 1) / 2)
theorem signed_out {n : Int} (h : n < 0 ∨ 1099511627775 < n) : signed n = 0 := if_pos h
theorem signed_even {n : Int} (h1 : 0 ≤ n) (h2 : n ≤ 1099511627775) (h : n % 2 = 0) : signed n = n / 2 := by
  unfold signed; rw [if_neg (by omega), if_pos h]
theorem signed_odd {n : Int} (h1 : 0 ≤ n) (h2 : n ≤ 1099511627775) (h : n % 2 = 1) : signed n = -((n + 1) / 2) := by
  unfold signed; rw [if_neg (by omega), if_neg (by omega)]
theorem signed_bd (n : Int) : -549755813888 ≤ signed n ∧ signed n ≤ 549755813887 := by
  unfold signed; split
  · omega
  · split <;> omega

theorem neg_half (n : Int) (h1 : 0 ≤ n) (h2 : n ≤ 1099511627775) : wrap64 (-(n + 1).tdiv 2) = -((n + 1) / 2) := by
  rw [Int.tdiv_eq_ediv_of_nonneg (by omega)]; exact IntWalk.wrap64_in _ (by omega)

theorem signed_impl (n : Int) (w : World) :
    Calls Try.prog 156 #[.int .i64 n] w fun e w' => e = .returned (.int .i64 (signed n)) ∧ w = w' := by
  by_cases h : n < 0 ∨ 1099511627775 < n
  · have Hf := Lib.hid (signed_out h)
    rcases h with h | h
    all_goals
      go_enter Try.func156, Try.ntmps156
      go_wp2
      go_ret
      exact ⟨ret_int (by rw [Hf.out]), rfl⟩
  · have h1 : 0 ≤ n := by omega
    have h2 : n ≤ 1099511627775 := by omega
    clear h
    by_cases h0 : n % 2 = 0
    · have Hf := Lib.hid (signed_even h1 h2 h0)
      have h3 : (n % 2 == 0) = true := by simp [h0]
      clear h0
      go_enter Try.func156, Try.ntmps156
      go_wp2
      go_ret
      exact ⟨ret_int (by rw [Hf.out]), rfl⟩
    · have Hf := Lib.hid (signed_odd h1 h2 (by omega))
      have h3 : (n % 2 == 0) = false := by simp [h0]
      clear h0
      go_enter Try.func156, Try.ntmps156
      go_wp2
      go_ret
      exact ⟨ret_int (by rw [Hf.out, neg_half n h1 h2]), rfl⟩

theorem signed_spec (n : Int) (w : World) :
    Calls Try.prog 154 #[.int .i64 n] w fun e w' => e = .returned (.int .i64 (signed n)) ∧ w = w' := by
  by_cases h : n < 0 ∨ 1099511627775 < n
  · have Hf := Lib.hid (signed_out h)
    go_enter Try.func154, Try.ntmps154
    go_wp2_with (go_at_call 84; refine (in_no _ _ _ _ (by omega)).mono ?_; rintro e w' ⟨rfl, rfl⟩)
    go_ret
    exact ⟨ret_int (by rw [Hf.out]), rfl⟩
  · have h1 : 0 ≤ n := by omega
    have h2 : n ≤ 1099511627775 := by omega
    clear h
    have hb := and_1 n h1 (by omega)
    by_cases h0 : n % 2 = 0
    · have Hf := Lib.hid (signed_even h1 h2 h0)
      have h3 : (bits .and .i64 n 1 == 1) = false := by rw [hb, h0]; rfl
      clear h0 hb
      go_enter Try.func154, Try.ntmps154
      go_wp2_with (go_at_call 84; refine (in_yes _ _ _ _ (by omega) (by omega)).mono ?_; rintro e w' ⟨rfl, rfl⟩)
      go_ret
      exact ⟨ret_int (by rw [Hf.out]), rfl⟩
    · have Hf := Lib.hid (signed_odd h1 h2 (by omega))
      have h3 : (bits .and .i64 n 1 == 1) = true := by rw [hb]; simp; omega
      clear h0 hb
      go_enter Try.func154, Try.ntmps154
      go_wp2_with (go_at_call 84; refine (in_yes _ _ _ _ (by omega) (by omega)).mono ?_; rintro e w' ⟨rfl, rfl⟩)
      go_ret
      exact ⟨ret_int (by rw [Hf.out, neg_half n h1 h2]), rfl⟩
end Go.Proofs.Ytkcknikaidbeoaa
