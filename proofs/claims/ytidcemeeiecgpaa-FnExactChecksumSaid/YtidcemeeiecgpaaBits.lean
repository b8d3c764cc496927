/- Plain facts on bit operations of int and byte values. No program. -/
import Derived.WalkKit
namespace Go.Proofs.Ytidcemeeiecgpaa

theorem wrap_i64_nat (a : Nat) (h : a < 9223372036854775808) : IntKind.i64.wrap (a : Int) = (a : Int) := by
  simp [IntKind.wrap, IntKind.bits, IntKind.signed]; omega
theorem ofInt64_nat (a : Nat) (ha : a < 9223372036854775808) : (BitVec.ofInt 64 (a : Int)).toNat = a := by
  rw [BitVec.ofInt_natCast, BitVec.toNat_ofNat]; exact Nat.mod_eq_of_lt (by omega)
theorem and_i64 (a b : Nat) (ha : a < 9223372036854775808) (hb : b < 9223372036854775808) :
    bits .and .i64 (a : Int) (b : Int) = ((a &&& b : Nat) : Int) := by
  have h1 := ofInt64_nat a ha
  have h2 := ofInt64_nat b hb
  have hx : a &&& b < 9223372036854775808 := Nat.lt_of_le_of_lt Nat.and_le_left ha
  show IntKind.i64.wrap ((BitVec.ofInt 64 (a : Int) &&& BitVec.ofInt 64 (b : Int)).toNat : Int) = _
  rw [BitVec.toNat_and, h1, h2, wrap_i64_nat _ hx]
theorem or_i64 (a b : Nat) (ha : a < 9223372036854775808) (hb : b < 9223372036854775808) :
    bits .or .i64 (a : Int) (b : Int) = ((a ||| b : Nat) : Int) := by
  have h1 := ofInt64_nat a ha
  have h2 := ofInt64_nat b hb
  have hx : a ||| b < 2 ^ 63 := Nat.or_lt_two_pow (by omega) (by omega)
  show IntKind.i64.wrap ((BitVec.ofInt 64 (a : Int) ||| BitVec.ofInt 64 (b : Int)).toNat : Int) = _
  rw [BitVec.toNat_or, h1, h2, wrap_i64_nat _ (by omega)]
theorem and_i64_lit (a : Int) (b : Nat) (h0 : 0 ≤ a) (ha : a < 9223372036854775808) (hb : b < 9223372036854775808) :
    bits .and .i64 a (b : Int) = ((a.toNat &&& b : Nat) : Int) := by
  obtain ⟨n, rfl⟩ := Int.eq_ofNat_of_zero_le h0
  exact and_i64 n b (by omega) hb
/-- n & (2^k - 1) -/
theorem and_mask (a : Int) (k : Nat) (h0 : 0 ≤ a) (ha : a < 9223372036854775808) (hk : 2 ^ k - 1 < 9223372036854775808) :
    bits .and .i64 a ((2 ^ k - 1 : Nat) : Int) = a % ((2 ^ k : Nat) : Int) := by
  rw [and_i64_lit a _ h0 ha hk, Nat.and_two_pow_sub_one_eq_mod]
  obtain ⟨n, rfl⟩ := Int.eq_ofNat_of_zero_le h0
  simp
theorem and_65535 (a : Int) (h0 : 0 ≤ a) (ha : a < 9223372036854775808) : bits .and .i64 a 65535 = a % 65536 :=
  and_mask a 16 h0 ha (by decide)
theorem and_127 (a : Int) (h0 : 0 ≤ a) (ha : a < 9223372036854775808) : bits .and .i64 a 127 = a % 128 :=
  and_mask a 7 h0 ha (by decide)
theorem and_1 (a : Int) (h0 : 0 ≤ a) (ha : a < 9223372036854775808) : bits .and .i64 a 1 = a % 2 :=
  and_mask a 1 h0 ha (by decide)
end Go.Proofs.Ytidcemeeiecgpaa
