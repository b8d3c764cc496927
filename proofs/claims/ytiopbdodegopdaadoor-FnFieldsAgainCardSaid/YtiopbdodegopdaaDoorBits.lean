/- Plain facts on bit operations of int and byte values, and on worlds that have drawn. No program. -/
import Derived.WalkKit
import Derived.Deep.Quiet
namespace Go.Proofs.YtiopbdodegopdaaDoor

open Go.RowKit
/-- nothing has turned but that something was drawn -/
def Drawn (w w' : World) : Prop := ∃ k, w' = w.drewN k
theorem Drawn.refl (w : World) : Drawn w w := ⟨0, rfl⟩
theorem Drawn.mk (w : World) (k : Nat) : Drawn w (w.drewN k) := ⟨k, rfl⟩
theorem Drawn.one (w : World) : Drawn w w.drew := ⟨1, rfl⟩
theorem Drawn.trans {a b c : World} (h : Drawn a b) (k : Drawn b c) : Drawn a c := by
  obtain ⟨x, rfl⟩ := h
  obtain ⟨y, rfl⟩ := k
  exact ⟨x + y, by simp [World.drewN, Nat.add_assoc]⟩
theorem Drawn.below {w w' : World} (h : Drawn w w') (B : Nat) : Below B w w' := by
  obtain ⟨x, rfl⟩ := h
  exact ⟨rfl, rfl, rfl, Nat.le_refl _, fun _ _ => rfl⟩

theorem wrap_i64_nat (a : Nat) (h : a < 9223372036854775808) : IntKind.i64.wrap (a : Int) = (a : Int) := by
  simp [IntKind.wrap, IntKind.bits, IntKind.signed]; omega
theorem ofInt64_nat (a : Nat) (ha : a < 9223372036854775808) : (BitVec.ofInt 64 (a : Int)).toNat = a := by
  rw [BitVec.ofInt_natCast, BitVec.toNat_ofNat]; exact Nat.mod_eq_of_lt (by omega)
theorem and_i64 (a b : Nat) (ha : a < 9223372036854775808) (hb : b < 9223372036854775808) :
    bits .and .i64 (a : Int) (b : Int) = ((a &&& b : Nat) : Int) := by
  have h1 := ofInt64_nat a ha
  have h2 := ofInt64_nat b hb
  have hx : a &&& b < 9223372036854775808 := Nat.lt_of_le_of_lt Nat.and_le_left ha
  show IntKind.i64.wrap ((BitVec.ofInt 64 (a : Int) &&& BitVec.ofInt 64 (b : Int)).toNat : Int) = _
  rw [BitVec.toNat_and, h1, h2, wrap_i64_nat _ hx]
theorem or_i64 (a b : Nat) (ha : a < 9223372036854775808) (hb : b < 9223372036854775808) :
    bits .or .i64 (a : Int) (b : Int) = ((a ||| b : Nat) : Int) := by
  have h1 := ofInt64_nat a ha
  have h2 := ofInt64_nat b hb
  have hx : a ||| b < 2 ^ 63 := Nat.or_lt_two_pow (by omega) (by omega)
  show IntKind.i64.wrap ((BitVec.ofInt 64 (a : Int) ||| BitVec.ofInt 64 (b : Int)).toNat : Int) = _
  rw [BitVec.toNat_or, h1, h2, wrap_i64_nat _ (by omega)]
theorem and_i64_lit (a : Int) (b : Nat) (h0 : 0 ≤ a) (ha : a < 9223372036854775808) (hb : b < 9223372036854775808) :
    bits .and .i64 a (b : Int) = ((a.toNat &&& b : Nat) : Int) := by
  obtain ⟨n, rfl⟩ := Int.eq_ofNat_of_zero_le h0
  exact and_i64 n b (by omega) hb
/-- m | x << n, m below 2^n -/
theorem or_shift {m x : Int} {n : Nat} (h0 : 0 ≤ m) (hm : m < 2 ^ n) (hx0 : 0 ≤ x) (hb : m + x * 2 ^ n < 9223372036854775808) : bits .or .i64 m (x * 2 ^ n) = m + x * 2 ^ n := by
  obtain ⟨a, rfl⟩ := Int.eq_ofNat_of_zero_le h0
  obtain ⟨b, rfl⟩ := Int.eq_ofNat_of_zero_le hx0
  have e : ((b : Int) * 2 ^ n) = ((b * 2 ^ n : Nat) : Int) := by simp
  have ha : a < 2 ^ n := by
    have : ((a : Nat) : Int) < ((2 ^ n : Nat) : Int) := by simpa using hm
    omega
  rw [e] at hb ⊢
  have h := or_i64 a (b * 2 ^ n) (by omega) (by omega)
  rw [h, Nat.or_comm, Nat.mul_comm, ← Nat.two_pow_add_eq_or_of_lt ha]
  simp
  omega
theorem or_128 (a : Int) (h0 : 0 ≤ a) (ha : a < 128) : bits .or .i64 a 128 = a + 128 := by
  obtain ⟨n, rfl⟩ := Int.eq_ofNat_of_zero_le h0
  have h := or_i64 n 128 (by omega) (by decide)
  have e : n ||| 128 = n + 128 := by
    rw [Nat.or_comm, Nat.add_comm]
    exact (Nat.two_pow_add_eq_or_of_lt (i := 7) (b := n) (by omega) 1).symm
  rw [e] at h
  exact h
/-- n & (2^k - 1) -/
theorem and_mask (a : Int) (k : Nat) (h0 : 0 ≤ a) (ha : a < 9223372036854775808) (hk : 2 ^ k - 1 < 9223372036854775808) :
    bits .and .i64 a ((2 ^ k - 1 : Nat) : Int) = a % ((2 ^ k : Nat) : Int) := by
  rw [and_i64_lit a _ h0 ha hk, Nat.and_two_pow_sub_one_eq_mod]
  obtain ⟨n, rfl⟩ := Int.eq_ofNat_of_zero_le h0
  simp
theorem and_65535 (a : Int) (h0 : 0 ≤ a) (ha : a < 9223372036854775808) : bits .and .i64 a 65535 = a % 65536 :=
  and_mask a 16 h0 ha (by decide)
theorem and_127 (a : Int) (h0 : 0 ≤ a) (ha : a < 9223372036854775808) : bits .and .i64 a 127 = a % 128 :=
  and_mask a 7 h0 ha (by decide)
theorem and_1 (a : Int) (h0 : 0 ≤ a) (ha : a < 9223372036854775808) : bits .and .i64 a 1 = a % 2 :=
  and_mask a 1 h0 ha (by decide)
theorem ofInt8_nat (a : Nat) (ha : a < 256) : (BitVec.ofInt 8 (a : Int)).toNat = a := by
  rw [BitVec.ofInt_natCast, BitVec.toNat_ofNat]; exact Nat.mod_eq_of_lt (by omega)
theorem wrap_u8_nat (a : Nat) (h : a < 256) : IntKind.u8.wrap (a : Int) = (a : Int) := IntWalk.u8_in _ (by omega)
theorem xor_u8 (a b : UInt8) : bits .xor .u8 (a.toNat : Int) (b.toNat : Int) = ((a ^^^ b).toNat : Int) := by
  have h1 := ofInt8_nat a.toNat a.toNat_lt
  have h2 := ofInt8_nat b.toNat b.toNat_lt
  have hx : a.toNat ^^^ b.toNat < 2 ^ 8 := Nat.xor_lt_two_pow a.toNat_lt b.toNat_lt
  show IntKind.u8.wrap ((BitVec.ofInt 8 (a.toNat : Int) ^^^ BitVec.ofInt 8 (b.toNat : Int)).toNat : Int) = _
  rw [BitVec.toNat_xor, h1, h2, wrap_u8_nat _ (by omega), UInt8.toNat_xor]
theorem and_u8 (a b : Nat) (ha : a < 256) (hb : b < 256) : bits .and .u8 (a : Int) (b : Int) = ((a &&& b : Nat) : Int) := by
  have h1 := ofInt8_nat a ha
  have h2 := ofInt8_nat b hb
  have hx : a &&& b < 256 := Nat.lt_of_le_of_lt Nat.and_le_left ha
  show IntKind.u8.wrap ((BitVec.ofInt 8 (a : Int) &&& BitVec.ofInt 8 (b : Int)).toNat : Int) = _
  rw [BitVec.toNat_and, h1, h2, wrap_u8_nat _ hx]
theorem and_u8_127 (a : Nat) (ha : a < 256) : bits .and .u8 (a : Int) 127 = (a : Int) % 128 := by
  rw [show (127 : Int) = ((127 : Nat) : Int) from rfl, and_u8 a 127 ha (by decide), show (127 : Nat) = 2 ^ 7 - 1 from rfl, Nat.and_two_pow_sub_one_eq_mod]
  simp
theorem and_u8_15 (a : Nat) (ha : a < 256) : bits .and .u8 (a : Int) 15 = (a : Int) % 16 := by
  rw [show (15 : Int) = ((15 : Nat) : Int) from rfl, and_u8 a 15 ha (by decide), show (15 : Nat) = 2 ^ 4 - 1 from rfl, Nat.and_two_pow_sub_one_eq_mod]
  simp
end Go.Proofs.YtiopbdodegopdaaDoor
