/- Checksum: the program's and the reference's return the same plain function of the string. -/
import Derived.Test.YtiopbdodegopdaaDoorNum
namespace Go.Proofs.YtiopbdodegopdaaDoor
open Go.RowKit

theorem mul_bd {a b A B : Int} (h1 : 0 ≤ a) (h2 : a ≤ A) (h3 : 0 ≤ b) (h4 : b ≤ B) : 0 ≤ a * b ∧ a * b ≤ A * B :=
  ⟨Int.mul_nonneg h1 h3, Int.mul_le_mul h2 h4 h3 (by omega)⟩
/-- a string's byte at an index; 0 behind its end -/
def byteAt (s : ByteArray) (k : Nat) : Int := if h : k < s.size then ((s[k]'h).toNat : Int) else 0
theorem byteAt_eq {s : ByteArray} {k : Nat} (h : k < s.size) : byteAt s k = ((s[k]'h).toNat : Int) := dif_pos h
theorem byteAt_bd (s : ByteArray) (k : Nat) : 0 ≤ byteAt s k ∧ byteAt s k ≤ 255 := by
  unfold byteAt; split
  · rename_i h; have := (s[k]'h).toNat_lt; omega
  · omega
def ckA (s : ByteArray) : Nat → Int
  | 0 => 0
  | k + 1 => (ckA s k + byteAt s k) % 65521
def ckB (s : ByteArray) : Nat → Int
  | 0 => 0
  | k + 1 => (ckB s k + byteAt s k * (((k : Int) + 1) % 65521)) % 65521
theorem ckA_bd (s : ByteArray) (k : Nat) : 0 ≤ ckA s k ∧ ckA s k ≤ 65520 := by
  cases k <;> simp only [ckA] <;> omega
theorem ckB_bd (s : ByteArray) (k : Nat) : 0 ≤ ckB s k ∧ ckB s k ≤ 65520 := by
  cases k <;> simp only [ckB] <;> omega
def cksum (s : ByteArray) : Int := ckA s s.size + 65536 * ckB s s.size
theorem cksum_bd (s : ByteArray) : 0 ≤ cksum s ∧ cksum s ≤ 4293984240 := by
  have := ckA_bd s s.size
  have := ckB_bd s s.size
  unfold cksum; omega

end Go.Proofs.YtiopbdodegopdaaDoor
