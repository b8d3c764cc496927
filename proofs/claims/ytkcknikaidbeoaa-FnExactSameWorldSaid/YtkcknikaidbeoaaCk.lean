/- Checksum: the program's and the reference's return the same plain function of the string. -/
import Derived.Test.YtkcknikaidbeoaaNum
namespace Go.Proofs.Ytkcknikaidbeoaa
open Go.RowKit

theorem mul_bd {a b A B : Int} (h1 : 0 ≤ a) (h2 : a ≤ A) (h3 : 0 ≤ b) (h4 : b ≤ B) : 0 ≤ a * b ∧ a * b ≤ A * B :=
  ⟨Int.mul_nonneg h1 h3, Int.mul_le_mul h2 h4 h3 (by omega)⟩
/-- a string's byte at an index; 0 behind its end -/
def byteAt (s : ByteArray) (k : Nat) : Int := if h : k < s.size then ((s[k]'h).toNat : Int) else 0
theorem byteAt_eq {s : ByteArray} {k : Nat} (h : k < s.size) : byteAt s k = ((s[k]'h).toNat : Int) := dif_pos h
theorem byteAt_bd (s : ByteArray) (k : Nat) : 0 ≤ byteAt s k ∧ byteAt s k ≤ 255 := by
  unfold byteAt; split
  · rename_i h; have := (s[k]'h).toNat_lt; omega
  · omega
def ckA (s : ByteArray) : Nat → Int
  | 0 => 0
  | k + 1 => (ckA s k + byteAt s k) % 65521
def ckB (s : ByteArray) : Nat → Int
  | 0 => 0
  | k + 1 => (ckB s k + byteAt s k * (((k : Int) + 1) % 65521)) % 65521
theorem ckA_bd (s : ByteArray) (k : Nat) : 0 ≤ ckA s k ∧ ckA s k ≤ 65520 := by
  cases k <;> simp only [ckA] <;> omega
theorem ckB_bd (s : ByteArray) (k : Nat) : 0 ≤ ckB s k ∧ ckB s k ≤ 65520 := by
  cases k <;> simp only [ckB] <;> omega
def cksum (s : ByteArray) : Int := ckA s s.size + 65536 * ckB s s.size
theorem cksum_bd (s : ByteArray) : 0 ≤ cksum s ∧ cksum s ≤ 4293984240 := by
  have := ckA_bd s s.size
  have := ckB_bd s s.size
  unfold cksum; omega

set_option maxHeartbeats 400000 in
theorem ck_impl (s : ByteArray) (w : World) (hs : s.size ≤ maxLen) :
    Calls Try.prog 76 #[.string s] w fun e w' => e = .returned (.int .i64 (cksum s)) ∧ w = w' := by
  unfold maxLen at hs
  go_enter Try.func76, Try.ntmps76
  go_wp2
  go_loop [3, 4, 5] (fun a b i => ∃ k : Nat, k ≤ s.size ∧ i = .int .i64 k ∧ a = .int .i64 (ckA s k) ∧ b = .int .i64 (ckB s k)) (fun _ _ i => s.size - (intOf i).toNat)
  case atStart => exact ⟨0, Nat.zero_le _, rfl, rfl, rfl⟩
  case round =>
    obtain ⟨k, hk, rfl, rfl, rfl⟩ := hrel
    have ha := ckA_bd s k
    have hb := ckB_bd s k
    by_cases hlt : k < s.size
    · have hby := byteAt_bd s k
      have HA : Hid (ckA s (k + 1) = (ckA s k + ((s[k]'hlt).toNat : Int)) % 65521) := by rw [← byteAt_eq hlt]; exact Lib.hid rfl
      have HB : Hid (ckB s (k + 1) = (ckB s k + ((s[k]'hlt).toNat : Int) * (((k : Int) + 1) % 65521)) % 65521) := by rw [← byteAt_eq hlt]; exact Lib.hid rfl
      rw [byteAt_eq hlt] at hby
      have hm := mul_bd (b := ((k : Int) + 1) % 65521) (B := 65520) hby.1 hby.2 (by omega) (by omega)
      go_wp2
      go_round
      case rel => exact ⟨k + 1, by omega, by go_num, by rw [HA.out], by rw [HB.out]⟩
      case measure => simp [intOf]; omega
    · go_wp2
      go_ret
      exact ⟨ret_int (by obtain rfl : k = s.size := by omega
                         rfl), rfl⟩
set_option maxHeartbeats 400000 in
theorem ck_spec (s : ByteArray) (w : World) (hs : s.size ≤ maxLen) :
    Calls Try.prog 110 #[.string s] w fun e w' => e = .returned (.int .i64 (cksum s)) ∧ w = w' := by
  unfold maxLen at hs
  go_enter Try.func110, Try.ntmps110
  go_wp2
  go_loop [3, 4, 5] (fun a b i => ∃ k : Nat, k ≤ s.size ∧ i = .int .i64 k ∧ a = .int .i64 (ckA s k) ∧ b = .int .i64 (ckB s k)) (fun _ _ i => s.size - (intOf i).toNat)
  case atStart => exact ⟨0, Nat.zero_le _, rfl, rfl, rfl⟩
  case round =>
    obtain ⟨k, hk, rfl, rfl, rfl⟩ := hrel
    have ha := ckA_bd s k
    have hb := ckB_bd s k
    by_cases hlt : k < s.size
    · have hby := byteAt_bd s k
      have HA : Hid (ckA s (k + 1) = (ckA s k + ((s[k]'hlt).toNat : Int)) % 65521) := by rw [← byteAt_eq hlt]; exact Lib.hid rfl
      have HB : Hid (ckB s (k + 1) = (ckB s k + ((s[k]'hlt).toNat : Int) * (((k : Int) + 1) % 65521)) % 65521) := by rw [← byteAt_eq hlt]; exact Lib.hid rfl
      rw [byteAt_eq hlt] at hby
      have hm := mul_bd (b := ((k : Int) + 1) % 65521) (B := 65520) hby.1 hby.2 (by omega) (by omega)
      go_wp2
      go_round
      case rel => exact ⟨k + 1, by omega, by go_num, by rw [HA.out], by rw [HB.out]⟩
      case measure => simp [intOf]; omega
    · go_wp2
      go_ret
      exact ⟨ret_int (by obtain rfl : k = s.size := by omega
                         rfl), rfl⟩
end Go.Proofs.Ytkcknikaidbeoaa
