/- EncodeHex -/
import Derived.Test.YtiopbdodegopdaaDoorNum
import Derived.Test.YtiopbdodegopdaaDoorLaws
import Derived.Test.YtiopbdodegopdaaDoorCk
import Derived.Deep.RegionLaw
import Derived.Outline
namespace Go.Proofs.YtiopbdodegopdaaDoor
open Go.RowKit

/-- a figure of the base 16 -/
def fig (x : Int) : Int := if x < 10 then 48 + x else 87 + x
theorem fig_bd {x : Int} (h0 : 0 ≤ x) (h : x < 16) : 0 ≤ fig x ∧ fig x < 256 := by unfold fig; split <;> omega
def hexTo (s : ByteArray) : Nat → List UInt8
  | 0 => []
  | k + 1 => hexTo s k ++ [b8 (fig (byteAt s k / 16)), b8 (fig (byteAt s k % 16))]
theorem hexTo_len (s : ByteArray) (k : Nat) : (hexTo s k).length = 2 * k := by
  induction k with
  | zero => rfl
  | succ k ih => simp only [hexTo, List.length_append, ih]; simp; omega
def hexT (s : ByteArray) : ByteArray := if s.size ≤ 20000 then ⟨(hexTo s s.size).toArray⟩ else ⟨#[]⟩

theorem digit_at (d : Int) (h0 : 0 ≤ d) (h : d < 16) (w : World) :
    (Instr.index 9 (.string { data := #[48, 49, 50, 51, 52, 53, 54, 55, 56, 57, 97, 98, 99, 100, 101, 102] }) (.int .u8 d)).run Tryd.prog w = .ok (.int .u8 (fig d)) w := by
  rcases (show d = 0 ∨ d = 1 ∨ d = 2 ∨ d = 3 ∨ d = 4 ∨ d = 5 ∨ d = 6 ∨ d = 7 ∨ d = 8 ∨ d = 9 ∨ d = 10 ∨ d = 11 ∨ d = 12 ∨ d = 13 ∨ d = 14 ∨ d = 15 by omega) with
    rfl | rfl | rfl | rfl | rfl | rfl | rfl | rfl | rfl | rfl | rfl | rfl | rfl | rfl | rfl | rfl <;> kernel_rfl

theorem hexTo_succ (s : ByteArray) (k : Nat) (h : k < s.size) : hexTo s (k + 1) = hexTo s k ++ [b8 (fig (((s[k]'h).toNat : Int) / 16)), b8 (fig (((s[k]'h).toNat : Int) % 16))] := by
  simp only [hexTo, byteAt_eq h]

end Go.Proofs.YtiopbdodegopdaaDoor
