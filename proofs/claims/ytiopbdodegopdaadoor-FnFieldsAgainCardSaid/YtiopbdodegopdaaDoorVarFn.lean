/- Numbers written to the base 128: the plain function. No program. -/
import Derived.Test.YtiopbdodegopdaaDoorOwn
namespace Go.Proofs.YtiopbdodegopdaaDoor
/-- the digits to the base 128, the lowest first; f: how many more there may be -/
def encF : Nat → Int → List UInt8
  | 0, m => [b8 m]
  | f + 1, m => if m < 128 then [b8 m] else b8 (m % 128 + 128) :: encF f (m / 128)
def encV (n : Int) : List UInt8 := if n < 0 ∨ 1099511627775 < n then [] else encF 5 n
def encVar (n : Int) : ByteArray := ⟨(encV n).toArray⟩
theorem encF_lt {f : Nat} {m : Int} (h : m < 128) : encF f m = [b8 m] := by cases f <;> simp [encF, h]
theorem encF_ge {f : Nat} {m : Int} (h : ¬ m < 128) : encF (f + 1) m = b8 (m % 128 + 128) :: encF f (m / 128) := by simp [encF, h]
theorem encV_out {n : Int} (h : n < 0 ∨ 1099511627775 < n) : encV n = [] := if_pos h
theorem encF_end {f : Nat} {m n : Int} {l : List UInt8} (h : encV n = l ++ encF f m) (hm : m < 128) : encV n = l ++ [b8 m] := by rw [h, encF_lt hm]
theorem encF_more {f : Nat} {m n : Int} {l : List UInt8} (h : encV n = l ++ encF (f + 1) m) (hm : ¬ m < 128) : encV n = (l ++ [b8 (m % 128 + 128)]) ++ encF f (m / 128) := by rw [h, encF_ge hm]; simp
theorem encF_fuel {f : Nat} {m : Int} (h : m < 128 ^ (f + 1)) (hm : ¬ m < 128) : ∃ f', f = f' + 1 ∧ m / 128 < 128 ^ (f' + 1) := by
  cases f with
  | zero => exact absurd h (by simpa using hm)
  | succ f => exact ⟨f, rfl, Int.ediv_lt_of_lt_mul (by omega) (by rw [← Int.pow_succ]; exact h)⟩

end Go.Proofs.YtiopbdodegopdaaDoor
