/- PackText, SealText, OpenText: the program's and the reference's return the same plain functions of the string. -/
import Derived.Test.YtiopbdodegopdaaDoorVar
import Derived.Test.YtiopbdodegopdaaDoorCk
namespace Go.Proofs.YtiopbdodegopdaaDoor
open Go.RowKit

theorem encF_len (f : Nat) (m : Int) : (encF f m).length ≤ f + 1 := by
  induction f generalizing m with
  | zero => simp [encF]
  | succ f ih => simp only [encF]; split
                 · simp
                 · have := ih (m / 128); simp; omega
theorem encV_len (n : Int) : (encV n).length ≤ 6 := by
  unfold encV; split
  · simp
  · exact encF_len 5 n
theorem encVar_size (n : Int) : (encVar n).size ≤ 6 := by
  exact encV_len n

def packT (s : ByteArray) : ByteArray := encVar s.size ++ s

/-! SealText -/
def sealHead (x : Int) : List UInt8 := [b8 (x % 256), b8 (x / 256 % 256), b8 (x / 65536 % 256), b8 (x / 16777216)]
def sealT (s : ByteArray) : ByteArray := ⟨(sealHead (cksum s)).toArray⟩ ++ s
theorem sealHead_impl (x : Int) : [b8 (x % 256), b8 (x % 65536 / 256), b8 (x / 65536 % 256), b8 (x / 65536 / 256)] = sealHead x := by
  unfold sealHead
  rw [show x % 65536 / 256 = x / 256 % 256 by omega, show x / 65536 / 256 = x / 16777216 by omega]

/-! OpenText -/
def openB (s : ByteArray) : Bool := decide (4 ≤ s.size) && ((sealT (s.extract 4 s.size)).toList == s.toList)
def openT (s : ByteArray) : ByteArray := if openB s = true then s.extract 4 s.size else ⟨#[]⟩
theorem openB_short {s : ByteArray} (h : s.size < 4) : openB s = false := by unfold openB; rw [decide_eq_false (by omega)]; rfl
theorem openB_of {s : ByteArray} (h : ¬ s.size < 4) : openB s = ((sealT (s.extract 4 s.size)).toList == s.toList) := by unfold openB; rw [decide_eq_true (by omega)]; rfl
theorem openT_no {s : ByteArray} (h : openB s = false) : openT s = ⟨#[]⟩ := by unfold openT; rw [h]; rfl
theorem openT_yes {s : ByteArray} (h : openB s = true) : openT s = s.extract 4 s.size := by unfold openT; rw [h]; rfl
theorem extract_le (s : ByteArray) (a b : Nat) : (s.extract a b).size ≤ s.size := by rw [ByteArray.size_extract]; omega

end Go.Proofs.YtiopbdodegopdaaDoor
