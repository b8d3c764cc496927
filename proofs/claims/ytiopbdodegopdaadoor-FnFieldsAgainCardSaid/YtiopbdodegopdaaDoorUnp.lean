/- UnpackText: the program's and the reference's return the same plain function of the string and the place. -/
import Derived.Test.YtiopbdodegopdaaDoorDec
namespace Go.Proofs.YtiopbdodegopdaaDoor
open Go.RowKit

theorem decV_cases (l : List UInt8) : decV l = (0, 0, false) ∨ ∃ v k : Nat, decV l = ((v : Int), (k : Int), true) ∧ v ≤ 1099511627775 ∧ 1 ≤ k ∧ k ≤ 6 ∧ k ≤ l.length ∧ encV (v : Int) = l.take k := by
  cases h : (decV l).2.2
  · exact .inl (decV_no h)
  · have e : decV l = ((decV l).1, (decV l).2.1, true) := by rw [← h]
    obtain ⟨h1, h2, h3, h4, h5, h6⟩ := decV_yes e
    obtain ⟨v, hv⟩ := Int.eq_ofNat_of_zero_le h1
    obtain ⟨k, hk⟩ := Int.eq_ofNat_of_zero_le (show 0 ≤ (decV l).2.1 by omega)
    rw [hv, hk] at e
    rw [hv] at h2 h6
    rw [hk] at h3 h4 h5 h6
    exact .inr ⟨v, k, e, by omega, by omega, by omega, by omega, by rw [h6, Int.toNat_natCast]⟩
theorem decA_cases (s : ByteArray) (p : Int) : decA s p = (0, 0, false) ∨ ∃ q v k : Nat, p = (q : Int) ∧ decA s p = ((v : Int), (k : Int), true) ∧ v ≤ 1099511627775 ∧ 1 ≤ k ∧ k ≤ 6 ∧ q + k ≤ s.size ∧ encV (v : Int) = (s.data.toList.drop q).take k := by
  by_cases h0 : p < 0
  · exact .inl (decA_neg h0)
  obtain ⟨q, rfl⟩ := Int.eq_ofNat_of_zero_le (show 0 ≤ p by omega)
  rw [decA_nat]
  rcases decV_cases (s.data.toList.drop q) with h | ⟨v, k, h1, h2, h3, h4, h5, h6⟩
  · exact .inl h
  · rw [List.length_drop] at h5
    have : s.data.toList.length = s.size := by simp
    exact .inr ⟨q, v, k, rfl, h1, h2, h3, h4, by omega, h6⟩

def unpA (s : ByteArray) (p : Int) : ByteArray × Int × Bool :=
  if (decA s p).2.2 = true ∧ (decA s p).1 ≤ (s.size : Int) - p - (decA s p).2.1 then (s.extract (p + (decA s p).2.1).toNat (p + (decA s p).2.1 + (decA s p).1).toNat, (decA s p).2.1 + (decA s p).1, true) else (⟨#[]⟩, 0, false)
theorem unpA_no {s : ByteArray} {p : Int} (h : decA s p = (0, 0, false)) : unpA s p = (⟨#[]⟩, 0, false) := by unfold unpA; rw [h]; rfl
theorem unpA_big {s : ByteArray} {q v k : Nat} (h : decA s (q : Int) = ((v : Int), (k : Int), true)) (h1 : (s.size : Int) - q - k < v) : unpA s (q : Int) = (⟨#[]⟩, 0, false) := by
  unfold unpA; rw [h]; exact if_neg (fun h2 => by have := h2.2; simp only at this; omega)
theorem unpA_yes {s : ByteArray} {q v k : Nat} (h : decA s (q : Int) = ((v : Int), (k : Int), true)) (h1 : (v : Int) ≤ (s.size : Int) - q - k) : unpA s (q : Int) = (s.extract (q + k) (q + k + v), (k : Int) + v, true) := by
  unfold unpA; rw [h]; exact (if_pos ⟨rfl, h1⟩).trans (by simp only; congr 2 <;> omega)

end Go.Proofs.YtiopbdodegopdaaDoor
