/- DecodeVarint: the program's and the reference's return the same plain function of the string and the place. -/
import Derived.Test.YtiopbdodegopdaaDoorTxt
import Derived.Test.YtiopbdodegopdaaDoorVarLaw
import Derived.Deep.RegionWith
import Derived.Lib.Strings
namespace Go.Proofs.YtiopbdodegopdaaDoor
open Go.RowKit

/-- what is left to read after k bytes, the number so far being m -/
def decRel (L : List UInt8) (k : Nat) (m : Int) : Prop := dec 6 L = (dec (6 - k) (L.drop k)).map fun x => (m + 128 ^ k * x.1, k + x.2.1, x.2.2)
theorem decRel_0 (L : List UInt8) : decRel L 0 0 := by
  unfold decRel
  simp only [Nat.sub_zero, List.drop_zero, Int.pow_zero, Int.one_mul, Int.zero_add, Nat.zero_add]
  cases dec 6 L <;> rfl
theorem decRel_end {L : List UInt8} {k : Nat} {m : Int} (h : decRel L k m) (h' : 6 ≤ k ∨ L.length ≤ k) : decV L = (0, 0, false) := by
  unfold decRel at h
  have : dec (6 - k) (L.drop k) = none := by
    rcases h' with h' | h'
    · rw [show 6 - k = 0 by omega]; rfl
    · rw [List.drop_of_length_le h']; cases 6 - k <;> rfl
  unfold decV
  rw [h, this]
  rfl
theorem decRel_more {L : List UInt8} {k : Nat} {m : Int} {c : UInt8} (h : decRel L k m) (hk : k < 6) (hc : L[k]? = some c) (h1 : ¬ c.toNat < 128) : decRel L (k + 1) (m + (c.toNat : Int) % 128 * 2 ^ (7 * k)) := by
  unfold decRel at *
  obtain ⟨hl, he⟩ := List.getElem?_eq_some_iff.1 hc
  rw [h, List.drop_eq_getElem_cons hl, he, show 6 - k = (6 - (k + 1)) + 1 by omega]
  simp only [dec]
  rw [if_neg h1, Option.map_map]
  congr 1
  funext x
  simp only [Function.comp]
  have hp : (2 : Int) ^ (7 * k) = 128 ^ k := by rw [Int.pow_mul]; rfl
  rw [hp, Int.pow_succ]
  refine Prod.ext ?_ (Prod.ext ?_ rfl)
  · simp only
    rw [Int.mul_add, Int.mul_comm ((c.toNat : Int) % 128), Int.add_assoc, Int.mul_assoc]
  · simp only; omega
theorem decRel_last {L : List UInt8} {k : Nat} {m : Int} {c : UInt8} (h : decRel L k m) (hk : k < 6) (hc : L[k]? = some c) (h1 : c.toNat < 128) : dec 6 L = some (m + (c.toNat : Int) % 128 * 2 ^ (7 * k), k + 1, c) := by
  unfold decRel at *
  obtain ⟨hl, he⟩ := List.getElem?_eq_some_iff.1 hc
  rw [h, List.drop_eq_getElem_cons hl, he, show 6 - k = (6 - (k + 1)) + 1 by omega]
  simp only [dec]
  rw [if_pos h1]
  simp only [Option.map_some]
  have hp : (2 : Int) ^ (7 * k) = 128 ^ k := by rw [Int.pow_mul]; rfl
  rw [hp, Int.mul_comm ((c.toNat : Int) % 128), Int.emod_eq_of_lt (by omega) (by omega)]
theorem decV_some {L : List UInt8} {v : Int} {k : Nat} {c : UInt8} (h : dec 6 L = some (v, k, c)) (h1 : ¬ (c = 0 ∧ 1 < k)) (h2 : v ≤ 1099511627775) : decV L = (v, (k : Int), true) := by
  have hc : canon (v, k, c) = true := by
    unfold canon
    simp only [Bool.not_eq_true', Bool.or_eq_false_iff, Bool.and_eq_false_iff, decide_eq_false_iff_not]
    refine ⟨?_, by omega⟩
    by_cases hz : c = 0
    · right; exact fun hk => h1 ⟨hz, hk⟩
    · left; exact hz
  unfold decV; rw [h]; simp only [hc, if_true]
theorem decV_none {L : List UInt8} {v : Int} {k : Nat} {c : UInt8} (h : dec 6 L = some (v, k, c)) (h1 : (c = 0 ∧ 1 < k) ∨ 1099511627775 < v) : decV L = (0, 0, false) := by
  have hc : canon (v, k, c) = false := by
    unfold canon
    simp only [Bool.not_eq_false', Bool.or_eq_true, Bool.and_eq_true, decide_eq_true_eq]
    exact h1
  unfold decV; rw [h]; simp only [hc]; rfl
theorem decA_nat (s : ByteArray) (p : Nat) : decA s (p : Int) = decV (s.data.toList.drop p) := by unfold decA; rw [if_neg (by omega), Int.toNat_natCast]
theorem decA_neg {s : ByteArray} {p : Int} (h : p < 0) : decA s p = (0, 0, false) := if_pos h
theorem decA_far {s : ByteArray} {p : Nat} (h : s.size ≤ p) : decA s (p : Int) = (0, 0, false) := by
  rw [decA_nat, List.drop_of_length_le (by simpa using h)]; rfl
theorem pow7_bd {k : Nat} (hk : k < 6) {x : Int} (h0 : 0 ≤ x) (h1 : x ≤ 127) : 0 ≤ x * 2 ^ (7 * k) ∧ x * 2 ^ (7 * k) ≤ 4363686772736 := by
  have : (2 : Int) ^ (7 * k) ≤ 34359738368 ∧ (0 : Int) ≤ 2 ^ (7 * k) := by
    match k, hk with
    | 0, _ => decide
    | 1, _ => decide
    | 2, _ => decide
    | 3, _ => decide
    | 4, _ => decide
    | 5, _ => decide
  exact mul_bd h0 h1 this.2 this.1
theorem drop_at (s : ByteArray) (p k : Nat) (h : p + k < s.size) : (s.data.toList.drop p)[k]? = some (s[p + k]'h) := by
  rw [List.getElem?_drop, Array.getElem?_toList, Array.getElem?_eq_getElem (show p + k < s.data.size from h)]
  rfl

theorem u8_zero {c : UInt8} (h : ((c.toNat : Int) == 0) = true) : c = 0 := UInt8.toNat_inj.1 (by simp at h ⊢; omega)
theorem u8_nonzero {c : UInt8} (h : ((c.toNat : Int) == 0) = false) : c ≠ 0 := by rintro rfl; simp at h

theorem decRel_size {k : Nat} {m : Int} {c : UInt8} (hm : m < 2 ^ (7 * k)) : m + (c.toNat : Int) % 128 * 2 ^ (7 * k) < 2 ^ (7 * (k + 1)) := by
  have hp : (2 : Int) ^ (7 * (k + 1)) = 128 * 2 ^ (7 * k) := by rw [Nat.mul_add, Int.pow_add]; omega
  have hx : ((c.toNat : Int) % 128) * 2 ^ (7 * k) ≤ 127 * 2 ^ (7 * k) := Int.mul_le_mul_of_nonneg_right (by omega) (Int.pow_nonneg (by omega))
  omega
/-- the reference's test -/
theorem decV_same {s : ByteArray} {p k : Nat} {v : Int} {c : UInt8} (h : dec 6 (s.data.toList.drop p) = some (v, k + 1, c)) :
    ((encVar v).toList == (s.extract p (p + k + 1)).toList) = canon (v, k + 1, c) := by
  rw [Bool.eq_iff_iff, canon_iff h, beq_iff_eq, Lib.toList_data, Lib.toList_data, Lib.extract_data]
  rw [show p + k + 1 - p = k + 1 by omega]
  rfl
theorem decV_of {L : List UInt8} {v : Int} {k : Nat} {c : UInt8} (h : dec 6 L = some (v, k, c)) (hc : canon (v, k, c) = true) : decV L = (v, (k : Int), true) := by unfold decV; rw [h]; simp only [hc, if_true]
theorem decV_not {L : List UInt8} {v : Int} {k : Nat} {c : UInt8} (h : dec 6 L = some (v, k, c)) (hc : canon (v, k, c) = false) : decV L = (0, 0, false) := by unfold decV; rw [h]; simp only [hc]; rfl

end Go.Proofs.YtiopbdodegopdaaDoor
