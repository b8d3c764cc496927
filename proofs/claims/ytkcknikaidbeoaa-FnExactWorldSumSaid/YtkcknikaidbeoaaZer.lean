/- PackZeros: the program's and the reference's return the same plain function of the string. -/
import Derived.Test.YtkcknikaidbeoaaTxt
import Derived.Test.YtkcknikaidbeoaaZerLaw
import Derived.Lib.Strings
import Derived.Deep.RegionWith
namespace Go.Proofs.Ytkcknikaidbeoaa
open Go.RowKit

theorem bytes_len0 (s : ByteArray) : s.data.toList.length = s.size := by simp
theorem len_drop (s : ByteArray) (k : Nat) : (s.data.toList.drop k).length = s.size - k := by rw [List.length_drop]; rfl
theorem isZ_of {s : ByteArray} {p : Nat} {h : p < s.size} (hz : (((s[p]'h).toNat : Int) == 0) = true) : isZ (s[p]'h) = true := by
  have : (s[p]'h).toNat = 0 := by simpa using hz
  unfold isZ
  exact beq_iff_eq.2 (UInt8.toNat_inj.1 this)
theorem notZ_of {s : ByteArray} {p : Nat} {h : p < s.size} (hz : (((s[p]'h).toNat : Int) == 0) = false) : notZ (s[p]'h) = true ∧ isZ (s[p]'h) = false := by
  have h1 : (s[p]'h).toNat ≠ 0 := by simpa using hz
  have h2 : isZ (s[p]'h) = false := by
    unfold isZ
    exact beq_eq_false_iff_ne.2 (fun e => h1 (by rw [e]; rfl))
  refine ⟨?_, h2⟩
  unfold notZ
  unfold isZ at h2
  rw [h2]; rfl
theorem drop_at' (s : ByteArray) (p k : Nat) (h : p + k < s.size) : (s.data.toList.drop p)[k]? = some (s[p + k]'h) := by
  rw [List.getElem?_drop, Array.getElem?_toList, Array.getElem?_eq_getElem (show p + k < s.data.size from h)]
  rfl
/-- one more zero -/
theorem z_more {s : ByteArray} {k j : Nat} (hj : j ≤ zs (s.data.toList.drop k)) (h : k + j < s.size) (hz : (((s[k + j]'h).toNat : Int) == 0) = true) : j + 1 ≤ zs (s.data.toList.drop k) :=
  run_more hj (drop_at' s k j h) (isZ_of hz)
theorem z_stop {s : ByteArray} {k j : Nat} (hj : j ≤ zs (s.data.toList.drop k)) (h : ∀ h : k + j < s.size, (((s[k + j]'h).toNat : Int) == 0) = false) : j = zs (s.data.toList.drop k) := by
  refine run_stop hj (fun c hc => ?_)
  by_cases h1 : k + j < s.size
  · rw [drop_at' s k j h1] at hc
    cases hc
    exact (notZ_of (h h1)).2
  · rw [List.getElem?_eq_none (by rw [len_drop]; omega)] at hc
    cases hc
theorem o_more {s : ByteArray} {k j : Nat} (hj : j ≤ os (s.data.toList.drop k)) (h : k + zs (s.data.toList.drop k) + j < s.size) (hz : (((s[k + zs (s.data.toList.drop k) + j]'h).toNat : Int) == 0) = false) : j + 1 ≤ os (s.data.toList.drop k) :=
  run_more hj (by rw [List.drop_drop]; exact drop_at' s _ j h) (notZ_of hz).1
theorem o_stop {s : ByteArray} {k j : Nat} (hj : j ≤ os (s.data.toList.drop k)) (h : ∀ h : k + zs (s.data.toList.drop k) + j < s.size, (((s[k + zs (s.data.toList.drop k) + j]'h).toNat : Int) == 0) = true) : j = os (s.data.toList.drop k) := by
  refine run_stop hj (fun c hc => ?_)
  rw [List.drop_drop] at hc
  by_cases h1 : k + zs (s.data.toList.drop k) + j < s.size
  · rw [drop_at' s _ j h1] at hc
    cases hc
    have := isZ_of (h h1)
    unfold notZ
    unfold isZ at this
    rw [this]; rfl
  · rw [List.getElem?_eq_none (by rw [len_drop]; omega)] at hc
    cases hc
theorem pz_next {s : ByteArray} {k : Nat} {l : List UInt8} (h : pz s.data.toList = l ++ pz (s.data.toList.drop k)) (hk : k < s.size) :
    pz s.data.toList = ((l ++ (encVar ((zs (s.data.toList.drop k) : Nat) : Int)).data.toList) ++ (packT (s.extract (k + zs (s.data.toList.drop k)) (k + zs (s.data.toList.drop k) + os (s.data.toList.drop k)))).data.toList) ++ pz (s.data.toList.drop (k + zs (s.data.toList.drop k) + os (s.data.toList.drop k))) := by
  have hne : s.data.toList.drop k ≠ [] := fun e => by
    have := congrArg List.length e
    rw [len_drop] at this
    simp at this; omega
  have hs := sum_le (s.data.toList.drop k)
  rw [len_drop] at hs
  have hx : (s.extract (k + zs (s.data.toList.drop k)) (k + zs (s.data.toList.drop k) + os (s.data.toList.drop k))).data.toList = oth (s.data.toList.drop k) := by
    rw [Lib.extract_data, Nat.add_sub_cancel_left]
    unfold oth
    rw [List.drop_drop]
  have hz : (s.extract (k + zs (s.data.toList.drop k)) (k + zs (s.data.toList.drop k) + os (s.data.toList.drop k))).size = os (s.data.toList.drop k) := by
    rw [ByteArray.size_extract]; omega
  rw [h, pz_step hne]
  unfold packT encVar
  rw [hz, ByteArray.data_append, Array.toList_append, hx]
  unfold rst
  rw [List.drop_drop]
  simp only [List.append_assoc, Nat.add_assoc]
theorem packT_size (s : ByteArray) : (packT s).size ≤ 6 + s.size := by
  unfold packT
  rw [ByteArray.size_append]
  have := encVar_size s.size
  omega

theorem zq_more {s : ByteArray} {k q : Nat} (hkq : k ≤ q) (hj : q - k ≤ zs (s.data.toList.drop k)) (h : q < s.size) (hz : (((s[q]'h).toNat : Int) == 0) = true) : q + 1 - k ≤ zs (s.data.toList.drop k) := by
  obtain ⟨j, rfl⟩ := Nat.exists_eq_add_of_le hkq
  rw [Nat.add_sub_cancel_left] at hj
  have := z_more hj h hz
  omega
theorem zq_stop {s : ByteArray} {k q : Nat} (hkq : k ≤ q) (hj : q - k ≤ zs (s.data.toList.drop k)) (h : ∀ h : q < s.size, (((s[q]'h).toNat : Int) == 0) = false) : q = k + zs (s.data.toList.drop k) := by
  obtain ⟨j, rfl⟩ := Nat.exists_eq_add_of_le hkq
  rw [Nat.add_sub_cancel_left] at hj
  have := z_stop hj h
  omega
theorem oq_more {s : ByteArray} {k q r : Nat} (hq : q = k + zs (s.data.toList.drop k)) (hqr : q ≤ r) (hj : r - q ≤ os (s.data.toList.drop k)) (h : r < s.size) (hz : (((s[r]'h).toNat : Int) == 0) = false) : r + 1 - q ≤ os (s.data.toList.drop k) := by
  subst hq
  obtain ⟨j, rfl⟩ := Nat.exists_eq_add_of_le hqr
  rw [Nat.add_sub_cancel_left] at hj
  have := o_more hj h hz
  omega
theorem oq_stop {s : ByteArray} {k q r : Nat} (hq : q = k + zs (s.data.toList.drop k)) (hqr : q ≤ r) (hj : r - q ≤ os (s.data.toList.drop k)) (h : ∀ h : r < s.size, (((s[r]'h).toNat : Int) == 0) = true) : r = q + os (s.data.toList.drop k) := by
  subst hq
  obtain ⟨j, rfl⟩ := Nat.exists_eq_add_of_le hqr
  rw [Nat.add_sub_cancel_left] at hj
  have := o_stop hj h
  omega
theorem pq_next {s : ByteArray} {k q r : Nat} {l : List UInt8} (h : pz s.data.toList = l ++ pz (s.data.toList.drop k)) (hk : k < s.size) (hq : q = k + zs (s.data.toList.drop k)) (hr : r = q + os (s.data.toList.drop k)) :
    pz s.data.toList = ((l ++ (encVar ((q : Int) - (k : Int))).data.toList) ++ (packT (s.extract q r)).data.toList) ++ pz (s.data.toList.drop r) := by
  subst hr
  have e : (q : Int) - (k : Int) = ((zs (s.data.toList.drop k) : Nat) : Int) := by omega
  rw [e, hq]
  exact pz_next h hk
theorem pq_prog {s : ByteArray} {k q r : Nat} (hk : k < s.size) (hq : q = k + zs (s.data.toList.drop k)) (hr : r = q + os (s.data.toList.drop k)) : k < r ∧ r ≤ s.size := by
  have hne : s.data.toList.drop k ≠ [] := fun e => by
    have := congrArg List.length e
    rw [len_drop] at this
    simp at this; omega
  have h1 := one_of _ hne
  have hs := sum_le (s.data.toList.drop k)
  rw [len_drop] at hs
  omega

theorem own_assoc {w : World} {base : Nat} {v : Value} {a b c : List UInt8} (h : Own w base 1 v (a ++ (b ++ c)).length (u8s (a ++ (b ++ c)))) : Own w base 1 v ((a ++ b) ++ c).length (u8s ((a ++ b) ++ c)) := by
  rw [List.append_assoc]; exact h

end Go.Proofs.Ytkcknikaidbeoaa
