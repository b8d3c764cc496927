/- Plain: what is decoded from a string's encoding is the string. -/
import Derived.Test.YtmnddbgblhmlbaaDoorUnh
namespace Go.Proofs.YtmnddbgblhmlbaaDoor
open Go.RowKit

theorem hv_fig {x : Int} (h0 : 0 ≤ x) (h : x < 16) : hv (fig x) = x := by
  unfold fig
  split
  · rw [hv_1 (by omega) (by omega)]; omega
  · rw [hv_2 (by omega) (by omega)]; omega
theorem unhex_hexTo (s : ByteArray) : ∀ k, k ≤ s.size → ∀ r, unhex (hexTo s k ++ r) = (unhex r).map fun l => s.data.toList.take k ++ l
  | 0, _, r => by
    simp only [hexTo, List.nil_append, List.take_zero]
    cases unhex r <;> rfl
  | k + 1, hk, r => by
    have hlt : k < s.size := by omega
    have hb := (s[k]'hlt).toNat_lt
    have f1 := fig_bd (x := ((s[k]'hlt).toNat : Int) / 16) (by omega) (by omega)
    have f2 := fig_bd (x := ((s[k]'hlt).toNat : Int) % 16) (by omega) (by omega)
    have e1 := hv_fig (x := ((s[k]'hlt).toNat : Int) / 16) (by omega) (by omega)
    have e2 := hv_fig (x := ((s[k]'hlt).toNat : Int) % 16) (by omega) (by omega)
    rw [hexTo_succ s k hlt, List.append_assoc, unhex_hexTo s k (by omega)]
    simp only [List.cons_append, List.nil_append, unhex]
    rw [b8_nat f1.1 f1.2, b8_nat f2.1 f2.2, e1, e2, if_neg (by omega), Option.map_map]
    have e3 : 16 * (((s[k]'hlt).toNat : Int) / 16) + ((s[k]'hlt).toNat : Int) % 16 = ((s[k]'hlt).toNat : Int) := by omega
    rw [e3, b8_u8]
    congr 1
    funext l
    have e4 : s.data.toList.take (k + 1) = s.data.toList.take k ++ [s[k]'hlt] := by
      rw [List.take_add_one, Array.getElem?_toList, Array.getElem?_eq_getElem (by exact hlt)]
      rfl
    simp [Function.comp, e4]
theorem hexT_yes {s : ByteArray} (h : s.size ≤ 20000) : hexT s = ⟨(hexTo s s.size).toArray⟩ := if_pos h
theorem hexT_size {s : ByteArray} (h : s.size ≤ 20000) : (hexT s).size = 2 * s.size := by
  rw [hexT_yes h]
  show (hexTo s s.size).toArray.size = _
  simp [hexTo_len]
theorem unh_hex {s : ByteArray} (h : s.size ≤ 20000) : unhT (hexT s) = (s, true) := by
  have h1 : unhex (hexT s).data.toList = some s.data.toList := by
    rw [hexT_yes h]
    show unhex (hexTo s s.size).toArray.toList = _
    have := unhex_hexTo s s.size (Nat.le_refl _) []
    rw [List.append_nil] at this
    rw [show (hexTo s s.size).toArray.toList = hexTo s s.size by simp, this]
    simp [unhex, List.take_of_length_le]
  rw [unhT_yes (by rw [hexT_size h]; omega) h1]
end Go.Proofs.YtmnddbgblhmlbaaDoor
