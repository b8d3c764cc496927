/- XorText: the program's and the reference's return the same plain function of the two strings. -/
import Derived.Test.YtmnddbgblhmlbaaCk
import Derived.Test.YtmnddbgblhmlbaaLaws
import Derived.Outline
import Derived.Deep.DeepMust
namespace Go.Proofs.Ytmnddbgblhmlbaa
open Go.RowKit

def xorTo (a b : ByteArray) (k : Nat) : List UInt8 := (List.range b.size).map fun j => if j < k then b.data.toList.getD j 0 ^^^ a.data.toList.getD j 0 else b.data.toList.getD j 0
def xorT (a b : ByteArray) : ByteArray := ⟨(xorTo a b a.size).toArray⟩
theorem xorTo_len (a b : ByteArray) (k : Nat) : (xorTo a b k).length = b.size := by simp [xorTo]
theorem bytes_getD (a : ByteArray) (k : Nat) (h : k < a.size) : a.data.toList.getD k 0 = a[k]'h := by
  have h' : k < a.data.size := h
  simp only [List.getD, Array.getElem?_toList, Array.getElem?_eq_getElem h']
  rfl
theorem bytes_getD' (a : ByteArray) (k : Nat) (h : ¬ k < a.size) : a.data.toList.getD k 0 = 0 := by
  have h' : a.data.size ≤ k := Nat.le_of_not_lt h
  simp only [List.getD, Array.getElem?_toList, Array.getElem?_eq_none h']
  rfl
theorem xorTo_0 (a b : ByteArray) : xorTo a b 0 = b.data.toList := by
  apply List.ext_getElem?
  intro j
  by_cases h : j < b.size
  · have h' : j < b.data.size := h
    simp [xorTo, h]
  · have h' : b.data.size ≤ j := Nat.le_of_not_lt h
    simp [xorTo, h]
theorem xorTo_succ (a b : ByteArray) (k : Nat) (ha : k < a.size) (hb : k < b.size) : xorTo a b (k + 1) = (xorTo a b k).set k ((b[k]'hb) ^^^ (a[k]'ha)) := by
  have ea := bytes_getD a k ha
  have eb := bytes_getD b k hb
  apply List.ext_getElem?
  intro j
  by_cases h : j < b.size
  · by_cases e : j = k
    · subst e
      rw [List.getElem?_set_self (by rw [xorTo_len]; exact h), ← ea, ← eb]
      simp [xorTo, h]
    · rw [List.getElem?_set_ne (Ne.symm e)]
      simp only [xorTo, List.getElem?_map, List.getElem?_range h]
      have : (j < k + 1) ↔ (j < k) := by omega
      simp [this]
  · rw [List.getElem?_eq_none (by rw [xorTo_len]; omega), List.getElem?_eq_none (by rw [List.length_set, xorTo_len]; omega)]
theorem xorTo_more (a b : ByteArray) (k : Nat) (h : b.size ≤ k) (h' : k ≤ a.size) : xorTo a b k = xorTo a b a.size := by
  unfold xorTo
  apply List.map_congr_left
  intro j hj
  have : j < b.size := by simpa using hj
  rw [if_pos (by omega), if_pos (by omega)]
theorem xorTo_at (a b : ByteArray) (k : Nat) (hb : k < b.size) : (xorTo a b k)[k]? = some (b[k]'hb) := by
  have e := bytes_getD b k hb
  simp only [xorTo, List.getElem?_map, List.getElem?_range hb, Option.map_some]
  rw [if_neg (by omega), e]
set_option maxHeartbeats 400000 in
theorem xor_impl (a b : ByteArray) (w : World) (ha : a.size ≤ maxLen) (hb : b.size ≤ maxLen) :
    Calls Try.prog 60 #[.string a, .string b] w fun e w' => e = .returned (.string (xorT a b)) ∧ Below w.heap.size w w' := by
  have ha' := ha
  have hb' := hb
  unfold maxLen at ha' hb'
  go_enter Try.func60, Try.ntmps60
  go_wp2_with (with_reducible refine bytes_law (o := ⟨some 8, _, _, _, _, _⟩) _ rfl _ rfl w.heap.size b rfl hb (Nat.le_refl _) ?_)
  intro cap w1 hown hg
  have hbl : Below w.heap.size w w1 := (Below.refl _ _).grown hg (Nat.le_refl _) (fun k h => by cases h)
  rw [← xorTo_0 a b] at hown
  clear hg
  generalize hBe : w.heap.size = B at *
  have HB := Lib.hid hBe; clear hBe
  go_wp2
  go_loopw [6] (fun i wr => ∃ k : Nat, k ≤ b.size ∧ k ≤ a.size ∧ i = .int .i64 k ∧ Own wr B 1 (.slice (some ⟨B, 0, none⟩) b.size cap) b.size (u8s (xorTo a b k)) ∧ Below B w wr) (fun i _ => b.size - (intOf i).toNat)
  case atStart => exact ⟨0, Nat.zero_le _, Nat.zero_le _, rfl, hown, hbl⟩
  case round =>
    obtain ⟨k, hk1, hk2, rfl, hown, hbl⟩ := hrel
    by_cases hlt : k < b.size
    · by_cases hla : k < a.size
      · have hc : wr.cell? ⟨B, k, none⟩ = some (.int .u8 ((b[k]'hlt).toNat : Int)) := by
          rw [hown.cell (by omega)]
          simp only [u8s, List.getElem?_map, xorTo_at a b k hlt]
          rfl
        have hf := hown.free k (by omega)
        have HX := Lib.hid (xor_u8 (b[k]'hlt) (a[k]'hla))
        have HS := Lib.hid (xorTo_succ a b k hla hlt)
        go_wp2
        go_region
        go_wp2
        go_roundw
        case rel =>
          refine ⟨k + 1, by omega, by omega, by go_num, ?_, ?_⟩
          · rw [HS.out, ← u8s_set, ← HX.out]
            exact (hown.stored k _ (by omega)).1.drew
          · exact (hbl.setCell (p := ⟨B, k, none⟩) (Nat.le_refl _) _).drew
        case measure => simp [intOf]; omega
      · have HE := Lib.hid (show xorTo a b k = xorTo a b a.size by rw [show k = a.size by omega])
        go_wp2_with (with_reducible refine str_law (o := ⟨some 31, _, _, _, _, _⟩) _ rfl _ rfl hown.at_ rfl ?_)
        go_ret
        exact ⟨by rw [xorT, ← HE.out]; rfl, by rw [HB.out]; exact hbl⟩
    · have HE := Lib.hid (xorTo_more a b k (by omega) hk2)
      go_wp2_with (with_reducible refine str_law (o := ⟨some 31, _, _, _, _, _⟩) _ rfl _ rfl hown.at_ rfl ?_)
      go_ret
      exact ⟨by rw [xorT, ← HE.out]; rfl, by rw [HB.out]; exact hbl⟩
set_option maxHeartbeats 400000 in
theorem xor_spec (a b : ByteArray) (w : World) (ha : a.size ≤ maxLen) (hb : b.size ≤ maxLen) :
    Calls Try.prog 82 #[.string a, .string b] w fun e w' => e = .returned (.string (xorT a b)) ∧ Below w.heap.size w w' := by
  have ha' := ha
  have hb' := hb
  unfold maxLen at ha' hb'
  go_enter Try.func82, Try.ntmps82
  go_wp2_with (with_reducible refine bytes_law (o := ⟨some 8, _, _, _, _, _⟩) _ rfl _ rfl w.heap.size b rfl hb (Nat.le_refl _) ?_)
  intro cap w1 hown hg
  have hbl : Below w.heap.size w w1 := (Below.refl _ _).grown hg (Nat.le_refl _) (fun k h => by cases h)
  rw [← xorTo_0 a b] at hown
  clear hg
  generalize hBe : w.heap.size = B at *
  have HB := Lib.hid hBe; clear hBe
  go_wp2
  go_loopw [6] (fun i wr => ∃ k : Nat, k ≤ b.size ∧ k ≤ a.size ∧ i = .int .i64 k ∧ Own wr B 1 (.slice (some ⟨B, 0, none⟩) b.size cap) b.size (u8s (xorTo a b k)) ∧ Below B w wr) (fun i _ => b.size - (intOf i).toNat)
  case atStart => exact ⟨0, Nat.zero_le _, Nat.zero_le _, rfl, hown, hbl⟩
  case round =>
    obtain ⟨k, hk1, hk2, rfl, hown, hbl⟩ := hrel
    by_cases hlt : k < b.size
    · by_cases hla : k < a.size
      · have hc : wr.cell? ⟨B, k, none⟩ = some (.int .u8 ((b[k]'hlt).toNat : Int)) := by
          rw [hown.cell (by omega)]
          simp only [u8s, List.getElem?_map, xorTo_at a b k hlt]
          rfl
        have hf := hown.free k (by omega)
        have HX := Lib.hid (xor_u8 (b[k]'hlt) (a[k]'hla))
        have HS := Lib.hid (xorTo_succ a b k hla hlt)
        go_wp2
        go_region
        go_wp2
        go_roundw
        case rel =>
          refine ⟨k + 1, by omega, by omega, by go_num, ?_, ?_⟩
          · rw [HS.out, ← u8s_set, ← HX.out]
            exact (hown.stored k _ (by omega)).1.drew
          · exact (hbl.setCell (p := ⟨B, k, none⟩) (Nat.le_refl _) _).drew
        case measure => simp [intOf]; omega
      · have HE := Lib.hid (show xorTo a b k = xorTo a b a.size by rw [show k = a.size by omega])
        go_wp2_with (with_reducible refine str_law (o := ⟨some 33, _, _, _, _, _⟩) _ rfl _ rfl hown.at_ rfl ?_)
        go_ret
        exact ⟨by rw [xorT, ← HE.out]; rfl, by rw [HB.out]; exact hbl⟩
    · have HE := Lib.hid (xorTo_more a b k (by omega) hk2)
      go_wp2_with (with_reducible refine str_law (o := ⟨some 33, _, _, _, _, _⟩) _ rfl _ rfl hown.at_ rfl ?_)
      go_ret
      exact ⟨by rw [xorT, ← HE.out]; rfl, by rw [HB.out]; exact hbl⟩
end Go.Proofs.Ytmnddbgblhmlbaa
