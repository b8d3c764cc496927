/- DeltaText: the program's and the reference's. -/
import Derived.Test.YtmnddbgblhmlbaaZes
import Derived.Test.YtmnddbgblhmlbaaXor
namespace Go.Proofs.Ytmnddbgblhmlbaa
open Go.RowKit

theorem pzF_len : ∀ (f : Nat) (L : List UInt8), (pzF f L).length ≤ 13 * L.length
  | 0, _ => by simp [pzF]
  | _ + 1, [] => by simp [pzF]
  | f + 1, a :: r => by
    have h1 := one_of (a :: r) (by simp)
    have h2 := sum_le (a :: r)
    have ih := pzF_len f (rst (a :: r))
    have ez := encV_len (zs (a :: r) : Nat)
    have eo := encV_len (os (a :: r) : Nat)
    have ho : (oth (a :: r)).length ≤ os (a :: r) := by unfold oth; rw [List.length_take]; omega
    have hl : (rst (a :: r)).length = (a :: r).length - (zs (a :: r) + os (a :: r)) := by unfold rst; rw [List.length_drop]
    simp only [pzF, List.length_append]
    omega
theorem packZ_size (s : ByteArray) : (packZ s).size ≤ 13 * s.size := pzF_len _ _
theorem xorT_size (a b : ByteArray) : (xorT a b).size = b.size := xorTo_len a b a.size
def deltaT (a b : ByteArray) : ByteArray := encVar b.size ++ packZ (xorT a b)

theorem delta_impl (a b : ByteArray) (w : World) (ha : a.size ≤ 1099511627775) (hb : b.size ≤ 1099511627775) :
    Calls Try.prog 57 #[.string a, .string b] w fun e w' => e = .returned (.string (deltaT a b)) ∧ Below w.heap.size w w' := by
  have HA := Lib.hid (show a.size ≤ maxLen by unfold maxLen; omega)
  have HB := Lib.hid (show b.size ≤ maxLen by unfold maxLen; omega)
  have hx := xorT_size a b
  have hz := packZ_size (xorT a b)
  have he := encVar_size b.size
  have HX := Lib.hid (show (xorT a b).size ≤ 1099511627775 by omega)
  clear hx
  have hs : (encVar b.size).size + (packZ (xorT a b)).size ≤ 9223372036854775807 := by have := HX.out; omega
  clear hz
  go_enter Try.func57, Try.ntmps57
  go_wp2_with fail
  refine (enc_impl _ _).mono ?_
  rintro e wa ⟨rfl, hwa⟩
  go_wp2_with fail
  refine (xor_impl _ _ _ HA.out HB.out).mono ?_
  rintro e wb ⟨rfl, hwb⟩
  go_wp2_with fail
  refine (zer_impl _ _ HX.out).mono ?_
  rintro e wc ⟨rfl, hwc⟩
  go_wp2_with fail
  go_ret
  exact ⟨rfl, hwa.trans ((hwb.mono hwa.size).trans (hwc.mono (Nat.le_trans hwa.size hwb.size)))⟩

end Go.Proofs.Ytmnddbgblhmlbaa
