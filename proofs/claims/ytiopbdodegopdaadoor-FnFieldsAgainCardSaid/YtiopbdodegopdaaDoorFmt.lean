/- FormatInt: the reference, for every int: a sign and the decimal digits. -/
import Derived.Test.YtiopbdodegopdaaDoorNum
import Derived.Test.YtiopbdodegopdaaDoorLaws
import Derived.Test.YtiopbdodegopdaaDoorHex
import Derived.Lib.ItoaNum
import Derived.Lib.ItoaMem
namespace Go.Proofs.YtiopbdodegopdaaDoor
open Go.RowKit

def dgs (u : Nat) : List UInt8 := if u = 0 then [] else Lib.decDigits u
theorem dgs_step {u : Nat} (h : 0 < u) : dgs u = dgs (u / 10) ++ [b8 (fig ((u : Int) % 10))] := by
  have hf : fig ((u : Int) % 10) = 48 + (u : Int) % 10 := if_pos (by omega)
  have hb : b8 (48 + (u : Int) % 10) = UInt8.ofNat (48 + u % 10) := by
    unfold b8
    rw [show (48 + (u : Int) % 10).toNat = 48 + u % 10 by omega]
  unfold dgs
  rw [if_neg (by omega), hf, hb, Lib.decDigits]
  by_cases h10 : u < 10
  · rw [dif_pos h10, if_pos (by omega), show u % 10 = u by omega]; rfl
  · rw [dif_neg h10, if_neg (by omega)]
structure DRel (n u : Nat) (t : ByteArray) : Prop where
  eq : dgs n = dgs u ++ t.data.toList
  hi : u < 10 ^ (19 - t.size)
  sz : t.size ≤ 19
theorem DRel.start {n : Nat} (h : n < 10000000000000000000) : DRel n n ⟨#[]⟩ := ⟨by simp, h, Nat.zero_le _⟩
theorem DRel.step {n u : Nat} {t : ByteArray} (h : DRel n u t) (hm : 0 < u) : DRel n (u / 10) (⟨[b8 (fig ((u : Int) % 10))].toArray⟩ ++ t) := by
  obtain ⟨h1, h3, h4⟩ := h
  have hlt : t.size < 19 := by
    rcases Nat.lt_or_ge t.size 19 with h | h
    · exact h
    · rw [show 19 - t.size = 0 by omega] at h3; simp at h3; omega
  have hs : (⟨[b8 (fig ((u : Int) % 10))].toArray⟩ ++ t : ByteArray).size = t.size + 1 := by
    rw [ByteArray.size_append]; show 1 + t.size = _; omega
  refine ⟨?_, ?_, by omega⟩
  · rw [h1, dgs_step hm, ByteArray.data_append, Array.toList_append, List.append_assoc]
  · rw [hs]
    rw [show 19 - t.size = (19 - (t.size + 1)) + 1 by omega, Nat.pow_succ] at h3
    omega
theorem DRel.fin {n : Nat} {t : ByteArray} (h : DRel n 0 t) (hn : 0 < n) : t.data.toList = Lib.decDigits n := by
  have h1 := h.eq
  unfold dgs at h1
  rw [if_neg (by omega), if_pos rfl, List.nil_append] at h1
  exact h1.symm
theorem lit1f (w : World) (x : Int) (hx : 0 ≤ x ∧ x < 256) :
    At (w.alloc (.cells #[.int .u8 x] 5)) 1 (.slice (some ⟨w.heap.size, 0, none⟩) 1 1) 1 (u8s [b8 x]) := by
  refine (Own.lit (w := w) (C := #[.int .u8 x]) (base := 0) (sz := 1) (n := 1) 5 ?_ rfl (Nat.zero_le _) (by unfold maxLen; omega)).at_
  simp only [u8s, List.map_cons, List.map_nil]
  rw [b8_nat hx.1 hx.2]
def itoaB (n : Int) : ByteArray := ⟨(Lib.itoa n).toArray⟩
theorem itoaB_0 : itoaB 0 = ⟨#[48]⟩ := by
  unfold itoaB
  rw [show (0 : Int) = ((0 : Nat) : Int) by rfl, Lib.itoa_nonneg, Lib.decDigits]
  rfl

end Go.Proofs.YtiopbdodegopdaaDoor
