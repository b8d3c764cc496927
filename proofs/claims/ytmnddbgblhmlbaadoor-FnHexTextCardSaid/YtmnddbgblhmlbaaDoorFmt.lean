/- FormatInt: the reference, for every int: a sign and the decimal digits. -/
import Derived.Test.YtmnddbgblhmlbaaDoorNum
import Derived.Test.YtmnddbgblhmlbaaDoorLaws
import Derived.Test.YtmnddbgblhmlbaaDoorHex
import Derived.Lib.ItoaNum
import Derived.Lib.ItoaMem
namespace Go.Proofs.YtmnddbgblhmlbaaDoor
open Go.RowKit

def dgs (u : Nat) : List UInt8 := if u = 0 then [] else Lib.decDigits u
theorem dgs_step {u : Nat} (h : 0 < u) : dgs u = dgs (u / 10) ++ [b8 (fig ((u : Int) % 10))] := by
  have hf : fig ((u : Int) % 10) = 48 + (u : Int) % 10 := if_pos (by omega)
  have hb : b8 (48 + (u : Int) % 10) = UInt8.ofNat (48 + u % 10) := by
    unfold b8
    rw [show (48 + (u : Int) % 10).toNat = 48 + u % 10 by omega]
  unfold dgs
  rw [if_neg (by omega), hf, hb, Lib.decDigits]
  by_cases h10 : u < 10
  · rw [dif_pos h10, if_pos (by omega), show u % 10 = u by omega]; rfl
  · rw [dif_neg h10, if_neg (by omega)]
structure DRel (n u : Nat) (t : ByteArray) : Prop where
  eq : dgs n = dgs u ++ t.data.toList
  hi : u < 10 ^ (19 - t.size)
  sz : t.size ≤ 19
theorem DRel.start {n : Nat} (h : n < 10000000000000000000) : DRel n n ⟨#[]⟩ := ⟨by simp, h, Nat.zero_le _⟩
theorem DRel.step {n u : Nat} {t : ByteArray} (h : DRel n u t) (hm : 0 < u) : DRel n (u / 10) (⟨[b8 (fig ((u : Int) % 10))].toArray⟩ ++ t) := by
  obtain ⟨h1, h3, h4⟩ := h
  have hlt : t.size < 19 := by
    rcases Nat.lt_or_ge t.size 19 with h | h
    · exact h
    · rw [show 19 - t.size = 0 by omega] at h3; simp at h3; omega
  have hs : (⟨[b8 (fig ((u : Int) % 10))].toArray⟩ ++ t : ByteArray).size = t.size + 1 := by
    rw [ByteArray.size_append]; show 1 + t.size = _; omega
  refine ⟨?_, ?_, by omega⟩
  · rw [h1, dgs_step hm, ByteArray.data_append, Array.toList_append, List.append_assoc]
  · rw [hs]
    rw [show 19 - t.size = (19 - (t.size + 1)) + 1 by omega, Nat.pow_succ] at h3
    omega
theorem DRel.fin {n : Nat} {t : ByteArray} (h : DRel n 0 t) (hn : 0 < n) : t.data.toList = Lib.decDigits n := by
  have h1 := h.eq
  unfold dgs at h1
  rw [if_neg (by omega), if_pos rfl, List.nil_append] at h1
  exact h1.symm
theorem lit1f (w : World) (x : Int) (hx : 0 ≤ x ∧ x < 256) :
    At (w.alloc (.cells #[.int .u8 x] 5)) 1 (.slice (some ⟨w.heap.size, 0, none⟩) 1 1) 1 (u8s [b8 x]) := by
  refine (Own.lit (w := w) (C := #[.int .u8 x]) (base := 0) (sz := 1) (n := 1) 5 ?_ rfl (Nat.zero_le _) (by unfold maxLen; omega)).at_
  simp only [u8s, List.map_cons, List.map_nil]
  rw [b8_nat hx.1 hx.2]
def itoaB (n : Int) : ByteArray := ⟨(Lib.itoa n).toArray⟩
theorem itoaB_0 : itoaB 0 = ⟨#[48]⟩ := by
  unfold itoaB
  rw [show (0 : Int) = ((0 : Nat) : Int) by rfl, Lib.itoa_nonneg, Lib.decDigits]
  rfl

set_option maxRecDepth 100000 in
set_option maxHeartbeats 1000000 in
theorem fmt_pos (n : Nat) (w : World) (hp : 0 < n) (hn : n ≤ 9223372036854775807) :
    Calls Tryd.prog 6 #[.int .i64 (n : Int)] w fun e w' => e = .returned (.string (itoaB (n : Int))) ∧ Below w.heap.size w w' := by
  have hz' : ((n : Int) == 0) = false := beq_eq_false_iff_ne.2 (by omega)
  have hn0 : ¬ (n : Int) < 0 := by omega
  have hd : decide ((n : Int) < 0) = false := decide_eq_false hn0
  have HS : Hid (DRel n n ⟨#[]⟩) := Lib.hid (DRel.start (by omega))
  go_enter Tryd.func6, Tryd.ntmps6
  go_wp2_with fail
  go_loopw [0, 4] (fun x v wr => ∃ (m : Nat) (t : ByteArray), x = .int .i64 (m : Int) ∧ v = .string t ∧ m ≤ n ∧ Hid (DRel n m t) ∧ t.size ≤ 19 ∧ Below w.heap.size w wr) (fun x _ _ => (intOf x).toNat)
  case atStart => exact ⟨n, _, rfl, rfl, Nat.le_refl _, HS, Nat.zero_le _, Below.refl _ _⟩
  case round =>
    obtain ⟨m, t, rfl, rfl, hmn, hR, b3, hbl⟩ := hrel
    have hsz := hbl.size
    by_cases hm : m = 0
    · have HF : Hid (t = itoaB (n : Int)) := Lib.hid (by
        have := (hm ▸ hR.out : DRel n 0 t).fin hp
        unfold itoaB
        rw [Lib.itoa_nonneg, ← this])
      have hm' : ((m : Int) == 0) = true := by simp [hm]
      have hm2 : ((m : Int) != 0) = false := by simp [hm]
      clear hm hR
      go_wp2_with fail
      go_ret
      exact ⟨by rw [← HF.out]; rfl, hbl⟩
    · have HF := Lib.hid (hR.out.step (by omega))
      have HS2 := HF.out.sz
      have hm' : ((m : Int) == 0) = false := beq_eq_false_iff_ne.2 (by omega)
      have hm2 : ((m : Int) != 0) = true := by simp [hm]
      have hmp : 0 < (m : Int) := by omega
      have e1 : (m : Int).tmod 10 = (m : Int) % 10 := IntWalk.rem_in _ _ (by omega)
      have e2 : (m : Int).tdiv 10 = (m : Int) / 10 := Int.tdiv_eq_ediv_of_nonneg (by omega)
      have e3 : ¬ (m : Int) % 10 < 0 := by omega
      clear hR
      have hf := fig_bd (x := (m : Int) % 10) (by omega) (by omega)
      have HA := lit1f wr (fig ((m : Int) % 10)) hf
      go_wp2_with fail
      refine (figure_any _ _ (by omega) (by omega)).mono ?_
      rintro e wa ⟨rfl, rfl⟩
      go_wp2_with (with_reducible refine str_law (o := ⟨some 21, _, _, _, _, _⟩) _ rfl _ rfl HA rfl ?_)
      go_roundw
      case rel => exact ⟨m / 10, _, by simp, rfl, by omega, HF, HS2, hbl.alloc hsz _⟩
      case measure => simp [intOf]; omega
set_option maxRecDepth 100000 in
set_option maxHeartbeats 1000000 in
theorem fmt_neg (n : Nat) (w : World) (hp : 0 < n) (hn : n ≤ 9223372036854775808) :
    Calls Tryd.prog 6 #[.int .i64 (-(n : Int))] w fun e w' => e = .returned (.string (itoaB (-(n : Int)))) ∧ Below w.heap.size w w' := by
  have hz' : (-(n : Int) == 0) = false := beq_eq_false_iff_ne.2 (by omega)
  have hn0 : -(n : Int) < 0 := by omega
  have hd : decide (-(n : Int) < 0) = true := decide_eq_true hn0
  have HS : Hid (DRel n n ⟨#[]⟩) := Lib.hid (DRel.start (by omega))
  go_enter Tryd.func6, Tryd.ntmps6
  go_wp2_with fail
  go_loopw [0, 4] (fun x v wr => ∃ (m : Nat) (t : ByteArray), x = .int .i64 (-(m : Int)) ∧ v = .string t ∧ m ≤ n ∧ Hid (DRel n m t) ∧ t.size ≤ 19 ∧ Below w.heap.size w wr) (fun x _ _ => (-intOf x).toNat)
  case atStart => exact ⟨n, _, rfl, rfl, Nat.le_refl _, HS, Nat.zero_le _, Below.refl _ _⟩
  case round =>
    obtain ⟨m, t, rfl, rfl, hmn, hR, b3, hbl⟩ := hrel
    have hsz := hbl.size
    by_cases hm : m = 0
    · have HF : Hid ((⟨#[45]⟩ : ByteArray) ++ t = itoaB (-(n : Int))) := Lib.hid (by
        have := (hm ▸ hR.out : DRel n 0 t).fin hp
        unfold itoaB
        rw [Lib.itoa_neg n (by omega), ← this]
        apply Go.WideShapes.bytes_inj
        rw [ByteArray.data_append, Array.toList_append]
        rfl)
      have hm' : (-(m : Int) == 0) = true := by simp [hm]
      have hm2 : (-(m : Int) != 0) = false := by simp [hm]
      have hs1 : (⟨#[45]⟩ : ByteArray).size + t.size ≤ 9223372036854775807 := by show 1 + t.size ≤ _; omega
      clear hm hR
      go_wp2_with fail
      go_ret
      exact ⟨by rw [← HF.out]; rfl, hbl⟩
    · have HF := Lib.hid (hR.out.step (by omega))
      have HS2 := HF.out.sz
      have hm' : (-(m : Int) == 0) = false := beq_eq_false_iff_ne.2 (by omega)
      have hm2 : (-(m : Int) != 0) = true := by simp [hm]
      have e1 : (-(m : Int)).tmod 10 = -((m : Int) % 10) := by rw [Int.neg_tmod, IntWalk.rem_in _ _ (by omega)]
      have e2 : (-(m : Int)).tdiv 10 = -((m : Int) / 10) := by rw [Int.neg_tdiv, Int.tdiv_eq_ediv_of_nonneg (by omega)]
      clear hR
      have hf := fig_bd (x := (m : Int) % 10) (by omega) (by omega)
      have HA := lit1f wr (fig ((m : Int) % 10)) hf
      by_cases hd0 : (m : Int) % 10 = 0
      · rw [hd0] at HA hf HF HS2
        have e3 : ¬ -((m : Int) % 10) < 0 := by omega
        go_wp2_with fail
        refine (figure_any _ _ (by omega) (by omega)).mono ?_
        rintro e wa ⟨rfl, rfl⟩
        go_wp2_with (with_reducible refine str_law (o := ⟨some 21, _, _, _, _, _⟩) _ rfl _ rfl HA rfl ?_)
        go_roundw
        case rel => exact ⟨m / 10, _, by simp, rfl, by omega, HF, HS2, hbl.alloc hsz _⟩
        case measure => simp [intOf]; omega
      · have e3 : -((m : Int) % 10) < 0 := by omega
        go_wp2_with fail
        refine (figure_any _ _ (by omega) (by omega)).mono ?_
        rintro e wa ⟨rfl, rfl⟩
        go_wp2_with (with_reducible refine str_law (o := ⟨some 21, _, _, _, _, _⟩) _ rfl _ rfl HA rfl ?_)
        go_roundw
        case rel => exact ⟨m / 10, _, by simp, rfl, by omega, HF, HS2, hbl.alloc hsz _⟩
        case measure => simp [intOf]; omega
set_option maxRecDepth 100000 in
theorem fmt_zero (w : World) : Calls Tryd.prog 6 #[.int .i64 0] w fun e w' => e = .returned (.string (itoaB 0)) ∧ Below w.heap.size w w' := by
  have HR := Lib.hid itoaB_0
  go_enter Tryd.func6, Tryd.ntmps6
  go_wp2_with fail
  go_ret
  exact ⟨by rw [HR.out]; rfl, Below.refl _ _⟩
theorem fmt_any (n : Int) (w : World) (h0 : -9223372036854775808 ≤ n) (h1 : n ≤ 9223372036854775807) :
    Calls Tryd.prog 6 #[.int .i64 n] w fun e w' => e = .returned (.string (itoaB n)) ∧ Below w.heap.size w w' := by
  by_cases hz : n = 0
  · subst hz; exact fmt_zero w
  · by_cases hp : 0 < n
    · obtain ⟨m, rfl⟩ := Int.eq_ofNat_of_zero_le (show 0 ≤ n by omega)
      exact fmt_pos m w (by omega) (by omega)
    · obtain ⟨m, hm⟩ := Int.eq_ofNat_of_zero_le (show 0 ≤ -n by omega)
      obtain rfl : n = -(m : Int) := by omega
      exact fmt_neg m w (by omega) (by omega)
end Go.Proofs.YtmnddbgblhmlbaaDoor
