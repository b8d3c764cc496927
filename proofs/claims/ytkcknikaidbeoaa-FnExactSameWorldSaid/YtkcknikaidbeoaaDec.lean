/- DecodeVarint: the program's and the reference's return the same plain function of the string and the place. -/
import Derived.Test.YtkcknikaidbeoaaTxt
import Derived.Test.YtkcknikaidbeoaaVarLaw
import Derived.Deep.RegionWith
import Derived.Lib.Strings
namespace Go.Proofs.Ytkcknikaidbeoaa
open Go.RowKit

/-- what is left to read after k bytes, the number so far being m -/
def decRel (L : List UInt8) (k : Nat) (m : Int) : Prop := dec 6 L = (dec (6 - k) (L.drop k)).map fun x => (m + 128 ^ k * x.1, k + x.2.1, x.2.2)
theorem decRel_0 (L : List UInt8) : decRel L 0 0 := by
  unfold decRel
  simp only [Nat.sub_zero, List.drop_zero, Int.pow_zero, Int.one_mul, Int.zero_add, Nat.zero_add]
  cases dec 6 L <;> rfl
theorem decRel_end {L : List UInt8} {k : Nat} {m : Int} (h : decRel L k m) (h' : 6 ≤ k ∨ L.length ≤ k) : decV L = (0, 0, false) := by
  unfold decRel at h
  have : dec (6 - k) (L.drop k) = none := by
    rcases h' with h' | h'
    · rw [show 6 - k = 0 by omega]; rfl
    · rw [List.drop_of_length_le h']; cases 6 - k <;> rfl
  unfold decV
  rw [h, this]
  rfl
theorem decRel_more {L : List UInt8} {k : Nat} {m : Int} {c : UInt8} (h : decRel L k m) (hk : k < 6) (hc : L[k]? = some c) (h1 : ¬ c.toNat < 128) : decRel L (k + 1) (m + (c.toNat : Int) % 128 * 2 ^ (7 * k)) := by
  unfold decRel at *
  obtain ⟨hl, he⟩ := List.getElem?_eq_some_iff.1 hc
  rw [h, List.drop_eq_getElem_cons hl, he, show 6 - k = (6 - (k + 1)) + 1 by omega]
  simp only [dec]
  rw [if_neg h1, Option.map_map]
  congr 1
  funext x
  simp only [Function.comp]
  have hp : (2 : Int) ^ (7 * k) = 128 ^ k := by rw [Int.pow_mul]; rfl
  rw [hp, Int.pow_succ]
  refine Prod.ext ?_ (Prod.ext ?_ rfl)
  · simp only
    rw [Int.mul_add, Int.mul_comm ((c.toNat : Int) % 128), Int.add_assoc, Int.mul_assoc]
  · simp only; omega
theorem decRel_last {L : List UInt8} {k : Nat} {m : Int} {c : UInt8} (h : decRel L k m) (hk : k < 6) (hc : L[k]? = some c) (h1 : c.toNat < 128) : dec 6 L = some (m + (c.toNat : Int) % 128 * 2 ^ (7 * k), k + 1, c) := by
  unfold decRel at *
  obtain ⟨hl, he⟩ := List.getElem?_eq_some_iff.1 hc
  rw [h, List.drop_eq_getElem_cons hl, he, show 6 - k = (6 - (k + 1)) + 1 by omega]
  simp only [dec]
  rw [if_pos h1]
  simp only [Option.map_some]
  have hp : (2 : Int) ^ (7 * k) = 128 ^ k := by rw [Int.pow_mul]; rfl
  rw [hp, Int.mul_comm ((c.toNat : Int) % 128), Int.emod_eq_of_lt (by omega) (by omega)]
theorem decV_some {L : List UInt8} {v : Int} {k : Nat} {c : UInt8} (h : dec 6 L = some (v, k, c)) (h1 : ¬ (c = 0 ∧ 1 < k)) (h2 : v ≤ 1099511627775) : decV L = (v, (k : Int), true) := by
  have hc : canon (v, k, c) = true := by
    unfold canon
    simp only [Bool.not_eq_true', Bool.or_eq_false_iff, Bool.and_eq_false_iff, decide_eq_false_iff_not]
    refine ⟨?_, by omega⟩
    by_cases hz : c = 0
    · right; exact fun hk => h1 ⟨hz, hk⟩
    · left; exact hz
  unfold decV; rw [h]; simp only [hc, if_true]
theorem decV_none {L : List UInt8} {v : Int} {k : Nat} {c : UInt8} (h : dec 6 L = some (v, k, c)) (h1 : (c = 0 ∧ 1 < k) ∨ 1099511627775 < v) : decV L = (0, 0, false) := by
  have hc : canon (v, k, c) = false := by
    unfold canon
    simp only [Bool.not_eq_false', Bool.or_eq_true, Bool.and_eq_true, decide_eq_true_eq]
    exact h1
  unfold decV; rw [h]; simp only [hc]; rfl
theorem decA_nat (s : ByteArray) (p : Nat) : decA s (p : Int) = decV (s.data.toList.drop p) := by unfold decA; rw [if_neg (by omega), Int.toNat_natCast]
theorem decA_neg {s : ByteArray} {p : Int} (h : p < 0) : decA s p = (0, 0, false) := if_pos h
theorem decA_far {s : ByteArray} {p : Nat} (h : s.size ≤ p) : decA s (p : Int) = (0, 0, false) := by
  rw [decA_nat, List.drop_of_length_le (by simpa using h)]; rfl
theorem pow7_bd {k : Nat} (hk : k < 6) {x : Int} (h0 : 0 ≤ x) (h1 : x ≤ 127) : 0 ≤ x * 2 ^ (7 * k) ∧ x * 2 ^ (7 * k) ≤ 4363686772736 := by
  have : (2 : Int) ^ (7 * k) ≤ 34359738368 ∧ (0 : Int) ≤ 2 ^ (7 * k) := by
    match k, hk with
    | 0, _ => decide
    | 1, _ => decide
    | 2, _ => decide
    | 3, _ => decide
    | 4, _ => decide
    | 5, _ => decide
  exact mul_bd h0 h1 this.2 this.1
theorem drop_at (s : ByteArray) (p k : Nat) (h : p + k < s.size) : (s.data.toList.drop p)[k]? = some (s[p + k]'h) := by
  rw [List.getElem?_drop, Array.getElem?_toList, Array.getElem?_eq_getElem (show p + k < s.data.size from h)]
  rfl

theorem u8_zero {c : UInt8} (h : ((c.toNat : Int) == 0) = true) : c = 0 := UInt8.toNat_inj.1 (by simp at h ⊢; omega)
theorem u8_nonzero {c : UInt8} (h : ((c.toNat : Int) == 0) = false) : c ≠ 0 := by rintro rfl; simp at h

set_option maxRecDepth 100000 in
set_option maxHeartbeats 1000000 in
theorem decv_impl (s : ByteArray) (p : Int) (w : World) (hs : s.size ≤ 1099511627776) :
    Calls Try.prog 155 #[.string s, .int .i64 p] w fun e w' => e = .returned (.tuple #[.int .i64 (decA s p).1, .int .i64 (decA s p).2.1, .bool (decA s p).2.2]) ∧ w = w' := by
  by_cases h0 : p < 0
  · have HE := Lib.hid (decA_neg (s := s) h0)
    go_enter Try.func155, Try.ntmps155
    go_wp2_with fail
    go_ret3
    exact ⟨by rw [HE.out]; rfl, rfl⟩
  obtain ⟨p, rfl⟩ := Int.eq_ofNat_of_zero_le (show 0 ≤ p by omega)
  clear h0
  by_cases hp : s.size ≤ p
  · have HE := Lib.hid (decA_far hp)
    go_enter Try.func155, Try.ntmps155
    go_wp2_with fail
    go_ret3
    exact ⟨by rw [HE.out]; rfl, rfl⟩
  have hp : p < s.size := by omega
  have HL : Hid ((s.data.toList.drop p).length = s.size - p) := by rw [List.length_drop]; exact Lib.hid rfl
  go_enter Try.func155, Try.ntmps155
  go_wp2_with fail
  go_loop [7, 8] (fun n i => ∃ (k : Nat) (m : Int), i = .int .i64 k ∧ n = .int .i64 m ∧ k ≤ 6 ∧ p + k ≤ s.size ∧ 0 ≤ m ∧ m ≤ k * 4363686772736 ∧ decRel (s.data.toList.drop p) k m) (fun _ i => 7 - (intOf i).toNat)
  case atStart => exact ⟨0, 0, rfl, rfl, by omega, by omega, by omega, by omega, decRel_0 _⟩
  case round =>
    obtain ⟨k, m, rfl, rfl, hk, hkp, hm0, hm, hR⟩ := hrel
    by_cases h6 : k < 6
    · by_cases hlt : p + k < s.size
      · have HC := Lib.hid (drop_at s p k hlt)
        have hb := (s[p + k]'hlt).toNat_lt
        have e1 := and_u8_127 (s[p + k]'hlt).toNat hb
        have hx := pow7_bd h6 (x := ((s[p + k]'hlt).toNat : Int) % 128) (by omega) (by omega)
        by_cases h1 : (s[p + k]'hlt).toNat < 128
        · have HD := Lib.hid (decRel_last hR h6 HC.out h1)
          clear hR
          by_cases hA : (((s[p + k]'hlt).toNat : Int) == 0) = true ∧ 0 < k
          · have HE := Lib.hid (decV_none HD.out (.inl ⟨u8_zero hA.1, by omega⟩))
            obtain ⟨hA1, hA2⟩ := hA
            go_wp2_with fail
            go_ret3
            exact ⟨by rw [decA_nat, HE.out]; rfl, rfl⟩
          · have hA' : (((s[p + k]'hlt).toNat : Int) == 0) = false ∨ (((s[p + k]'hlt).toNat : Int) == 0) = true ∧ k = 0 := by
              cases hq : (((s[p + k]'hlt).toNat : Int) == 0)
              · exact .inl rfl
              · exact .inr ⟨rfl, by have : ¬ 0 < k := fun h => hA ⟨hq, h⟩
                                    omega⟩
            clear hA
            by_cases hB : 1099511627775 < m + ((s[p + k]'hlt).toNat : Int) % 128 * 2 ^ (7 * k)
            · have HE := Lib.hid (decV_none HD.out (.inr hB))
              rcases hA' with hq | ⟨hq, hk0⟩
              · go_wp2_with fail
                go_ret3
                exact ⟨by rw [decA_nat, HE.out]; rfl, rfl⟩
              · exfalso
                subst hk0
                have hz : ((s[p + 0]'hlt).toNat : Int) = 0 := by simpa using hq
                rw [hz] at hB
                omega
            · have HE := Lib.hid (decV_some HD.out (fun ⟨h1, h2⟩ => by
                rcases hA' with hq | ⟨hq, hk0⟩
                · exact u8_nonzero hq h1
                · omega) (by omega))
              rcases hA' with hq | ⟨hq, hk0⟩
              · go_wp2_with fail
                go_ret3
                exact ⟨by rw [decA_nat, HE.out]; rfl, rfl⟩
              · have hk0' : k ≤ 0 := by omega
                clear hk0
                go_wp2_with fail
                go_ret3
                exact ⟨by rw [decA_nat, HE.out]; rfl, rfl⟩
        · have HD := Lib.hid (decRel_more hR h6 HC.out h1)
          go_wp2_with fail
          go_round
          case rel => exact ⟨k + 1, _, by go_num, rfl, by omega, by omega, by omega, by omega, HD.out⟩
          case measure => simp [intOf]; omega
      · have HE := Lib.hid (decRel_end hR (.inr (by rw [HL.out]; omega)))
        go_wp2_with fail
        go_ret3
        exact ⟨by rw [decA_nat, HE.out]; rfl, rfl⟩
    · have HE := Lib.hid (decRel_end hR (.inl (by omega)))
      go_wp2_with fail
      go_ret3
      exact ⟨by rw [decA_nat, HE.out]; rfl, rfl⟩

theorem decRel_size {k : Nat} {m : Int} {c : UInt8} (hm : m < 2 ^ (7 * k)) : m + (c.toNat : Int) % 128 * 2 ^ (7 * k) < 2 ^ (7 * (k + 1)) := by
  have hp : (2 : Int) ^ (7 * (k + 1)) = 128 * 2 ^ (7 * k) := by rw [Nat.mul_add, Int.pow_add]; omega
  have hx : ((c.toNat : Int) % 128) * 2 ^ (7 * k) ≤ 127 * 2 ^ (7 * k) := Int.mul_le_mul_of_nonneg_right (by omega) (Int.pow_nonneg (by omega))
  omega
/-- the reference's test -/
theorem decV_same {s : ByteArray} {p k : Nat} {v : Int} {c : UInt8} (h : dec 6 (s.data.toList.drop p) = some (v, k + 1, c)) :
    ((encVar v).toList == (s.extract p (p + k + 1)).toList) = canon (v, k + 1, c) := by
  rw [Bool.eq_iff_iff, canon_iff h, beq_iff_eq, Lib.toList_data, Lib.toList_data, Lib.extract_data]
  rw [show p + k + 1 - p = k + 1 by omega]
  rfl
theorem decV_of {L : List UInt8} {v : Int} {k : Nat} {c : UInt8} (h : dec 6 L = some (v, k, c)) (hc : canon (v, k, c) = true) : decV L = (v, (k : Int), true) := by unfold decV; rw [h]; simp only [hc, if_true]
theorem decV_not {L : List UInt8} {v : Int} {k : Nat} {c : UInt8} (h : dec 6 L = some (v, k, c)) (hc : canon (v, k, c) = false) : decV L = (0, 0, false) := by unfold decV; rw [h]; simp only [hc]; rfl

set_option maxRecDepth 100000 in
set_option maxHeartbeats 1000000 in
theorem decv_spec (s : ByteArray) (p : Int) (w : World) (hs : s.size ≤ 1099511627776) :
    Calls Try.prog 153 #[.string s, .int .i64 p] w fun e w' => e = .returned (.tuple #[.int .i64 (decA s p).1, .int .i64 (decA s p).2.1, .bool (decA s p).2.2]) ∧ Below w.heap.size w w' := by
  by_cases h0 : p < 0
  · have HE := Lib.hid (decA_neg (s := s) h0)
    go_enter Try.func153, Try.ntmps153
    go_wp2_with fail
    go_ret3
    exact ⟨by rw [HE.out]; rfl, Below.refl _ _⟩
  obtain ⟨p, rfl⟩ := Int.eq_ofNat_of_zero_le (show 0 ≤ p by omega)
  clear h0
  have HL : Hid ((s.data.toList.drop p).length = s.size - p) := by rw [List.length_drop]; exact Lib.hid rfl
  go_enter Try.func153, Try.ntmps153
  go_wp2_with fail
  go_loop [7, 8] (fun n i => ∃ (k : Nat) (m : Int), i = .int .i64 k ∧ n = .int .i64 m ∧ k ≤ 6 ∧ (k = 0 ∨ p + k ≤ s.size) ∧ 0 ≤ m ∧ m ≤ k * 4363686772736 ∧ Hid (m < 2 ^ (7 * k)) ∧ decRel (s.data.toList.drop p) k m) (fun _ i => 7 - (intOf i).toNat)
  case atStart => exact ⟨0, 0, rfl, rfl, by omega, .inl rfl, by omega, by omega, Lib.hid (by omega), decRel_0 _⟩
  case round =>
    obtain ⟨k, m, rfl, rfl, hk, hkp, hm0, hm, hm2, hR⟩ := hrel
    by_cases h6 : k < 6
    · by_cases hlt : p + k < s.size
      · have hp : p < s.size := by omega
        clear hkp
        have HC := Lib.hid (drop_at s p k hlt)
        have hb := (s[p + k]'hlt).toNat_lt
        have e1 := and_u8_127 (s[p + k]'hlt).toNat hb
        have hx := pow7_bd h6 (x := ((s[p + k]'hlt).toNat : Int) % 128) (by omega) (by omega)
        have e2 := or_shift (x := ((s[p + k]'hlt).toNat : Int) % 128) hm0 hm2.out (by omega) (by omega)
        by_cases h1 : (s[p + k]'hlt).toNat < 128
        · have HD := Lib.hid (decRel_last hR h6 HC.out h1)
          have HT := Lib.hid (decV_same HD.out)
          clear hR
          by_cases hcn : canon (m + ((s[p + k]'hlt).toNat : Int) % 128 * 2 ^ (7 * k), k + 1, s[p + k]'hlt) = true
          · have HE := Lib.hid (decV_of HD.out hcn)
            have hT := HT.out.trans hcn
            clear hcn
            go_wp2_with fail
            have b0 : (0 : Int) ≤ (p : Int) + (k : Int) + 1 := by omega
            have b1 : (p : Int) ≤ (p : Int) + (k : Int) + 1 := by omega
            have b2 : (p : Int) + (k : Int) + 1 ≤ (s.size : Int) := by omega
            have b3 : ((p : Int) + (k : Int) + 1).toNat = p + k + 1 := by omega
            have c1 : IntKind.i64.wrap ((p : Int) + (k : Int)) = (p : Int) + (k : Int) := IntWalk.i64_in _ (by omega)
            have c2 : IntKind.i64.wrap ((p : Int) + (k : Int) + 1) = (p : Int) + (k : Int) + 1 := IntWalk.i64_in _ (by omega)
            go_region_with (first | (go_at_call 141; refine (enc_spec _ _).mono ?_; rintro e w1 ⟨rfl, hb1⟩))
            clear c1 c2 b3
            go_wp2_with fail
            go_ret3
            exact ⟨by rw [decA_nat, HE.out]; rfl, (Below.refl _ _).drew.trans hb1⟩
          · have hcn' : canon (m + ((s[p + k]'hlt).toNat : Int) % 128 * 2 ^ (7 * k), k + 1, s[p + k]'hlt) = false := by simpa using hcn
            have HE := Lib.hid (decV_not HD.out hcn')
            have hT := HT.out.trans hcn'
            clear hcn hcn'
            go_wp2_with fail
            have b0 : (0 : Int) ≤ (p : Int) + (k : Int) + 1 := by omega
            have b1 : (p : Int) ≤ (p : Int) + (k : Int) + 1 := by omega
            have b2 : (p : Int) + (k : Int) + 1 ≤ (s.size : Int) := by omega
            have b3 : ((p : Int) + (k : Int) + 1).toNat = p + k + 1 := by omega
            have c1 : IntKind.i64.wrap ((p : Int) + (k : Int)) = (p : Int) + (k : Int) := IntWalk.i64_in _ (by omega)
            have c2 : IntKind.i64.wrap ((p : Int) + (k : Int) + 1) = (p : Int) + (k : Int) + 1 := IntWalk.i64_in _ (by omega)
            go_region_with (first | (go_at_call 141; refine (enc_spec _ _).mono ?_; rintro e w1 ⟨rfl, hb1⟩))
            clear c1 c2 b3
            go_wp2_with fail
            go_ret3
            exact ⟨by rw [decA_nat, HE.out]; rfl, (Below.refl _ _).drew.trans hb1⟩
        · have HD := Lib.hid (decRel_more hR h6 HC.out h1)
          have HM := Lib.hid (decRel_size (c := s[p + k]'hlt) hm2.out)
          go_wp2_with fail
          go_round
          case rel => exact ⟨k + 1, _, by go_num, rfl, by omega, .inr (by omega), by omega, by omega, HM, HD.out⟩
          case measure => simp [intOf]; omega
      · have HE := Lib.hid (decRel_end hR (.inr (by rw [HL.out]; omega)))
        clear hkp
        by_cases hp : p < s.size
        all_goals (go_wp2_with fail; go_ret3; exact ⟨by rw [decA_nat, HE.out]; rfl, Below.refl _ _⟩)
    · have HE := Lib.hid (decRel_end hR (.inl (by omega)))
      clear hkp
      go_wp2_with fail
      go_ret3
      exact ⟨by rw [decA_nat, HE.out]; rfl, Below.refl _ _⟩
end Go.Proofs.Ytkcknikaidbeoaa
