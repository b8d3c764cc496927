/- PackZeros: the program's and the reference's return the same plain function of the string. -/
import Derived.Test.YtmnddbgblhmlbaaTxt
import Derived.Test.YtmnddbgblhmlbaaZerLaw
import Derived.Lib.Strings
import Derived.Deep.RegionWith
namespace Go.Proofs.Ytmnddbgblhmlbaa
open Go.RowKit

theorem bytes_len0 (s : ByteArray) : s.data.toList.length = s.size := by simp
theorem len_drop (s : ByteArray) (k : Nat) : (s.data.toList.drop k).length = s.size - k := by rw [List.length_drop]; rfl
theorem isZ_of {s : ByteArray} {p : Nat} {h : p < s.size} (hz : (((s[p]'h).toNat : Int) == 0) = true) : isZ (s[p]'h) = true := by
  have : (s[p]'h).toNat = 0 := by simpa using hz
  unfold isZ
  exact beq_iff_eq.2 (UInt8.toNat_inj.1 this)
theorem notZ_of {s : ByteArray} {p : Nat} {h : p < s.size} (hz : (((s[p]'h).toNat : Int) == 0) = false) : notZ (s[p]'h) = true ∧ isZ (s[p]'h) = false := by
  have h1 : (s[p]'h).toNat ≠ 0 := by simpa using hz
  have h2 : isZ (s[p]'h) = false := by
    unfold isZ
    exact beq_eq_false_iff_ne.2 (fun e => h1 (by rw [e]; rfl))
  refine ⟨?_, h2⟩
  unfold notZ
  unfold isZ at h2
  rw [h2]; rfl
theorem drop_at' (s : ByteArray) (p k : Nat) (h : p + k < s.size) : (s.data.toList.drop p)[k]? = some (s[p + k]'h) := by
  rw [List.getElem?_drop, Array.getElem?_toList, Array.getElem?_eq_getElem (show p + k < s.data.size from h)]
  rfl
/-- one more zero -/
theorem z_more {s : ByteArray} {k j : Nat} (hj : j ≤ zs (s.data.toList.drop k)) (h : k + j < s.size) (hz : (((s[k + j]'h).toNat : Int) == 0) = true) : j + 1 ≤ zs (s.data.toList.drop k) :=
  run_more hj (drop_at' s k j h) (isZ_of hz)
theorem z_stop {s : ByteArray} {k j : Nat} (hj : j ≤ zs (s.data.toList.drop k)) (h : ∀ h : k + j < s.size, (((s[k + j]'h).toNat : Int) == 0) = false) : j = zs (s.data.toList.drop k) := by
  refine run_stop hj (fun c hc => ?_)
  by_cases h1 : k + j < s.size
  · rw [drop_at' s k j h1] at hc
    cases hc
    exact (notZ_of (h h1)).2
  · rw [List.getElem?_eq_none (by rw [len_drop]; omega)] at hc
    cases hc
theorem o_more {s : ByteArray} {k j : Nat} (hj : j ≤ os (s.data.toList.drop k)) (h : k + zs (s.data.toList.drop k) + j < s.size) (hz : (((s[k + zs (s.data.toList.drop k) + j]'h).toNat : Int) == 0) = false) : j + 1 ≤ os (s.data.toList.drop k) :=
  run_more hj (by rw [List.drop_drop]; exact drop_at' s _ j h) (notZ_of hz).1
theorem o_stop {s : ByteArray} {k j : Nat} (hj : j ≤ os (s.data.toList.drop k)) (h : ∀ h : k + zs (s.data.toList.drop k) + j < s.size, (((s[k + zs (s.data.toList.drop k) + j]'h).toNat : Int) == 0) = true) : j = os (s.data.toList.drop k) := by
  refine run_stop hj (fun c hc => ?_)
  rw [List.drop_drop] at hc
  by_cases h1 : k + zs (s.data.toList.drop k) + j < s.size
  · rw [drop_at' s _ j h1] at hc
    cases hc
    have := isZ_of (h h1)
    unfold notZ
    unfold isZ at this
    rw [this]; rfl
  · rw [List.getElem?_eq_none (by rw [len_drop]; omega)] at hc
    cases hc
theorem pz_next {s : ByteArray} {k : Nat} {l : List UInt8} (h : pz s.data.toList = l ++ pz (s.data.toList.drop k)) (hk : k < s.size) :
    pz s.data.toList = ((l ++ (encVar ((zs (s.data.toList.drop k) : Nat) : Int)).data.toList) ++ (packT (s.extract (k + zs (s.data.toList.drop k)) (k + zs (s.data.toList.drop k) + os (s.data.toList.drop k)))).data.toList) ++ pz (s.data.toList.drop (k + zs (s.data.toList.drop k) + os (s.data.toList.drop k))) := by
  have hne : s.data.toList.drop k ≠ [] := fun e => by
    have := congrArg List.length e
    rw [len_drop] at this
    simp at this; omega
  have hs := sum_le (s.data.toList.drop k)
  rw [len_drop] at hs
  have hx : (s.extract (k + zs (s.data.toList.drop k)) (k + zs (s.data.toList.drop k) + os (s.data.toList.drop k))).data.toList = oth (s.data.toList.drop k) := by
    rw [Lib.extract_data, Nat.add_sub_cancel_left]
    unfold oth
    rw [List.drop_drop]
  have hz : (s.extract (k + zs (s.data.toList.drop k)) (k + zs (s.data.toList.drop k) + os (s.data.toList.drop k))).size = os (s.data.toList.drop k) := by
    rw [ByteArray.size_extract]; omega
  rw [h, pz_step hne]
  unfold packT encVar
  rw [hz, ByteArray.data_append, Array.toList_append, hx]
  unfold rst
  rw [List.drop_drop]
  simp only [List.append_assoc, Nat.add_assoc]
theorem packT_size (s : ByteArray) : (packT s).size ≤ 6 + s.size := by
  unfold packT
  rw [ByteArray.size_append]
  have := encVar_size s.size
  omega

theorem zq_more {s : ByteArray} {k q : Nat} (hkq : k ≤ q) (hj : q - k ≤ zs (s.data.toList.drop k)) (h : q < s.size) (hz : (((s[q]'h).toNat : Int) == 0) = true) : q + 1 - k ≤ zs (s.data.toList.drop k) := by
  obtain ⟨j, rfl⟩ := Nat.exists_eq_add_of_le hkq
  rw [Nat.add_sub_cancel_left] at hj
  have := z_more hj h hz
  omega
theorem zq_stop {s : ByteArray} {k q : Nat} (hkq : k ≤ q) (hj : q - k ≤ zs (s.data.toList.drop k)) (h : ∀ h : q < s.size, (((s[q]'h).toNat : Int) == 0) = false) : q = k + zs (s.data.toList.drop k) := by
  obtain ⟨j, rfl⟩ := Nat.exists_eq_add_of_le hkq
  rw [Nat.add_sub_cancel_left] at hj
  have := z_stop hj h
  omega
theorem oq_more {s : ByteArray} {k q r : Nat} (hq : q = k + zs (s.data.toList.drop k)) (hqr : q ≤ r) (hj : r - q ≤ os (s.data.toList.drop k)) (h : r < s.size) (hz : (((s[r]'h).toNat : Int) == 0) = false) : r + 1 - q ≤ os (s.data.toList.drop k) := by
  subst hq
  obtain ⟨j, rfl⟩ := Nat.exists_eq_add_of_le hqr
  rw [Nat.add_sub_cancel_left] at hj
  have := o_more hj h hz
  omega
theorem oq_stop {s : ByteArray} {k q r : Nat} (hq : q = k + zs (s.data.toList.drop k)) (hqr : q ≤ r) (hj : r - q ≤ os (s.data.toList.drop k)) (h : ∀ h : r < s.size, (((s[r]'h).toNat : Int) == 0) = true) : r = q + os (s.data.toList.drop k) := by
  subst hq
  obtain ⟨j, rfl⟩ := Nat.exists_eq_add_of_le hqr
  rw [Nat.add_sub_cancel_left] at hj
  have := o_stop hj h
  omega
theorem pq_next {s : ByteArray} {k q r : Nat} {l : List UInt8} (h : pz s.data.toList = l ++ pz (s.data.toList.drop k)) (hk : k < s.size) (hq : q = k + zs (s.data.toList.drop k)) (hr : r = q + os (s.data.toList.drop k)) :
    pz s.data.toList = ((l ++ (encVar ((q : Int) - (k : Int))).data.toList) ++ (packT (s.extract q r)).data.toList) ++ pz (s.data.toList.drop r) := by
  subst hr
  have e : (q : Int) - (k : Int) = ((zs (s.data.toList.drop k) : Nat) : Int) := by omega
  rw [e, hq]
  exact pz_next h hk
theorem pq_prog {s : ByteArray} {k q r : Nat} (hk : k < s.size) (hq : q = k + zs (s.data.toList.drop k)) (hr : r = q + os (s.data.toList.drop k)) : k < r ∧ r ≤ s.size := by
  have hne : s.data.toList.drop k ≠ [] := fun e => by
    have := congrArg List.length e
    rw [len_drop] at this
    simp at this; omega
  have h1 := one_of _ hne
  have hs := sum_le (s.data.toList.drop k)
  rw [len_drop] at hs
  omega

theorem own_assoc {w : World} {base : Nat} {v : Value} {a b c : List UInt8} (h : Own w base 1 v (a ++ (b ++ c)).length (u8s (a ++ (b ++ c)))) : Own w base 1 v ((a ++ b) ++ c).length (u8s ((a ++ b) ++ c)) := by
  rw [List.append_assoc]; exact h

set_option maxRecDepth 100000 in
set_option maxHeartbeats 4000000 in
theorem zer_impl (s : ByteArray) (w : World) (hsz : s.size ≤ 1099511627775) :
    Calls Try.prog 59 #[.string s] w fun e w' => e = .returned (.string (packZ s)) ∧ Below w.heap.size w w' := by
  go_enter Try.func59, Try.ntmps59
  go_wp2_with fail
  go_loopw [3, 4] (fun v i wr => ∃ (k : Nat) (l : List UInt8), k ≤ s.size ∧ i = .int .i64 k ∧ l.length ≤ 13 * k ∧ Own wr w.heap.size 1 v l.length (u8s l) ∧ Hid (pz s.data.toList = l ++ pz (s.data.toList.drop k)) ∧ Below w.heap.size w wr) (fun _ i _ => s.size - (intOf i).toNat)
  case atStart => exact ⟨0, [], Nat.zero_le _, rfl, Nat.le_refl _, Own.nil _ _ _, Lib.hid rfl, Below.refl _ _⟩
  case round =>
    obtain ⟨k, l, hk, rfl, hl, hown, hP, hbl⟩ := hrel
    obtain ⟨wo, rfl⟩ : ∃ wo : World, wo = wr := ⟨_, rfl⟩
    have hsz' := hbl.size
    by_cases hlt : k < s.size
    · go_wp2_with fail
      go_loop [4] (fun i => ∃ q : Nat, k ≤ q ∧ q ≤ s.size ∧ i = .int .i64 q ∧ q - k ≤ zs (s.data.toList.drop k)) (fun i => s.size - (intOf i).toNat)
      case atStart => exact ⟨k, Nat.le_refl _, hk, rfl, by omega⟩
      case round =>
        obtain ⟨q, hkq, hq, rfl, hj⟩ := hrel
        have stop1 : ∀ hZ : (∀ h : q < s.size, (((s[q]'h).toNat : Int) == 0) = false), Hid (q = k + zs (s.data.toList.drop k)) := fun hZ => Lib.hid (zq_stop hkq hj hZ)
        rcases (show (∃ h : q < s.size, (((s[q]'h).toNat : Int) == 0) = true) ∨ (∃ h : q < s.size, (((s[q]'h).toNat : Int) == 0) = false) ∨ s.size ≤ q by
            by_cases h : q < s.size
            · cases hb : (((s[q]'h).toNat : Int) == 0)
              · exact .inr (.inl ⟨h, hb⟩)
              · exact .inl ⟨h, hb⟩
            · exact .inr (.inr (by omega))) with ⟨h1, h2⟩ | ⟨h1, h2⟩ | h1
        · have HJ := Lib.hid (zq_more hkq hj h1 h2)
          clear stop1
          go_wp2_with fail
          go_round
          case rel => exact ⟨q + 1, by omega, by omega, by go_num, HJ.out⟩
          case measure => simp [intOf]; omega
        all_goals
          have HQ : Hid (q = k + zs (s.data.toList.drop k)) := by
            first
              | exact stop1 (fun _ => h2)
              | exact stop1 (fun h => absurd h (by omega))
          clear stop1
          go_wp2_with fail
          go_loop [4] (fun i => ∃ r : Nat, q ≤ r ∧ r ≤ s.size ∧ i = .int .i64 r ∧ r - q ≤ os (s.data.toList.drop k)) (fun i => s.size - (intOf i).toNat)
          case atStart => exact ⟨q, Nat.le_refl _, hq, rfl, by omega⟩
          case round =>
            obtain ⟨r, hqr, hr, rfl, hj'⟩ := hrel
            have stop2 : ∀ hZ : (∀ h : r < s.size, (((s[r]'h).toNat : Int) == 0) = true), Hid (r = q + os (s.data.toList.drop k)) := fun hZ => Lib.hid (oq_stop HQ.out hqr hj' hZ)
            rcases (show (∃ h : r < s.size, (((s[r]'h).toNat : Int) == 0) = false) ∨ (∃ h : r < s.size, (((s[r]'h).toNat : Int) == 0) = true) ∨ s.size ≤ r by
                by_cases h : r < s.size
                · cases hb : (((s[r]'h).toNat : Int) == 0)
                  · exact .inl ⟨h, hb⟩
                  · exact .inr (.inl ⟨h, hb⟩)
                · exact .inr (.inr (by omega))) with ⟨g1, g2⟩ | ⟨g1, g2⟩ | g1
            · have HJ := Lib.hid (oq_more HQ.out hqr hj' g1 g2)
              have g3 : (((s[r]'g1).toNat : Int) != 0) = true := by simpa using g2
              clear stop2
              go_wp2_with fail
              go_round
              case rel => exact ⟨r + 1, by omega, by omega, by go_num, HJ.out⟩
              case measure => simp [intOf]; omega
            all_goals
              have HR : Hid (r = q + os (s.data.toList.drop k)) := by
                first
                  | exact stop2 (fun _ => g2)
                  | exact stop2 (fun h => absurd h (by omega))
              clear stop2
              have HN := Lib.hid (pq_next hP.out hlt HQ.out HR.out)
              obtain ⟨p1, p2⟩ := pq_prog hlt HQ.out HR.out
              have hx := extract_le s q r
              have hx2 : (s.extract q r).size = r - q := by rw [ByteArray.size_extract]; omega
              have HX := Lib.hid hx2
              clear hx2
              try (have g3 : (((s[r]'g1).toNat : Int) != 0) = false := by simpa using g2)
              have hv := encVar_size ((q : Int) - (k : Int))
              have hpk := packT_size (s.extract q r)
              go_wp2_with fail
              refine (enc_impl _ _).mono ?_
              rintro e wa ⟨rfl, ha⟩
              have hown1 : Own wa w.heap.size 1 _ l.length (u8s l) := hown.below ha (fun g hg => (hown.ge g hg).2)
              have hbl1 := hbl.trans (ha.mono hsz')
              have hsz1 := hbl1.size
              go_wp2_with (with_reducible refine app_str (o := ⟨some 42, _, _, _, _, _⟩) wa rfl _ _ rfl w.heap.size hown1 rfl _ rfl (by omega) hsz1 ?_)
              intro v' wb hown2 hg2 _
              have hbl2 := hbl1.trans (hown1.below_of hg2 (Nat.le_refl _) hsz1)
              have hsz2 := hbl2.size
              clear hg2
              go_wp2_with fail
              refine (pack_impl _ _ (by omega)).mono ?_
              rintro e wc ⟨rfl, hc⟩
              have hown3 : Own wc w.heap.size 1 _ _ _ := hown2.below hc (fun g hg => (hown2.ge g hg).2)
              have hbl3 := hbl2.trans (hc.mono hsz2)
              have hsz3 := hbl3.size
              go_wp2_with (with_reducible refine app_str (o := ⟨some 49, _, _, _, _, _⟩) wc rfl _ _ rfl w.heap.size hown3 rfl _ rfl (by omega) hsz3 ?_)
              intro v2 wd hown4 hg4 _
              have hbl4 := hbl3.trans (hown3.below_of hg4 (Nat.le_refl _) hsz3)
              clear hg4
              have hlen : ((l ++ (encVar ((q : Int) - (k : Int))).data.toList) ++ (packT (s.extract q r)).data.toList).length ≤ 13 * r := by
                rw [List.length_append, List.length_append, bytes_len0, bytes_len0]
                have := HX.out
                omega
              go_wp2_with fail
              exact ⟨⟨r, _, p2, rfl, hlen, own_assoc hown4.fit, HN, hbl4⟩, by simp [intOf]; omega⟩
    · have hf : Hid (pz s.data.toList = l) := by
        have := hP.out
        rw [List.drop_of_length_le (by rw [bytes_len0]; omega), pz_nil, List.append_nil] at this
        exact Lib.hid this
      go_wp2_with (with_reducible refine str_law (o := ⟨some 51, _, _, _, _, _⟩) _ rfl _ rfl hown.at_ rfl ?_)
      go_ret
      exact ⟨by rw [packZ, hf.out]; rfl, hbl⟩
end Go.Proofs.Ytmnddbgblhmlbaa
