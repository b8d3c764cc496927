/- PackZeros: the reference. -/
import Derived.Test.YtmnddbgblhmlbaaZer
import Derived.Deep.DeepCutAuto
import Derived.Deep.CutBlock
namespace Go.Proofs.Ytmnddbgblhmlbaa
open Go.RowKit

set_option maxRecDepth 100000 in
set_option maxHeartbeats 4000000 in
theorem zer_spec (s : ByteArray) (w : World) (hsz : s.size ≤ 1099511627775) :
    Calls Try.prog 81 #[.string s] w fun e w' => e = .returned (.string (packZ s)) ∧ Below w.heap.size w w' := by
  go_enter Try.func81, Try.ntmps81
  go_wp2_with fail
  go_loopw [3, 4] (fun v i wr => ∃ (k : Nat) (t : ByteArray), k ≤ s.size ∧ i = .int .i64 k ∧ t.size ≤ 13 * k ∧ v = .string t ∧ Hid (pz s.data.toList = t.data.toList ++ pz (s.data.toList.drop k)) ∧ Below w.heap.size w wr) (fun _ i _ => s.size - (intOf i).toNat)
  case atStart => exact ⟨0, ⟨#[]⟩, Nat.zero_le _, rfl, Nat.le_refl _, rfl, Lib.hid rfl, Below.refl _ _⟩
  case round =>
    obtain ⟨k, t, hk, rfl, hl, rfl, hP, hbl⟩ := hrel
    obtain ⟨wo, rfl⟩ : ∃ wo : World, wo = wr := ⟨_, rfl⟩
    have hsz' := hbl.size
    by_cases hlt : k < s.size
    · go_upto_block 2 with (fail)
      go_cut [4] (fun i wx => ∃ q : Nat, k ≤ q ∧ q ≤ s.size ∧ i = .int .i64 q ∧ Hid (q = k + zs (s.data.toList.drop k)) ∧ wo = wx)
      case first =>
        go_wp2_with fail
        go_loop [4] (fun i => ∃ q : Nat, k ≤ q ∧ q ≤ s.size ∧ i = .int .i64 q ∧ q - k ≤ zs (s.data.toList.drop k)) (fun i => s.size - (intOf i).toNat)
        case atStart => exact ⟨k, Nat.le_refl _, hk, rfl, by omega⟩
        case round =>
          obtain ⟨q, hkq, hq, rfl, hj⟩ := hrel
          have stop1 : ∀ hZ : (∀ h : q < s.size, (((s[q]'h).toNat : Int) == 0) = false), Hid (q = k + zs (s.data.toList.drop k)) := fun hZ => Lib.hid (zq_stop hkq hj hZ)
          rcases (show (∃ h : q < s.size, (((s[q]'h).toNat : Int) == 0) = true) ∨ (∃ h : q < s.size, (((s[q]'h).toNat : Int) == 0) = false) ∨ s.size ≤ q by
              by_cases h : q < s.size
              · cases hb : (((s[q]'h).toNat : Int) == 0)
                · exact .inr (.inl ⟨h, hb⟩)
                · exact .inl ⟨h, hb⟩
              · exact .inr (.inr (by omega))) with ⟨h1, h2⟩ | ⟨h1, h2⟩ | h1
          · have HJ := Lib.hid (zq_more hkq hj h1 h2)
            clear stop1
            go_wp2_with fail
            go_round
            case rel => exact ⟨q + 1, by omega, by omega, by go_num, HJ.out⟩
            case measure => simp [intOf]; omega
          all_goals
            have HQ : Hid (q = k + zs (s.data.toList.drop k)) := by
              first
                | exact stop1 (fun _ => h2)
                | exact stop1 (fun h => absurd h (by omega))
            clear stop1
            go_wp2_with fail
            go_meet
            exact ⟨q, hkq, hq, rfl, HQ, rfl⟩
      case rest =>
        obtain ⟨q, hkq, hq, rfl, HQ, rfl⟩ := hcut
        go_upto_block 4 with (fail)
        go_cut [4] (fun i wx => ∃ r : Nat, q ≤ r ∧ r ≤ s.size ∧ i = .int .i64 r ∧ Hid (r = q + os (s.data.toList.drop k)) ∧ wo = wx)
        case first =>
          go_wp2_with fail
          go_loop [4] (fun i => ∃ r : Nat, q ≤ r ∧ r ≤ s.size ∧ i = .int .i64 r ∧ r - q ≤ os (s.data.toList.drop k)) (fun i => s.size - (intOf i).toNat)
          case atStart => exact ⟨q, Nat.le_refl _, hq, rfl, by omega⟩
          case round =>
            obtain ⟨r, hqr, hr, rfl, hj'⟩ := hrel
            have stop2 : ∀ hZ : (∀ h : r < s.size, (((s[r]'h).toNat : Int) == 0) = true), Hid (r = q + os (s.data.toList.drop k)) := fun hZ => Lib.hid (oq_stop HQ.out hqr hj' hZ)
            rcases (show (∃ h : r < s.size, (((s[r]'h).toNat : Int) == 0) = false) ∨ (∃ h : r < s.size, (((s[r]'h).toNat : Int) == 0) = true) ∨ s.size ≤ r by
                by_cases h : r < s.size
                · cases hb : (((s[r]'h).toNat : Int) == 0)
                  · exact .inl ⟨h, hb⟩
                  · exact .inr (.inl ⟨h, hb⟩)
                · exact .inr (.inr (by omega))) with ⟨g1, g2⟩ | ⟨g1, g2⟩ | g1
            · have HJ := Lib.hid (oq_more HQ.out hqr hj' g1 g2)
              have g3 : (((s[r]'g1).toNat : Int) != 0) = true := by simpa using g2
              clear stop2
              go_wp2_with fail
              go_round
              case rel => exact ⟨r + 1, by omega, by omega, by go_num, HJ.out⟩
              case measure => simp [intOf]; omega
            all_goals
              have HR : Hid (r = q + os (s.data.toList.drop k)) := by
                first
                  | exact stop2 (fun _ => g2)
                  | exact stop2 (fun h => absurd h (by omega))
              clear stop2
              try (have g3 : (((s[r]'g1).toNat : Int) != 0) = false := by simpa using g2)
              go_wp2_with fail
              go_meet
              exact ⟨r, hqr, hr, rfl, HR, rfl⟩
        case rest =>
          obtain ⟨r, hqr, hr, rfl, HR, rfl⟩ := hcut
          have HN := Lib.hid (pq_next hP.out hlt HQ.out HR.out)
          obtain ⟨p1, p2⟩ := pq_prog hlt HQ.out HR.out
          have hx := extract_le s q r
          have hx2 : (s.extract q r).size = r - q := by rw [ByteArray.size_extract]; omega
          have HX := Lib.hid hx2
          clear hx2
          have hv := encVar_size ((q : Int) - (k : Int))
          have hpk := packT_size (s.extract q r)
          have hvi : (q : Int) ≤ (r : Int) := by omega
          have hvr : (r : Int) ≤ (s.size : Int) := by omega
          have hq0 : (0 : Int) ≤ (q : Int) := by omega
          have hs1 : t.size + (encVar ((q : Int) - (k : Int))).size ≤ 9223372036854775807 := by omega
          have hs2 : (t ++ encVar ((q : Int) - (k : Int))).size + (packT (s.extract q r)).size ≤ 9223372036854775807 := by rw [ByteArray.size_append]; omega
          go_wp2_with fail
          go_region_with (first | (go_at_call 74; refine (enc_spec _ _).mono ?_; rintro e wa ⟨rfl, ha⟩) | (go_at_call 87; refine (pack_spec _ _ ?_).mono ?_; omega; rintro e wb ⟨rfl, hb⟩))
          all_goals
            go_wp2
            go_simp
            go_roundw
            case rel => exact ⟨r, p2, rfl, _, (by rw [ByteArray.size_append, ByteArray.size_append]; have := HX.out; omega), rfl, (by have := HN.out; simp only [ByteArray.data_append, Array.toList_append, List.append_assoc] at this ⊢; exact Lib.hid this), hbl.drew.trans ((ha.mono hbl.drew.size).trans (hb.mono (Nat.le_trans hbl.drew.size ha.size)))⟩
            case measure => simp [intOf]; omega
    · have hf : Hid (pz s.data.toList = t.data.toList) := by
        have := hP.out
        rw [List.drop_of_length_le (by rw [bytes_len0]; omega), pz_nil, List.append_nil] at this
        exact Lib.hid this
      go_wp2_with fail
      go_ret
      exact ⟨by rw [packZ, hf.out]; rfl, hbl⟩
end Go.Proofs.Ytmnddbgblhmlbaa
