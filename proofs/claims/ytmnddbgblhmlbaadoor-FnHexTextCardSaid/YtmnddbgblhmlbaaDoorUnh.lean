/- DecodeHex: the program's and the reference's return the same plain function of the string. -/
import Derived.Test.YtmnddbgblhmlbaaDoorHex
namespace Go.Proofs.YtmnddbgblhmlbaaDoor
open Go.RowKit

/-- a figure's value; -1 if it is none -/
def hv (x : Int) : Int := if 48 ≤ x ∧ x ≤ 57 then x - 48 else if 97 ≤ x ∧ x ≤ 102 then x - 87 else -1
theorem hv_bd (x : Int) : -1 ≤ hv x ∧ hv x ≤ 15 := by unfold hv; split; omega; split <;> omega
theorem hv_1 {x : Int} (h1 : 48 ≤ x) (h2 : x ≤ 57) : hv x = x - 48 := if_pos ⟨h1, h2⟩
theorem hv_2 {x : Int} (h1 : 97 ≤ x) (h2 : x ≤ 102) : hv x = x - 87 := by unfold hv; rw [if_neg (by omega), if_pos ⟨h1, h2⟩]
theorem hv_3 {x : Int} (h : x < 48 ∨ (57 < x ∧ x < 97) ∨ 102 < x) : hv x = -1 := by unfold hv; rw [if_neg (by omega), if_neg (by omega)]
def unhex : List UInt8 → Option (List UInt8)
  | [] => some []
  | [_] => none
  | a :: b :: r => if hv (a.toNat : Int) < 0 ∨ hv (b.toNat : Int) < 0 then none else (unhex r).map fun l => b8 (16 * hv (a.toNat : Int) + hv (b.toNat : Int)) :: l
def unhT (s : ByteArray) : ByteArray × Bool :=
  if s.size % 2 ≠ 0 ∨ 40000 < s.size then (⟨#[]⟩, false) else match unhex s.data.toList with
    | none => (⟨#[]⟩, false)
    | some l => (⟨l.toArray⟩, true)
def unhRel (s : ByteArray) (k : Nat) (acc : List UInt8) : Prop := unhex s.data.toList = (unhex (s.data.toList.drop k)).map fun l => acc ++ l
theorem unhRel_0 (s : ByteArray) : unhRel s 0 [] := by
  unfold unhRel
  simp only [List.drop_zero, List.nil_append]
  cases unhex s.data.toList <;> rfl
theorem drop_two (s : ByteArray) (k : Nat) (h : k + 1 < s.size) : s.data.toList.drop k = (s[k]'(by omega)) :: (s[k + 1]'h) :: s.data.toList.drop (k + 2) := by
  have hl : s.data.toList.length = s.size := by simp
  rw [List.drop_eq_getElem_cons (by omega), List.drop_eq_getElem_cons (by omega)]
  simp only [Array.getElem_toList]
  rfl
theorem unhRel_no {s : ByteArray} {k : Nat} {acc : List UInt8} (h : unhRel s k acc) (hk : k + 1 < s.size) (hn : hv ((s[k]'(by omega)).toNat : Int) < 0 ∨ hv ((s[k + 1]'hk).toNat : Int) < 0) : unhex s.data.toList = none := by
  unfold unhRel at h
  rw [h, drop_two s k hk]
  simp only [unhex, if_pos hn]
  rfl
theorem unhRel_more {s : ByteArray} {k : Nat} {acc : List UInt8} (h : unhRel s k acc) (hk : k + 1 < s.size) (h1 : 0 ≤ hv ((s[k]'(by omega)).toNat : Int)) (h2 : 0 ≤ hv ((s[k + 1]'hk).toNat : Int)) :
    unhRel s (k + 2) (acc ++ [b8 (16 * hv ((s[k]'(by omega)).toNat : Int) + hv ((s[k + 1]'hk).toNat : Int))]) := by
  unfold unhRel at *
  rw [h, drop_two s k hk]
  simp only [unhex]
  rw [if_neg (by omega), Option.map_map]
  congr 1
  funext l
  simp [Function.comp]
theorem unhRel_end {s : ByteArray} {k : Nat} {acc : List UInt8} (h : unhRel s k acc) (hk : s.size ≤ k) : unhex s.data.toList = some acc := by
  unfold unhRel at h
  rw [h, List.drop_of_length_le (by simpa using hk)]
  simp [unhex]
theorem unhT_out {s : ByteArray} (h : s.size % 2 ≠ 0 ∨ 40000 < s.size) : unhT s = (⟨#[]⟩, false) := if_pos h
theorem unhT_no {s : ByteArray} (h : ¬ (s.size % 2 ≠ 0 ∨ 40000 < s.size)) (h1 : unhex s.data.toList = none) : unhT s = (⟨#[]⟩, false) := by unfold unhT; rw [if_neg h, h1]
theorem unhT_yes {s : ByteArray} {l : List UInt8} (h : ¬ (s.size % 2 ≠ 0 ∨ 40000 < s.size)) (h1 : unhex s.data.toList = some l) : unhT s = (⟨l.toArray⟩, true) := by unfold unhT; rw [if_neg h, h1]

theorem hv_impl (x : Int) (w : World) (h0 : 0 ≤ x) (h : x < 256) :
    Calls Tryd.prog 23 #[.int .u8 x] w fun e w' => e = .returned (.int .i64 (hv x)) ∧ w = w' := by
  rcases (show (48 ≤ x ∧ x ≤ 57) ∨ (97 ≤ x ∧ x ≤ 102) ∨ (x < 48 ∨ (57 < x ∧ x < 97) ∨ 102 < x) by omega) with ⟨h1, h2⟩ | ⟨h1, h2⟩ | h1
  · have HF := Lib.hid (hv_1 h1 h2)
    go_enter Tryd.func23, Tryd.ntmps23
    go_wp2_with fail
    go_ret
    exact ⟨ret_int (by rw [HF.out]), rfl⟩
  · have HF := Lib.hid (hv_2 h1 h2)
    go_enter Tryd.func23, Tryd.ntmps23
    go_wp2_with fail
    go_ret
    exact ⟨ret_int (by rw [HF.out]; omega), rfl⟩
  · have HF := Lib.hid (hv_3 h1)
    rcases h1 with h1 | ⟨h1, h2⟩ | h1
    all_goals
      go_enter Tryd.func23, Tryd.ntmps23
      go_wp2_with fail
      go_ret
      exact ⟨ret_int (by rw [HF.out]), rfl⟩
set_option maxRecDepth 100000 in
set_option maxHeartbeats 1000000 in
theorem unh_impl (s : ByteArray) (w : World) (hsz : s.size ≤ 1099511627776) :
    Calls Tryd.prog 11 #[.string s] w fun e w' => e = .returned (.tuple #[.string (unhT s).1, .bool (unhT s).2]) ∧ Below w.heap.size w w' := by
  by_cases h0 : s.size % 2 = 0
  · by_cases h1 : s.size ≤ 40000
    · have hin : ¬ (s.size % 2 ≠ 0 ∨ 40000 < s.size) := by omega
      have HI := Lib.hid hin
      clear hin
      have H0 := Lib.hid h0
      have hz : ((s.size : Int) % 2 == 0) = true := by simp; omega
      have hz' : ((s.size : Int) % 2 != 0) = false := by simp; omega
      have hz2 : (s.size : Int) / 2 ≤ 20000 := by omega
      clear h0
      go_enter Tryd.func11, Tryd.ntmps11
      go_wp2_with (with_reducible refine make0_u8 (o := ⟨some 21, _, _, _, _, _⟩) w rfl _ _ rfl w.heap.size (s.size / 2) _ rfl rfl (by omega) (by omega) (Nat.le_refl _) ?_)
      intro w1 hown hg
      have hbl : Below w.heap.size w w1 := (Below.refl _ _).grown hg (Nat.le_refl _) (fun k h => by cases h)
      go_wp2
      go_loopw [4, 5] (fun v i wr => ∃ (k : Nat) (l : List UInt8), k ≤ s.size ∧ Hid (k % 2 = 0) ∧ i = .int .i64 k ∧ l.length ≤ k ∧ Own wr w.heap.size 1 v l.length (u8s l) ∧ unhRel s k l ∧ Below w.heap.size w wr) (fun _ i _ => s.size - (intOf i).toNat)
      case atStart => exact ⟨0, [], Nat.zero_le _, Lib.hid rfl, rfl, Nat.zero_le _, hown, unhRel_0 s, hbl⟩
      case round =>
        obtain ⟨k, l, hk, hk2, rfl, hl, hown, hR, hbl⟩ := hrel
        have hsz' := hbl.size
        by_cases hlt : k < s.size
        · have hlt1 : k + 1 < s.size := by have := hk2.out; have := H0.out; omega
          have hb := (s[k]'hlt).toNat_lt
          have hb1 := (s[k + 1]'hlt1).toNat_lt
          have v1 := hv_bd ((s[k]'hlt).toNat : Int)
          have v2 := hv_bd ((s[k + 1]'hlt1).toNat : Int)
          by_cases hg : 0 ≤ hv ((s[k]'hlt).toNat : Int) ∧ 0 ≤ hv ((s[k + 1]'hlt1).toNat : Int)
          · obtain ⟨g1, g2⟩ := hg
            have HR := Lib.hid (unhRel_more hR hlt1 g1 g2)
            have HC := b8_one (n := hv ((s[k]'hlt).toNat : Int) * 16 + hv ((s[k + 1]'hlt1).toNat : Int)) (by omega) (by omega)
            have HM : Hid (b8 (hv ((s[k]'hlt).toNat : Int) * 16 + hv ((s[k + 1]'hlt1).toNat : Int)) = b8 (16 * hv ((s[k]'hlt).toNat : Int) + hv ((s[k + 1]'hlt1).toNat : Int))) := Lib.hid (congrArg b8 (by omega))
            clear hR
            go_wp2_with fail
            refine (hv_impl _ _ (by omega) (by omega)).mono ?_
            rintro e wa ⟨rfl, rfl⟩
            go_wp2_with fail
            refine (hv_impl _ _ (by omega) (by omega)).mono ?_
            rintro e wa ⟨rfl, rfl⟩
            go_wp2_with (with_reducible refine app_u8 (o := ⟨some 50, _, _, _, _, _⟩) wr _ rfl _ _ rfl w.heap.size hown rfl 1 1 _ rfl HC rfl (by omega) (by omega) ?_)
            intro v' w' hown' hg hv
            have hbl' := hbl.trans (hown.below_of hg (Nat.le_refl _) hsz')
            clear hg hv
            go_wp2
            go_roundw
            case rel => exact ⟨k + 2, _, by omega, Lib.hid (by have := hk2.out; omega), by go_num, by simp; omega, by rw [HM.out] at hown'; simpa using hown', HR.out, hbl'⟩
            case measure => simp [intOf]; omega
          · have HR := Lib.hid (unhT_no HI.out (unhRel_no hR hlt1 (by omega)))
            clear hR
            rcases (show hv ((s[k]'hlt).toNat : Int) < 0 ∨ (0 ≤ hv ((s[k]'hlt).toNat : Int) ∧ hv ((s[k + 1]'hlt1).toNat : Int) < 0) by omega) with g | ⟨g, g'⟩
            all_goals
              clear hg
              go_wp2_with fail
              refine (hv_impl _ _ (by omega) (by omega)).mono ?_
              rintro e wa ⟨rfl, rfl⟩
              go_wp2_with fail
              refine (hv_impl _ _ (by omega) (by omega)).mono ?_
              rintro e wa ⟨rfl, rfl⟩
              go_wp2_with fail
              go_ret2
              exact ⟨by rw [HR.out]; rfl, hbl⟩
        · have HR := Lib.hid (unhT_yes HI.out (unhRel_end hR (by omega)))
          clear hR
          go_wp2_with (with_reducible refine str_law (o := ⟨some 52, _, _, _, _, _⟩) _ rfl _ rfl hown.at_ rfl ?_)
          go_ret2
          exact ⟨by rw [HR.out]; rfl, hbl⟩
    · have HR := Lib.hid (unhT_out (s := s) (.inr (by omega)))
      have hz : ((s.size : Int) % 2 == 0) = true := by simp; omega
      have hz' : ((s.size : Int) % 2 != 0) = false := by simp; omega
      have hz2 : 20000 < (s.size : Int) / 2 := by omega
      clear h0
      go_enter Tryd.func11, Tryd.ntmps11
      go_wp2_with fail
      go_ret2
      exact ⟨by rw [HR.out]; rfl, Below.refl _ _⟩
  · have HR := Lib.hid (unhT_out (s := s) (.inl h0))
    have hz : ((s.size : Int) % 2 == 0) = false := by simp; omega
    have hz' : ((s.size : Int) % 2 != 0) = true := by simp; omega
    clear h0
    by_cases h1 : s.size ≤ 40000
    all_goals
      go_enter Tryd.func11, Tryd.ntmps11
      go_wp2_with fail
      go_ret2
      exact ⟨by rw [HR.out]; rfl, Below.refl _ _⟩

end Go.Proofs.YtmnddbgblhmlbaaDoor
