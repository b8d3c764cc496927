/- PackText, SealText, OpenText: the program's and the reference's return the same plain functions of the string. -/
import Derived.Test.YtmnddbgblhmlbaaVar
import Derived.Test.YtmnddbgblhmlbaaCk
namespace Go.Proofs.Ytmnddbgblhmlbaa
open Go.RowKit

theorem encF_len (f : Nat) (m : Int) : (encF f m).length ≤ f + 1 := by
  induction f generalizing m with
  | zero => simp [encF]
  | succ f ih => simp only [encF]; split
                 · simp
                 · have := ih (m / 128); simp; omega
theorem encV_len (n : Int) : (encV n).length ≤ 6 := by
  unfold encV; split
  · simp
  · exact encF_len 5 n
theorem encVar_size (n : Int) : (encVar n).size ≤ 6 := by
  exact encV_len n

def packT (s : ByteArray) : ByteArray := encVar s.size ++ s

set_option maxHeartbeats 400000 in
theorem pack_impl (s : ByteArray) (w : World) (hs : s.size ≤ 1099511627776) :
    Calls Try.prog 47 #[.string s] w fun e w' => e = .returned (.string (packT s)) ∧ Below w.heap.size w w' := by
  have hv := encVar_size s.size
  go_enter Try.func47, Try.ntmps47
  go_wp2_with fail
  refine (enc_impl _ _).mono ?_
  rintro e w1 ⟨rfl, hb⟩
  go_wp2_with fail
  go_ret
  exact ⟨rfl, hb⟩
set_option maxHeartbeats 400000 in
theorem pack_spec (s : ByteArray) (w : World) (hs : s.size ≤ 1099511627776) :
    Calls Try.prog 87 #[.string s] w fun e w' => e = .returned (.string (packT s)) ∧ Below w.heap.size w w' := by
  have hv := encVar_size s.size
  go_enter Try.func87, Try.ntmps87
  go_wp2_with fail
  refine (enc_spec _ _).mono ?_
  rintro e w1 ⟨rfl, hb⟩
  go_wp2_with fail
  go_ret
  exact ⟨rfl, hb⟩

/-! SealText -/
def sealHead (x : Int) : List UInt8 := [b8 (x % 256), b8 (x / 256 % 256), b8 (x / 65536 % 256), b8 (x / 16777216)]
def sealT (s : ByteArray) : ByteArray := ⟨(sealHead (cksum s)).toArray⟩ ++ s
theorem sealHead_impl (x : Int) : [b8 (x % 256), b8 (x % 65536 / 256), b8 (x / 65536 % 256), b8 (x / 65536 / 256)] = sealHead x := by
  unfold sealHead
  rw [show x % 65536 / 256 = x / 256 % 256 by omega, show x / 65536 / 256 = x / 16777216 by omega]

set_option maxHeartbeats 400000 in
theorem seal_impl (s : ByteArray) (w : World) (hs : s.size ≤ 1099511627776) :
    Calls Try.prog 40 #[.string s] w fun e w' => e = .returned (.string (sealT s)) ∧ Below w.heap.size w w' := by
  have hc := cksum_bd s
  have hm : s.size ≤ maxLen := by unfold maxLen; omega
  have HM := Lib.hid hm; clear hm
  have HE := Lib.hid (sealHead_impl (cksum s))
  have HA := lit4 w (cksum s % 256) (cksum s % 65536 / 256) (cksum s / 65536 % 256) (cksum s / 65536 / 256) (by omega) (by omega) (by omega) (by omega)
  rw [HE.out] at HA
  have hz : (⟨(sealHead (cksum s)).toArray⟩ : ByteArray).size ≤ 4 := Nat.le_refl 4
  go_enter Try.func40, Try.ntmps40
  go_wp2_with fail
  refine (ck_impl _ _ HM.out).mono ?_
  rintro e w1 ⟨rfl, rfl⟩
  go_wp2_with (with_reducible refine str_law (o := ⟨some 27, _, _, _, _, _⟩) _ rfl _ rfl HA rfl ?_)
  go_ret
  exact ⟨rfl, (Below.refl _ _).alloc (Nat.le_refl _) _⟩

/-! OpenText -/
def openB (s : ByteArray) : Bool := decide (4 ≤ s.size) && ((sealT (s.extract 4 s.size)).toList == s.toList)
def openT (s : ByteArray) : ByteArray := if openB s = true then s.extract 4 s.size else ⟨#[]⟩
theorem openB_short {s : ByteArray} (h : s.size < 4) : openB s = false := by unfold openB; rw [decide_eq_false (by omega)]; rfl
theorem openB_of {s : ByteArray} (h : ¬ s.size < 4) : openB s = ((sealT (s.extract 4 s.size)).toList == s.toList) := by unfold openB; rw [decide_eq_true (by omega)]; rfl
theorem openT_no {s : ByteArray} (h : openB s = false) : openT s = ⟨#[]⟩ := by unfold openT; rw [h]; rfl
theorem openT_yes {s : ByteArray} (h : openB s = true) : openT s = s.extract 4 s.size := by unfold openT; rw [h]; rfl
theorem extract_le (s : ByteArray) (a b : Nat) : (s.extract a b).size ≤ s.size := by rw [ByteArray.size_extract]; omega

set_option maxHeartbeats 400000 in
theorem open_impl (s : ByteArray) (w : World) (hs : s.size ≤ 1099511627776) :
    Calls Try.prog 41 #[.string s] w fun e w' => e = .returned (.tuple #[.string (openT s), .bool (openB s)]) ∧ Below w.heap.size w w' := by
  have hx := extract_le s 4 s.size
  by_cases h : s.size < 4
  · have H1 := Lib.hid (openB_short h)
    have H2 := Lib.hid (openT_no (openB_short h))
    go_enter Try.func41, Try.ntmps41
    go_wp2_with fail
    go_ret2
    exact ⟨by rw [H1.out, H2.out]; rfl, Below.refl _ _⟩
  · by_cases h5 : ((sealT (s.extract 4 s.size)).toList == s.toList) = true
    · have H1 := Lib.hid ((openB_of h).trans h5)
      have H2 := Lib.hid (openT_yes ((openB_of h).trans h5))
      go_enter Try.func41, Try.ntmps41
      go_wp2_with fail
      refine (seal_impl _ _ (by omega)).mono ?_
      rintro e w1 ⟨rfl, hb⟩
      go_wp2_with fail
      go_ret2
      exact ⟨by rw [H1.out, H2.out]; rfl, hb⟩
    · have h5' : ((sealT (s.extract 4 s.size)).toList == s.toList) = false := by simpa using h5
      clear h5
      have H1 := Lib.hid ((openB_of h).trans h5')
      have H2 := Lib.hid (openT_no ((openB_of h).trans h5'))
      go_enter Try.func41, Try.ntmps41
      go_wp2_with fail
      refine (seal_impl _ _ (by omega)).mono ?_
      rintro e w1 ⟨rfl, hb⟩
      go_wp2_with fail
      go_ret2
      exact ⟨by rw [H1.out, H2.out]; rfl, hb⟩

end Go.Proofs.Ytmnddbgblhmlbaa
