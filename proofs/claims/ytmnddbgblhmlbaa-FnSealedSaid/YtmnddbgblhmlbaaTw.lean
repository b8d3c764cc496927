/- Plain laws of the differences: xor twice, a difference applied, the difference of equal texts. And DrawTwins. -/
import Derived.Test.YtmnddbgblhmlbaaGe3
import Derived.Test.YtmnddbgblhmlbaaApp
namespace Go.Proofs.Ytmnddbgblhmlbaa
open Go.RowKit

theorem drawtwins_ret {v : Value} {l : List Int} (w : World) (hd : Code8 w v l) :
    Calls Try.prog 39 #[v] w fun e w' => ∃ a b : ByteArray, e = .returned (.tuple #[.string a, .string b]) ∧ a.size ≤ 100 ∧ b.size ≤ 100 ∧ Below w.heap.size w w' := by
  go_enter Try.func39, Try.ntmps39
  go_wp2_with fail
  refine (new_ret _ hd).mono ?_
  rintro e w1 ⟨g, rfl, hc1⟩
  go_wp2_with fail
  refine (twins_ret _ hd hc1).mono ?_
  rintro e w2 ⟨a, b, rfl, ha, hb, hc2⟩
  go_wp2_with fail
  go_ret2
  exact ⟨a, b, rfl, ha, hb, hc2.bl⟩
theorem big_no (ao : Option Addr) (n cap : Nat) (w : World) (h : ¬ (1048576 : Int) < (n : Int)) :
    Calls Try.prog 16 #[.slice ao n cap] w fun e w' => e = .returned (.bool false) ∧ w = w' := by
  go_enter Try.func16, Try.ntmps16
  go_wp2
  go_ret
  exact ⟨rfl, rfl⟩

theorem xorT_at (a b : ByteArray) (j : Nat) : (xorT a b).data.toList.getD j 0 = if j < b.size then (b.data.toList.getD j 0 ^^^ a.data.toList.getD j 0) else 0 := by
  show (xorTo a b a.size).getD j 0 = _
  unfold xorTo
  by_cases hj : j < b.size
  · simp only [List.getD, List.getElem?_map, List.getElem?_range hj, Option.map_some, Option.getD_some, if_pos hj]
    by_cases ha : j < a.size
    · rw [if_pos ha]
    · rw [if_neg ha]
      have := bytes_getD' a j ha
      simp only [List.getD] at this
      rw [this]
      simp
  · rw [if_neg hj]
    simp only [List.getD]
    rw [List.getElem?_eq_none (by simp; omega)]
    rfl
theorem list_getD_ext {l r : List UInt8} (hl : l.length = r.length) (h : ∀ j, l.getD j 0 = r.getD j 0) : l = r := by
  apply List.ext_getElem hl
  intro j h1 h2
  have := h j
  simp only [List.getD, List.getElem?_eq_getElem h1, List.getElem?_eq_getElem h2, Option.getD_some] at this
  exact this
theorem xor_xor (a b : ByteArray) : xorT a (xorT a b) = b := by
  apply Go.WideShapes.bytes_inj
  apply list_getD_ext
  · rw [S_len, S_len, xorT_size, xorT_size]
  · intro j
    rw [xorT_at, xorT_size, xorT_at]
    by_cases hj : j < b.size
    · rw [if_pos hj, if_pos hj, UInt8.xor_assoc, UInt8.xor_self, UInt8.xor_zero]
    · rw [if_neg hj, bytes_getD' b j hj]
theorem xor_self_zero (a : ByteArray) : (xorT a a).data.toList = List.replicate a.size 0 := by
  apply list_getD_ext
  · rw [S_len, xorT_size]; simp
  · intro j
    rw [xorT_at]
    by_cases hj : j < a.size
    · rw [if_pos hj, UInt8.xor_self]
      simp [List.getD, hj]
    · rw [if_neg hj]
      simp [List.getD, hj]
theorem zs_rep (n : Nat) : zs (List.replicate n 0) = n := by
  unfold zs run
  have : (List.replicate n (0 : UInt8)).takeWhile isZ = List.replicate n 0 := by
    induction n with
    | zero => rfl
    | succ n ih =>
      rw [List.replicate_succ, List.takeWhile_cons_of_pos rfl, ih]
  rw [this]
  simp
theorem os_rep (n : Nat) : os (List.replicate n 0) = 0 := by
  unfold os
  rw [zs_rep, List.drop_of_length_le (by simp)]
  rfl
theorem pz_rep_len (n : Nat) : (pz (List.replicate n 0)).length ≤ (encV (n : Nat)).length + 1 := by
  by_cases h : n = 0
  · subst h
    simp [pz, pzF]
  · have hne : List.replicate n (0 : UInt8) ≠ [] := by
      intro e
      have := congrArg List.length e
      simp at this
      exact h this
    rw [pz_step hne, zs_rep, os_rep]
    have h1 : oth (List.replicate n 0) = [] := by unfold oth; rw [os_rep]; rfl
    have h2 : rst (List.replicate n 0) = [] := by unfold rst; rw [zs_rep, os_rep]; simp
    rw [h1, h2, pz_nil]
    simp only [List.append_nil, List.length_append]
    have : (encV ((0 : Nat) : Int)).length = 1 := by rfl
    omega
theorem delta_same (a : ByteArray) : (deltaT a a).size ≤ 2 * (encVar (a.size : Nat)).size + 1 := by
  unfold deltaT
  rw [ByteArray.size_append]
  have h := pz_rep_len a.size
  rw [← xor_self_zero] at h
  have e1 : (packZ (xorT a a)).size = (pz (xorT a a).data.toList).length := by
    unfold packZ
    show (pz (xorT a a).data.toList).toArray.size = _
    simp
  have e2 : (encVar (a.size : Nat)).size = (encV (a.size : Nat)).length := rfl
  omega
theorem unz_pack {x : ByteArray} (h : x.size ≤ 20000) : unzT (packZ x) = (x, true) := by
  have := unz_yes (s := packZ x) (t := x.data.toList) rfl (by rw [S_len]; exact h)
  rw [this]
theorem app_delta (a b : ByteArray) (h : b.size ≤ 20000) : appT a (deltaT a b) = (b, true) := by
  have hd : (deltaT a b).data.toList = encV (b.size : Nat) ++ (packZ (xorT a b)).data.toList := by
    unfold deltaT
    rw [ByteArray.data_append, Array.toList_append]
    rfl
  have hdec : decA (deltaT a b) 0 = ((b.size : Int), ((encV (b.size : Nat)).length : Int), true) := by
    have h0 : decA (deltaT a b) ((0 : Nat) : Int) = ((b.size : Int), ((encV (b.size : Nat)).length : Int), true) := by
      rw [decA_nat, hd, List.drop_zero]
      exact decV_enc (by omega) (by omega) _
    exact h0
  have hx : (deltaT a b).extract (encV (b.size : Nat)).length (deltaT a b).size = packZ (xorT a b) := by
    apply Go.WideShapes.bytes_inj
    have e : (deltaT a b).size = (encV (b.size : Nat)).length + (packZ (xorT a b)).size := by
      rw [← S_len, hd, List.length_append, S_len]
    rw [e, S_ext, hd, List.drop_left]
    rw [← S_len, List.take_length]
  have hs := xorT_size a b
  have hu := unz_pack (x := xorT a b) (by omega)
  rw [appT_yes hdec (by rw [hx, hu]) (by rw [hx, hu, hs]), hx, hu, xor_xor]
end Go.Proofs.Ytmnddbgblhmlbaa
