/- Plain laws of sealed texts: what was sealed opens; with one byte changed it does not. -/
import Derived.Test.YtmnddbgblhmlbaaTw
namespace Go.Proofs.Ytmnddbgblhmlbaa
open Go.RowKit

theorem sealT_list (a : ByteArray) : (sealT a).data.toList = sealHead (cksum a) ++ a.data.toList := by
  unfold sealT
  rw [ByteArray.data_append, Array.toList_append]
theorem sealHead_len (x : Int) : (sealHead x).length = 4 := rfl
theorem sealT_size (a : ByteArray) : (sealT a).size = a.size + 4 := by
  rw [← S_len, sealT_list, List.length_append, sealHead_len, S_len]; omega
theorem seal_body (a : ByteArray) : (sealT a).extract 4 (sealT a).size = a := by
  apply Go.WideShapes.bytes_inj
  rw [sealT_size, Nat.add_comm, S_ext, sealT_list]
  have : (sealHead (cksum a) ++ a.data.toList).drop 4 = a.data.toList := by
    have := List.drop_left (l₁ := sealHead (cksum a)) (l₂ := a.data.toList)
    rwa [sealHead_len] at this
  rw [this, ← S_len, List.take_length]
theorem seal_opens (a : ByteArray) : openB (sealT a) = true ∧ openT (sealT a) = a := by
  have h : openB (sealT a) = true := by
    rw [openB_of (by rw [sealT_size]; omega), seal_body]
    exact beq_self_eq_true _
  exact ⟨h, by rw [openT_yes h, seal_body]⟩
/-- a string with one byte turned -/
def tam (s : ByteArray) (k : Nat) (y : UInt8) : ByteArray := (s.extract 0 k ++ ⟨#[y]⟩) ++ s.extract (k + 1) s.size
theorem tam_list {s : ByteArray} {k : Nat} {y : UInt8} (h : k < s.size) : (tam s k y).data.toList = s.data.toList.set k y := by
  have h' : k < s.data.toList.length := by rw [S_len]; exact h
  unfold tam
  rw [ByteArray.data_append, Array.toList_append, ByteArray.data_append, Array.toList_append, Lib.extract_data, Lib.extract_data]
  rw [List.set_eq_take_append_cons_drop, if_pos h', Nat.sub_zero, List.drop_zero]
  have e : (s.data.toList.drop (k + 1)).take (s.size - (k + 1)) = s.data.toList.drop (k + 1) := by
    apply List.take_of_length_le
    rw [List.length_drop, S_len]
    exact Nat.le_refl _
  rw [e]
  simp
theorem tam_size {s : ByteArray} {k : Nat} {y : UInt8} (h : k < s.size) : (tam s k y).size = s.size := by
  rw [← S_len, tam_list h, List.length_set, S_len]
theorem byteAt_list (s : ByteArray) (j : Nat) : byteAt s j = ((s.data.toList.getD j 0).toNat : Int) := by
  by_cases h : j < s.size
  · rw [byteAt_eq h, bytes_getD s j h]
  · rw [bytes_getD' s j h]
    unfold byteAt
    rw [dif_neg h]
    rfl
theorem ck_diff {a a' : ByteArray} {p : Nat} (h : ∀ j, j ≠ p → byteAt a' j = byteAt a j) : ∀ n, (n ≤ p → ckA a' n = ckA a n) ∧ (p < n → (ckA a' n - ckA a n - (byteAt a' p - byteAt a p)) % 65521 = 0)
  | 0 => ⟨fun _ => rfl, fun h => by omega⟩
  | n + 1 => by
    obtain ⟨h1, h2⟩ := ck_diff h n
    simp only [ckA]
    refine ⟨fun hn => by rw [h1 (by omega), h n (by omega)], fun hn => ?_⟩
    by_cases e : n = p
    · subst e
      rw [h1 (Nat.le_refl _)]
      omega
    · have := h2 (by omega)
      rw [h n e]
      omega
theorem ck_other {a a' : ByteArray} {p : Nat} {y : UInt8} (hp : p < a.size) (hl : a'.data.toList = a.data.toList.set p y) (hy : y ≠ a[p]'hp) : ckA a' a'.size ≠ ckA a a.size := by
  have hsz : a'.size = a.size := by rw [← S_len, hl, List.length_set, S_len]
  have hp' : p < a.data.toList.length := by rw [S_len]; exact hp
  have hd := ck_diff (a := a) (a' := a') (p := p) (fun j hj => by
    rw [byteAt_list, byteAt_list, hl]
    simp only [List.getD]
    rw [List.getElem?_set_ne (Ne.symm hj)]) a.size
  have hb : byteAt a' p = (y.toNat : Int) := by
    rw [byteAt_list, hl]
    simp only [List.getD]
    rw [List.getElem?_set_self hp']
    rfl
  have hb2 := byteAt_eq hp
  have hne : y.toNat ≠ (a[p]'hp).toNat := fun e => hy (UInt8.toNat_inj.1 e)
  have h3 := hd.2 hp
  rw [hsz]
  intro e
  rw [e, hb, hb2] at h3
  have := y.toNat_lt
  have := (a[p]'hp).toNat_lt
  omega
theorem head_inj {x y : Int} (h : sealHead x = sealHead y) : x % 65536 = y % 65536 := by
  unfold sealHead at h
  simp only [List.cons.injEq] at h
  obtain ⟨e1, e2, _⟩ := h
  have f1 := congrArg UInt8.toNat e1
  have f2 := congrArg UInt8.toNat e2
  have g1 := b8_nat (n := x % 256) (by omega) (by omega)
  have g2 := b8_nat (n := y % 256) (by omega) (by omega)
  have g3 := b8_nat (n := x / 256 % 256) (by omega) (by omega)
  have g4 := b8_nat (n := y / 256 % 256) (by omega) (by omega)
  omega
theorem ck_low (a : ByteArray) : cksum a % 65536 = ckA a a.size := by
  have := ckA_bd a a.size
  unfold cksum
  omega
theorem tam_bad {a : ByteArray} {k : Nat} {y : UInt8} (hk : k < (sealT a).size) (hy : y ≠ (sealT a)[k]'hk) : openB (tam (sealT a) k y) = false := by
  have hts := tam_size (y := y) hk
  have hss := sealT_size a
  have hkl : k < (sealT a).data.toList.length := by rw [S_len]; exact hk
  rw [openB_of (by rw [hts, hss]; omega), beq_eq_false_iff_ne, Lib.toList_data, Lib.toList_data]
  intro e
  have hL := sealT_list a
  have hget : (sealT a).data.toList[k]'hkl = (sealT a)[k]'hk := rfl
  have hb : ((tam (sealT a) k y).extract 4 (tam (sealT a) k y).size).data.toList = (((sealT a).data.toList.set k y).drop 4) := by
    rw [hts, hss, Nat.add_comm, S_ext, tam_list hk]
    apply List.take_of_length_le
    rw [List.length_drop, List.length_set, S_len, hss]
    omega
  rw [sealT_list, hb, tam_list hk] at e
  have hlen : (sealHead (cksum ((tam (sealT a) k y).extract 4 (tam (sealT a) k y).size))).length = 4 := sealHead_len _
  have hh : sealHead (cksum ((tam (sealT a) k y).extract 4 (tam (sealT a) k y).size)) = ((sealT a).data.toList.set k y).take 4 := by
    have := congrArg (List.take 4) e
    rw [List.take_append_of_le_length (by rw [hlen]; exact Nat.le_refl _), List.take_of_length_le (by rw [hlen]; exact Nat.le_refl _)] at this
    exact this
  by_cases h4 : k < 4
  · have hbody : (tam (sealT a) k y).extract 4 (tam (sealT a) k y).size = a := by
      apply Go.WideShapes.bytes_inj
      rw [hb, hL, List.drop_set_of_lt h4]
      have := List.drop_left (l₁ := sealHead (cksum a)) (l₂ := a.data.toList)
      rwa [sealHead_len] at this
    rw [hbody] at hh
    have h5 := congrArg (fun l => l[k]?) hh
    rw [List.getElem?_take, if_pos h4, List.getElem?_set_self hkl] at h5
    have h6 : (sealT a).data.toList[k]? = (sealHead (cksum a))[k]? := by
      rw [hL, List.getElem?_append_left (by rw [sealHead_len]; exact h4)]
    rw [← h6, List.getElem?_eq_getElem hkl, hget] at h5
    exact hy (Option.some.inj h5).symm
  · obtain ⟨p, rfl⟩ : ∃ p, k = p + 4 := ⟨k - 4, by omega⟩
    have hp : p < a.size := by omega
    obtain ⟨a', ha'⟩ : ∃ a', a' = (tam (sealT a) (p + 4) y).extract 4 (tam (sealT a) (p + 4) y).size := ⟨_, rfl⟩
    rw [← ha'] at hh hb
    have hal : a'.data.toList = a.data.toList.set p y := by
      rw [hb, hL, List.set_append_right _ _ (by rw [sealHead_len]; omega), sealHead_len]
      have := List.drop_left (l₁ := sealHead (cksum a)) (l₂ := a.data.toList.set (p + 4 - 4) y)
      rw [sealHead_len] at this
      rw [this, Nat.add_sub_cancel]
    have hya : y ≠ a[p]'hp := by
      intro e3
      apply hy
      rw [e3]
      have h7 : (sealT a).data.toList[p + 4]? = a.data.toList[p]? := by
        rw [hL, List.getElem?_append_right (by rw [sealHead_len]; omega), sealHead_len, Nat.add_sub_cancel]
      rw [List.getElem?_eq_getElem hkl, hget, List.getElem?_eq_getElem (by rw [S_len]; exact hp)] at h7
      exact (Option.some.inj h7).symm
    have hne := ck_other hp hal hya
    have h8 : sealHead (cksum a') = sealHead (cksum a) := by
      rw [hh, hL, List.set_append_right _ _ (by rw [sealHead_len]; omega)]
      exact List.take_left' (sealHead_len _)
    have h9 := head_inj h8
    rw [ck_low, ck_low] at h9
    exact hne h9
theorem tam_ne {s : ByteArray} {k : Nat} {y : UInt8} (hk : k < s.size) (hy : y ≠ s[k]'hk) : tam s k y ≠ s := by
  intro e
  have hkl : k < s.data.toList.length := by rw [S_len]; exact hk
  have h := tam_list (y := y) hk
  rw [e] at h
  have h5 := congrArg (fun l => l[k]?) h
  rw [List.getElem?_set_self hkl, List.getElem?_eq_getElem hkl] at h5
  exact hy (Option.some.inj h5).symm
end Go.Proofs.Ytmnddbgblhmlbaa
