/- ApplyDelta: the program's and the reference's return the same plain function of the two strings. -/
import Derived.Test.YtmnddbgblhmlbaaUnz
namespace Go.Proofs.Ytmnddbgblhmlbaa
open Go.RowKit

theorem unz_size (s : ByteArray) : (unzT s).1.size ≤ 20000 := by
  unfold unzT
  split
  · rename_i h
    have := h.choose_spec.2
    show h.choose.toArray.size ≤ 20000
    simpa using this
  · exact Nat.zero_le _
noncomputable def appT (a d : ByteArray) : ByteArray × Bool :=
  if (decA d 0).2.2 = true ∧ (unzT (d.extract (decA d 0).2.1.toNat d.size)).2 = true ∧ ((unzT (d.extract (decA d 0).2.1.toNat d.size)).1.size : Int) = (decA d 0).1 then (xorT a (unzT (d.extract (decA d 0).2.1.toNat d.size)).1, true) else (⟨#[]⟩, false)
theorem appT_no {a d : ByteArray} (h : decA d 0 = (0, 0, false)) : appT a d = (⟨#[]⟩, false) := by
  unfold appT; rw [h]; exact if_neg (fun h => by cases h.1)
theorem appT_bad {a d : ByteArray} {n k : Nat} (h : decA d 0 = ((n : Int), (k : Int), true)) (hb : (unzT (d.extract k d.size)).2 = false ∨ ((unzT (d.extract k d.size)).1.size : Int) ≠ n) : appT a d = (⟨#[]⟩, false) := by
  unfold appT; rw [h]
  refine if_neg (fun ⟨_, h1, h2⟩ => ?_)
  simp only [Int.toNat_natCast] at h1 h2
  rcases hb with hb | hb
  · rw [hb] at h1; cases h1
  · exact hb h2
theorem appT_yes {a d : ByteArray} {n k : Nat} (h : decA d 0 = ((n : Int), (k : Int), true)) (h1 : (unzT (d.extract k d.size)).2 = true) (h2 : ((unzT (d.extract k d.size)).1.size : Int) = n) : appT a d = (xorT a (unzT (d.extract k d.size)).1, true) := by
  unfold appT; rw [h]
  exact if_pos ⟨rfl, by simpa using h1, by simpa using h2⟩

set_option maxHeartbeats 2000000 in
theorem app_impl (a d : ByteArray) (w : World) (ha : a.size ≤ 1099511627775) (hd : d.size ≤ 1099511627775) :
    Calls Try.prog 58 #[.string a, .string d] w fun e w' => e = .returned (.tuple #[.string (appT a d).1, .bool (appT a d).2]) ∧ Below w.heap.size w w' := by
  have hd' : d.size ≤ 1099511627776 := by omega
  rcases decA_cases d 0 with h | ⟨q, n, k, hq, h, h1, h2, h3, h4, _⟩
  · have HN := Lib.hid (appT_no (a := a) h)
    have HD := Lib.hid h; clear h
    go_enter Try.func58, Try.ntmps58
    go_wp2_with fail
    refine (decv_impl_at _ hd' HD.out).mono ?_
    rintro e w1 ⟨rfl, rfl⟩
    go_wp2_with fail
    go_ret2
    exact ⟨by rw [HN.out]; rfl, Below.refl _ _⟩
  · obtain rfl : q = 0 := by omega
    clear hq
    have hx := extract_le d k d.size
    have HXS := Lib.hid (show (d.extract k d.size).size ≤ 1099511627775 by omega)
    have HZ := unz_size (d.extract k d.size)
    have HU : ∀ wx : World, Calls Try.prog 56 #[.string (d.extract k d.size)] wx fun e w' => e = .returned (.tuple #[.string (unzT (d.extract k d.size)).1, .bool (unzT (d.extract k d.size)).2]) ∧ Below wx.heap.size wx w' := fun wx => unz_impl _ wx HXS.out
    have HBad := fun hb => appT_bad (a := a) h hb
    have HYes := fun h1 h2 => appT_yes (a := a) h h1 h2
    have HD := Lib.hid h; clear h hx
    have HA := Lib.hid (show a.size ≤ maxLen by unfold maxLen; omega)
    obtain ⟨T, hT⟩ : ∃ T, T = (unzT (d.extract k d.size)).1 := ⟨_, rfl⟩
    obtain ⟨b, hb⟩ : ∃ b, b = (unzT (d.extract k d.size)).2 := ⟨_, rfl⟩
    rw [← hT] at HZ HBad HYes
    rw [← hb] at HBad HYes
    replace HU : ∀ wx : World, Calls Try.prog 56 #[.string (d.extract k d.size)] wx fun e w' => e = .returned (.tuple #[.string T, .bool b]) ∧ Below wx.heap.size wx w' := fun wx => by rw [hT, hb]; exact HU wx
    clear hT hb
    have HTM := Lib.hid (show T.size ≤ maxLen by unfold maxLen; omega)
    cases b with
    | false =>
      have HN := Lib.hid (HBad (.inl rfl))
      clear HBad HYes
      go_enter Try.func58, Try.ntmps58
      go_wp2_with fail
      refine (decv_impl_at _ hd' HD.out).mono ?_
      rintro e w1 ⟨rfl, rfl⟩
      go_wp2_with fail
      refine (HU _).mono ?_
      rintro e w2 ⟨rfl, hb2⟩
      have hbl := hb2
      go_wp2_with fail
      go_ret2
      exact ⟨by rw [HN.out]; rfl, hbl⟩
    | true =>
      by_cases he : (T.size : Int) = n
      · have HN := Lib.hid (HYes rfl he)
        clear HBad HYes
        go_enter Try.func58, Try.ntmps58
        go_wp2_with fail
        refine (decv_impl_at _ hd' HD.out).mono ?_
        rintro e w1 ⟨rfl, rfl⟩
        go_wp2_with fail
        refine (HU _).mono ?_
        rintro e w2 ⟨rfl, hb2⟩
        have hbl := hb2
        go_wp2_with fail
        refine (xor_impl _ _ _ HA.out HTM.out).mono ?_
        rintro e w3 ⟨rfl, hb3⟩
        go_wp2_with fail
        go_ret2
        exact ⟨by rw [HN.out]; rfl, hbl.trans (hb3.mono hbl.size)⟩
      · have HN := Lib.hid (HBad (.inr he))
        clear HBad HYes
        have hb' : ((T.size : Int) == (n : Int)) = false := beq_eq_false_iff_ne.2 he
        go_enter Try.func58, Try.ntmps58
        go_wp2_with fail
        refine (decv_impl_at _ hd' HD.out).mono ?_
        rintro e w1 ⟨rfl, rfl⟩
        go_wp2_with fail
        refine (HU _).mono ?_
        rintro e w2 ⟨rfl, hb2⟩
        have hbl := hb2
        go_wp2_with fail
        go_ret2
        exact ⟨by rw [HN.out]; rfl, hbl⟩

set_option maxHeartbeats 2000000 in
theorem app_spec (a d : ByteArray) (w : World) (ha : a.size ≤ 1099511627775) (hd : d.size ≤ 1099511627775) :
    Calls Try.prog 61 #[.string a, .string d] w fun e w' => e = .returned (.tuple #[.string (appT a d).1, .bool (appT a d).2]) ∧ Below w.heap.size w w' := by
  have hd' : d.size ≤ 1099511627776 := by omega
  rcases decA_cases d 0 with h | ⟨q, n, k, hq, h, h1, h2, h3, h4, _⟩
  · have HN := Lib.hid (appT_no (a := a) h)
    have HD := Lib.hid h; clear h
    go_enter Try.func61, Try.ntmps61
    go_wp2_with fail
    refine (decv_spec_at _ hd' HD.out).mono ?_
    rintro e w1 ⟨rfl, hb1⟩
    go_wp2_with fail
    go_ret2
    exact ⟨by rw [HN.out]; rfl, hb1⟩
  · obtain rfl : q = 0 := by omega
    clear hq
    have hx := extract_le d k d.size
    have HXS := Lib.hid (show (d.extract k d.size).size ≤ 1099511627775 by omega)
    have HZ := unz_size (d.extract k d.size)
    have HU : ∀ wx : World, Calls Try.prog 55 #[.string (d.extract k d.size)] wx fun e w' => e = .returned (.tuple #[.string (unzT (d.extract k d.size)).1, .bool (unzT (d.extract k d.size)).2]) ∧ Below wx.heap.size wx w' := fun wx => unz_spec _ wx HXS.out
    have HBad := fun hb => appT_bad (a := a) h hb
    have HYes := fun h1 h2 => appT_yes (a := a) h h1 h2
    have HD := Lib.hid h; clear h hx
    have HA := Lib.hid (show a.size ≤ maxLen by unfold maxLen; omega)
    obtain ⟨T, hT⟩ : ∃ T, T = (unzT (d.extract k d.size)).1 := ⟨_, rfl⟩
    obtain ⟨b, hb⟩ : ∃ b, b = (unzT (d.extract k d.size)).2 := ⟨_, rfl⟩
    rw [← hT] at HZ HBad HYes
    rw [← hb] at HBad HYes
    replace HU : ∀ wx : World, Calls Try.prog 55 #[.string (d.extract k d.size)] wx fun e w' => e = .returned (.tuple #[.string T, .bool b]) ∧ Below wx.heap.size wx w' := fun wx => by rw [hT, hb]; exact HU wx
    clear hT hb
    have HTM := Lib.hid (show T.size ≤ maxLen by unfold maxLen; omega)
    cases b with
    | false =>
      have HN := Lib.hid (HBad (.inl rfl))
      clear HBad HYes
      go_enter Try.func61, Try.ntmps61
      go_wp2_with fail
      refine (decv_spec_at _ hd' HD.out).mono ?_
      rintro e w1 ⟨rfl, hb1⟩
      go_wp2_with fail
      refine (HU _).mono ?_
      rintro e w2 ⟨rfl, hb2⟩
      have hbl := hb1.trans (hb2.mono hb1.size)
      go_wp2_with fail
      go_ret2
      exact ⟨by rw [HN.out]; rfl, hbl⟩
    | true =>
      by_cases he : (T.size : Int) = n
      · have HN := Lib.hid (HYes rfl he)
        clear HBad HYes
        go_enter Try.func61, Try.ntmps61
        go_wp2_with fail
        refine (decv_spec_at _ hd' HD.out).mono ?_
        rintro e w1 ⟨rfl, hb1⟩
        go_wp2_with fail
        refine (HU _).mono ?_
        rintro e w2 ⟨rfl, hb2⟩
        have hbl := hb1.trans (hb2.mono hb1.size)
        go_wp2_with fail
        refine (xor_spec _ _ _ HA.out HTM.out).mono ?_
        rintro e w3 ⟨rfl, hb3⟩
        go_wp2_with fail
        go_ret2
        exact ⟨by rw [HN.out]; rfl, hbl.trans (hb3.mono hbl.size)⟩
      · have HN := Lib.hid (HBad (.inr he))
        clear HBad HYes
        have hb' : ((T.size : Int) == (n : Int)) = false := beq_eq_false_iff_ne.2 he
        go_enter Try.func61, Try.ntmps61
        go_wp2_with fail
        refine (decv_spec_at _ hd' HD.out).mono ?_
        rintro e w1 ⟨rfl, hb1⟩
        go_wp2_with fail
        refine (HU _).mono ?_
        rintro e w2 ⟨rfl, hb2⟩
        have hbl := hb1.trans (hb2.mono hb1.size)
        go_wp2_with fail
        go_ret2
        exact ⟨by rw [HN.out]; rfl, hbl⟩
end Go.Proofs.Ytmnddbgblhmlbaa
