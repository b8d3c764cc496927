/- Walls: solid, l02Solid, SolidAt. -/
import Derived.Test.YtiopbdodegopdaaDoorLev
import Derived.Test.YtiopbdodegopdaaDoorLvLaw
namespace Go.Proofs.YtiopbdodegopdaaDoor
open Go.RowKit

theorem bad_row {l : List ByteArray} {r c : Nat} (h : l.length ≤ r) : bad l r c = true := by unfold bad; rw [decide_eq_true h]; rfl
theorem bad_col {l : List ByteArray} {r c : Nat} (h : (rowAt l r).size ≤ c) : bad l r c = true := by unfold bad; rw [decide_eq_true h]; simp
theorem bad_wall {l : List ByteArray} {r c : Nat} (h : byteAt (rowAt l r) c = 35) : bad l r c = true := by unfold bad; rw [decide_eq_true h]; simp
theorem bad_ok {l : List ByteArray} {r c : Nat} (h1 : r < l.length) (h2 : c < (rowAt l r).size) (h3 : byteAt (rowAt l r) c ≠ 35) : bad l r c = false := by
  unfold bad; rw [decide_eq_false (show ¬ l.length ≤ r by omega), decide_eq_false (show ¬ (rowAt l r).size ≤ c by omega), decide_eq_false h3]; rfl
theorem span_nat {x s : Nat} (h : 1 ≤ s) : spanN (x : Int) (s : Int) = (x + s - 1) / 16 - x / 16 + 1 := by unfold spanN; omega
theorem solT_nat {l : List ByteArray} {x y s : Nat} (hs : 1 ≤ s) (hx : x ≤ 1000) (hy : y ≤ 1000) : solT l (x : Int) (y : Int) (s : Int) = solR l (x / 16) ((x + s - 1) / 16 - x / 16 + 1) ((y + s - 1) / 16 - y / 16 + 1 - 0) (y / 16 + 0) := by
  rw [solT_in (by omega) (by omega) (by omega) (by omega), span_nat hs, span_nat hs, show ((x : Int) / 16).toNat = x / 16 by omega, show ((y : Int) / 16).toNat = y / 16 by omega]
  rfl
theorem solR_more {l : List ByteArray} {c nc n i r0 : Nat} (h : solC l (r0 + i) nc c = false) (hi : i < n) : solR l c nc (n - i) (r0 + i) = solR l c nc (n - (i + 1)) (r0 + (i + 1)) := by
  obtain ⟨m, hm⟩ : ∃ m, n - i = m + 1 := ⟨n - i - 1, by omega⟩
  rw [hm, solR_ok h, show n - (i + 1) = m by omega]
  rfl
theorem solR_hit {l : List ByteArray} {c nc n i r0 : Nat} (h : solC l (r0 + i) nc c = true) (hi : i < n) : solR l c nc (n - i) (r0 + i) = true := by
  obtain ⟨m, hm⟩ : ∃ m, n - i = m + 1 := ⟨n - i - 1, by omega⟩
  rw [hm, solR_bad h]
theorem solC_more {l : List ByteArray} {r n i c0 : Nat} (h : bad l r (c0 + i) = false) (hi : i < n) : solC l r (n - i) (c0 + i) = solC l r (n - (i + 1)) (c0 + (i + 1)) := by
  obtain ⟨m, hm⟩ : ∃ m, n - i = m + 1 := ⟨n - i - 1, by omega⟩
  rw [hm, solC_ok h, show n - (i + 1) = m by omega]
  rfl
theorem solC_hit {l : List ByteArray} {r n i c0 : Nat} (h : bad l r (c0 + i) = true) (hi : i < n) : solC l r (n - i) (c0 + i) = true := by
  obtain ⟨m, hm⟩ : ∃ m, n - i = m + 1 := ⟨n - i - 1, by omega⟩
  rw [hm, solC_bad h]
theorem solC_done {l : List ByteArray} {r n c : Nat} : solC l r (n - n) c = false := by rw [Nat.sub_self]; rfl
theorem solR_done {l : List ByteArray} {c nc n r : Nat} : solR l c nc (n - n) r = false := by rw [Nat.sub_self]; rfl

set_option maxRecDepth 100000 in
set_option maxHeartbeats 8000000 in
theorem solid_impl {u : Value} {l : List ByteArray} (x y size : Int) (w : World) (h : At w 1 u l.length (l.map Value.string)) (hv : lvT l = true) (hs1 : 1 ≤ size) (hs2 : size ≤ 16) (hx1 : -9223372036854775808 ≤ x) (hx2 : x ≤ 9223372036854775807) (hy1 : -9223372036854775808 ≤ y) (hy2 : y ≤ 9223372036854775807) :
    Calls Tryd.prog 40 #[.agg #[u], .int .i64 x, .int .i64 y, .int .i64 size] w fun e w' => e = .returned (.bool (solT l x y size)) ∧ Below w.heap.size w w' := by
  have hl := lvT_lv hv
  obtain ⟨W, hW⟩ : ∃ W, (rowAt l 0).size = W := ⟨_, rfl⟩
  rw [hW] at hl
  have n3 := hl.n3
  have n12 := hl.n12
  have w4 := hl.w4
  have w20 := hl.w20
  obtain ⟨ao, cap, rfl, hc⟩ := h.cellS
  obtain ⟨g, off, rfl, hg, hcell⟩ := hc (by omega)
  clear hc
  have hrow : ∀ r, r < l.length → w.cell? ⟨g, off + r, none⟩ = some (.string (rowAt l r)) := fun r hr => by rw [rowAt_eq hr]; exact hcell r hr
  obtain ⟨row0, hrow0⟩ : ∃ x, rowAt l 0 = x := ⟨_, rfl⟩
  have c00 : w.cell? ⟨g, off, none⟩ = some (.string row0) := by rw [← hrow0]; exact hrow 0 (by omega)
  rw [hrow0] at hW
  have HR := Lib.hid hrow; clear hrow hcell hrow0
  have hb1 : ∀ A : Obj, Below w.heap.size w (w.alloc A) := fun A => (Below.refl _ _).alloc (Nat.le_refl _) _
  by_cases hout : x < 0 ∨ y < 0 ∨ 16 * (W : Int) - size < x ∨ 16 * (l.length : Int) - size < y
  · have HN := Lib.hid (solT_out hl hs1 hs2 hout)
    have hz1 : (row0.size : Int) ≤ 20 := by omega
    have hz2 : 4 ≤ (row0.size : Int) := by omega
    have hout2 : x < 0 ∨ (0 ≤ x ∧ y < 0) ∨ (0 ≤ x ∧ 0 ≤ y ∧ (row0.size : Int) * 16 - size < x) ∨ (0 ≤ x ∧ 0 ≤ y ∧ x ≤ (row0.size : Int) * 16 - size ∧ (l.length : Int) * 16 - size < y) := by omega
    clear hout hW
    rcases hout2 with h1 | ⟨h1, h2⟩ | ⟨h1, h2, h3⟩ | ⟨h1, h2, h3, h4⟩
    all_goals
      go_enter Tryd.func40, Tryd.ntmps40
      go_wp2_with fail
      go_ret
      exact ⟨ret_bool (by rw [HN.out]), hb1 _⟩
  obtain ⟨xn, rfl⟩ := Int.eq_ofNat_of_zero_le (show 0 ≤ x by omega)
  obtain ⟨yn, rfl⟩ := Int.eq_ofNat_of_zero_le (show 0 ≤ y by omega)
  obtain ⟨sn, rfl⟩ := Int.eq_ofNat_of_zero_le (show 0 ≤ size by omega)
  have HS := Lib.hid (solT_nat (l := l) (x := xn) (y := yn) (s := sn) (by omega) (by omega) (by omega))
  have hin1 : (xn : Int) ≤ (row0.size : Int) * 16 - (sn : Int) := by omega
  have hin2 : (yn : Int) ≤ (l.length : Int) * 16 - (sn : Int) := by omega
  have hz1 : (row0.size : Int) ≤ 20 := by omega
  have hx16 : xn + sn ≤ 16 * W := by omega
  have HL := Lib.hid hl
  clear hout hW hl
  go_enter Tryd.func40, Tryd.ntmps40
  go_wp2_with fail
  generalize hw1 : w.alloc _ = w1
  have hbl : Below w.heap.size w w1 := by rw [← hw1]; exact hb1 _
  have c1 : w1.cell? ⟨w.heap.size, 0, none⟩ = some (.slice (some ⟨g, off, none⟩) l.length cap) := by rw [← hw1]; exact World.cell?_alloc_new _ _ _ 0
  clear hw1 hb1 c00
  go_loop [11] (fun r => ∃ i : Nat, i ≤ (yn + sn - 1) / 16 - yn / 16 + 1 ∧ r = .int .i64 ((yn / 16 + i : Nat) : Int) ∧ Hid (solT l (xn : Int) (yn : Int) (sn : Int) = solR l (xn / 16) ((xn + sn - 1) / 16 - xn / 16 + 1) ((yn + sn - 1) / 16 - yn / 16 + 1 - i) (yn / 16 + i))) (fun r => 60 - (intOf r).toNat)
  case atStart => exact ⟨0, Nat.zero_le _, by go_num, HS⟩
  case round =>
    clear HS
    obtain ⟨i, hi, rfl, HS⟩ := hrel
    by_cases hi1 : ¬ i < (yn + sn - 1) / 16 - yn / 16 + 1
    · have HN : Hid (solT l (xn : Int) (yn : Int) (sn : Int) = false) := Lib.hid (HS.out.trans (by rw [show i = (yn + sn - 1) / 16 - yn / 16 + 1 by omega]; exact solR_done))
      have ht : ¬ (((yn / 16 + i : Nat) : Int) ≤ ((yn : Int) + (sn : Int) - 1) / 16) := by omega
      go_wp2_with fail
      go_ret
      exact ⟨ret_bool (by rw [HN.out]), hbl⟩
    have hi2 : i < (yn + sn - 1) / 16 - yn / 16 + 1 := by omega
    have ht : (((yn / 16 + i : Nat) : Int) ≤ ((yn : Int) + (sn : Int) - 1) / 16) := by omega
    clear hi1
    obtain ⟨r, hr⟩ : ∃ r, r = yn / 16 + i := ⟨_, rfl⟩
    have hrl : r < l.length := by omega
    have hr60 : r < 60 := by omega
    rw [← hr] at ht HS
    rw [← hr]
    have HRI := Lib.hid hr; clear hr
    go_wp2_with fail
    go_loop [12] (fun c => ∃ j : Nat, j ≤ (xn + sn - 1) / 16 - xn / 16 + 1 ∧ c = .int .i64 ((xn / 16 + j : Nat) : Int) ∧ Hid (solC l r ((xn + sn - 1) / 16 - xn / 16 + 1) (xn / 16) = solC l r ((xn + sn - 1) / 16 - xn / 16 + 1 - j) (xn / 16 + j))) (fun c => 60 - (intOf c).toNat)
    case atStart => exact ⟨0, Nat.zero_le _, by go_num, Lib.hid rfl⟩
    case round =>
      obtain ⟨j, hj, rfl, HC⟩ := hrel
      by_cases hj1 : ¬ j < (xn + sn - 1) / 16 - xn / 16 + 1
      · have HF : solC l r ((xn + sn - 1) / 16 - xn / 16 + 1) (xn / 16) = false := HC.out.trans (by rw [show j = (xn + sn - 1) / 16 - xn / 16 + 1 by omega]; exact solC_done)
        have HN : Hid (solT l (xn : Int) (yn : Int) (sn : Int) = solR l (xn / 16) ((xn + sn - 1) / 16 - xn / 16 + 1) ((yn + sn - 1) / 16 - yn / 16 + 1 - (i + 1)) (yn / 16 + (i + 1))) := Lib.hid (HS.out.trans (by rw [HRI.out]; exact solR_more (by rw [← HRI.out]; exact HF) hi2))
        have ht2 : ¬ (((xn / 16 + j : Nat) : Int) ≤ ((xn : Int) + (sn : Int) - 1) / 16) := by omega
        clear HF
        go_wp2_with fail
        go_round
        case rel => exact ⟨i + 1, by omega, by rw [HRI.out]; go_num, HN⟩
        case measure => simp [intOf]; omega
      have hj2 : j < (xn + sn - 1) / 16 - xn / 16 + 1 := by omega
      have ht2 : (((xn / 16 + j : Nat) : Int) ≤ ((xn : Int) + (sn : Int) - 1) / 16) := by omega
      clear hj1
      obtain ⟨c, hc⟩ : ∃ c, c = xn / 16 + j := ⟨_, rfl⟩
      have hcW : c < W := by omega
      have hc60 : c < 60 := by omega
      rw [← hc] at ht2 HC
      rw [← hc]
      have HCI := Lib.hid hc; clear hc
      have cr : w1.cell? ⟨g, off + r, none⟩ = some (.string (rowAt l r)) := (hbl.cell hg).trans (HR.out r hrl)
      have hcz : c < (rowAt l r).size := by rw [HL.out.rows r hrl]; exact hcW
      have HB := Lib.hid (byteAt_eq hcz)
      by_cases h35 : (((rowAt l r)[c]'hcz).toNat : Int) = 35
      · have HH : solC l r ((xn + sn - 1) / 16 - xn / 16 + 1) (xn / 16) = true := HC.out.trans (by rw [HCI.out]; exact solC_hit (by rw [← HCI.out]; exact bad_wall (by rw [HB.out]; exact h35)) hj2)
        have HN : Hid (solT l (xn : Int) (yn : Int) (sn : Int) = true) := Lib.hid (HS.out.trans (by rw [HRI.out]; exact solR_hit (by rw [← HRI.out]; exact HH) hi2))
        clear HH
        go_wp2_with fail
        go_ret
        exact ⟨ret_bool (by rw [HN.out]), hbl⟩
      · have HN : Hid (solC l r ((xn + sn - 1) / 16 - xn / 16 + 1) (xn / 16) = solC l r ((xn + sn - 1) / 16 - xn / 16 + 1 - (j + 1)) (xn / 16 + (j + 1))) := Lib.hid (HC.out.trans (by rw [HCI.out]; exact solC_more (by rw [← HCI.out]; exact bad_ok hrl hcz (by rw [HB.out]; exact h35)) hj2))
        have n35 : ((((rowAt l r)[c]'hcz).toNat : Int) == 35) = false := beq_eq_false_iff_ne.2 h35
        clear h35
        go_wp2_with fail
        go_round
        case rel => exact ⟨j + 1, by omega, by rw [HCI.out]; go_num, HN⟩
        case measure => simp [intOf]; omega

set_option maxRecDepth 100000 in
set_option maxHeartbeats 8000000 in
theorem solid_spec {u : Value} {l : List ByteArray} (x y size : Int) (w : World) (h : At w 1 u l.length (l.map Value.string)) (hm : l.length ≤ 1048576) (hz : ∀ s ∈ l, s.size ≤ 1048576) (hs1 : 1 ≤ size) (hs2 : size ≤ 16) :
    Calls Tryd.prog 71 #[.agg #[u], .int .i64 x, .int .i64 y, .int .i64 size] w fun e w' => e = .returned (.bool (solT l x y size)) ∧ Below w.heap.size w w' := by
  obtain ⟨ao, cap, rfl, hc⟩ := h.cellS
  have hb1 : ∀ A : Obj, Below w.heap.size w (w.alloc A) := fun A => (Below.refl _ _).alloc (Nat.le_refl _) _
  have IA : ∀ a wx, Calls Tryd.prog 43 #[.int .i64 a, .int .i64 0, .int .i64 1000] wx fun e w' => e = .returned (.bool (inB a 0 1000)) ∧ wx = w' := fun a wx => in_any a 0 1000 wx
  by_cases hout : x < 0 ∨ 1000 < x ∨ y < 0 ∨ 1000 < y
  · have HN := Lib.hid (solT_neg (l := l) (size := size) hout)
    clear hc
    cases hxb : inB x 0 1000 with
    | false =>
      go_enter Tryd.func71, Tryd.ntmps71
      go_wp2_with fail
      refine (IA _ _).mono ?_
      rintro e wx ⟨rfl, rfl⟩
      rw [hxb]
      go_wp2_with fail
      go_ret
      exact ⟨ret_bool (by rw [HN.out]), hb1 _⟩
    | true =>
      have hyb : inB y 0 1000 = false := inB_no (by rw [inB_iff] at hxb; omega)
      go_enter Tryd.func71, Tryd.ntmps71
      go_wp2_with fail
      refine (IA _ _).mono ?_
      rintro e wx ⟨rfl, rfl⟩
      rw [hxb]
      go_wp2_with fail
      refine (IA _ _).mono ?_
      rintro e wx ⟨rfl, rfl⟩
      rw [hyb]
      go_wp2_with fail
      go_ret
      exact ⟨ret_bool (by rw [HN.out]), hb1 _⟩
  obtain ⟨xn, rfl⟩ := Int.eq_ofNat_of_zero_le (show 0 ≤ x by omega)
  obtain ⟨yn, rfl⟩ := Int.eq_ofNat_of_zero_le (show 0 ≤ y by omega)
  obtain ⟨sn, rfl⟩ := Int.eq_ofNat_of_zero_le (show 0 ≤ size by omega)
  have hx1 : xn ≤ 1000 := by omega
  have hy1 : yn ≤ 1000 := by omega
  have HS := Lib.hid (solT_nat (l := l) (x := xn) (y := yn) (s := sn) (by omega) (by omega) (by omega))
  clear hout
  have HC0 : Hid (∀ r, r < l.length → ∃ g off, ao = some ⟨g, off, none⟩ ∧ g < w.heap.size ∧ w.cell? ⟨g, off + r, none⟩ = some (.string (rowAt l r)) ∧ (rowAt l r).size ≤ 1048576) := Lib.hid fun r hr => by
    obtain ⟨g, off, e, hg, hcell⟩ := hc (by omega)
    exact ⟨g, off, e, hg, by rw [rowAt_eq hr]; exact hcell r hr, by rw [rowAt_eq hr]; exact hz _ (List.getElem_mem hr)⟩
  clear hc hz
  go_enter Tryd.func71, Tryd.ntmps71
  go_wp2_with fail
  refine (in_yes _ _ _ _ (by omega) (by omega)).mono ?_
  rintro e wx ⟨rfl, rfl⟩
  go_wp2_with fail
  refine (in_yes _ _ _ _ (by omega) (by omega)).mono ?_
  rintro e wx ⟨rfl, rfl⟩
  go_wp2_with fail
  generalize hw1 : w.alloc _ = w1
  have hbl : Below w.heap.size w w1 := by rw [← hw1]; exact hb1 _
  have c1 : w1.cell? ⟨w.heap.size, 0, none⟩ = some (.slice ao l.length cap) := by rw [← hw1]; exact World.cell?_alloc_new _ _ _ 0
  clear hw1 hb1
  go_loop [9] (fun r => ∃ i : Nat, i ≤ (yn + sn - 1) / 16 - yn / 16 + 1 ∧ r = .int .i64 ((yn / 16 + i : Nat) : Int) ∧ Hid (solT l (xn : Int) (yn : Int) (sn : Int) = solR l (xn / 16) ((xn + sn - 1) / 16 - xn / 16 + 1) ((yn + sn - 1) / 16 - yn / 16 + 1 - i) (yn / 16 + i))) (fun r => 160 - (intOf r).toNat)
  case atStart => exact ⟨0, Nat.zero_le _, by go_num, HS⟩
  case round =>
    clear HS
    obtain ⟨i, hi, rfl, HS⟩ := hrel
    by_cases hi1 : ¬ i < (yn + sn - 1) / 16 - yn / 16 + 1
    · have HN : Hid (solT l (xn : Int) (yn : Int) (sn : Int) = false) := Lib.hid (HS.out.trans (by rw [show i = (yn + sn - 1) / 16 - yn / 16 + 1 by omega]; exact solR_done))
      have ht : ¬ (((yn / 16 + i : Nat) : Int) ≤ ((yn : Int) + (sn : Int) - 1) / 16) := by omega
      go_wp2_with fail
      go_ret
      exact ⟨ret_bool (by rw [HN.out]), hbl⟩
    have hi2 : i < (yn + sn - 1) / 16 - yn / 16 + 1 := by omega
    have ht : (((yn / 16 + i : Nat) : Int) ≤ ((yn : Int) + (sn : Int) - 1) / 16) := by omega
    clear hi1
    obtain ⟨r, hr⟩ : ∃ r, r = yn / 16 + i := ⟨_, rfl⟩
    have hr60 : r < 160 := by omega
    rw [← hr] at ht HS
    rw [← hr]
    have HRI := Lib.hid hr; clear hr
    go_wp2_with fail
    go_loop [10] (fun c => ∃ j : Nat, j ≤ (xn + sn - 1) / 16 - xn / 16 + 1 ∧ c = .int .i64 ((xn / 16 + j : Nat) : Int) ∧ Hid (solC l r ((xn + sn - 1) / 16 - xn / 16 + 1) (xn / 16) = solC l r ((xn + sn - 1) / 16 - xn / 16 + 1 - j) (xn / 16 + j))) (fun c => 160 - (intOf c).toNat)
    case atStart => exact ⟨0, Nat.zero_le _, by go_num, Lib.hid rfl⟩
    case round =>
      obtain ⟨j, hj, rfl, HC⟩ := hrel
      by_cases hj1 : ¬ j < (xn + sn - 1) / 16 - xn / 16 + 1
      · have HF : solC l r ((xn + sn - 1) / 16 - xn / 16 + 1) (xn / 16) = false := HC.out.trans (by rw [show j = (xn + sn - 1) / 16 - xn / 16 + 1 by omega]; exact solC_done)
        have HN : Hid (solT l (xn : Int) (yn : Int) (sn : Int) = solR l (xn / 16) ((xn + sn - 1) / 16 - xn / 16 + 1) ((yn + sn - 1) / 16 - yn / 16 + 1 - (i + 1)) (yn / 16 + (i + 1))) := Lib.hid (HS.out.trans (by rw [HRI.out]; exact solR_more (by rw [← HRI.out]; exact HF) hi2))
        have ht2 : ¬ (((xn / 16 + j : Nat) : Int) ≤ ((xn : Int) + (sn : Int) - 1) / 16) := by omega
        clear HF
        go_wp2_with fail
        go_round
        case rel => exact ⟨i + 1, by omega, by rw [HRI.out]; go_num, HN⟩
        case measure => simp [intOf]; omega
      have hj2 : j < (xn + sn - 1) / 16 - xn / 16 + 1 := by omega
      have ht2 : (((xn / 16 + j : Nat) : Int) ≤ ((xn : Int) + (sn : Int) - 1) / 16) := by omega
      clear hj1
      obtain ⟨c, hc⟩ : ∃ c, c = xn / 16 + j := ⟨_, rfl⟩
      have hc60 : c < 160 := by omega
      rw [← hc] at ht2 HC
      rw [← hc]
      have HCI := Lib.hid hc; clear hc
      have HHIT : Hid (bad l r c = true → solT l (xn : Int) (yn : Int) (sn : Int) = true) := Lib.hid fun hb => by
        have HH : solC l r ((xn + sn - 1) / 16 - xn / 16 + 1) (xn / 16) = true := HC.out.trans (by rw [HCI.out]; exact solC_hit (by rw [← HCI.out]; exact hb) hj2)
        exact HS.out.trans (by rw [HRI.out]; exact solR_hit (by rw [← HRI.out]; exact HH) hi2)
      by_cases hrl : ¬ r < l.length
      · have HN := Lib.hid (HHIT.out (bad_row (by omega)))
        have hge : (l.length : Int) ≤ (r : Int) := by omega
        clear hrl
        go_wp2_with fail
        go_ret
        exact ⟨ret_bool (by rw [HN.out]), hbl⟩
      have hrl1 : r < l.length := by omega
      clear hrl
      obtain ⟨g, off, rfl, hg, hcl, hsz⟩ := HC0.out r hrl1
      have cr : w1.cell? ⟨g, off + r, none⟩ = some (.string (rowAt l r)) := (hbl.cell hg).trans hcl
      clear hcl
      by_cases hcl : ¬ c < (rowAt l r).size
      · have HN := Lib.hid (HHIT.out (bad_col (by omega)))
        have hge : ((rowAt l r).size : Int) ≤ (c : Int) := by omega
        clear hcl
        go_wp2_with fail
        go_ret
        exact ⟨ret_bool (by rw [HN.out]), hbl⟩
      have hcz : c < (rowAt l r).size := by omega
      clear hcl
      have HB := Lib.hid (byteAt_eq hcz)
      by_cases h35 : (((rowAt l r)[c]'hcz).toNat : Int) = 35
      · have HN := Lib.hid (HHIT.out (bad_wall (by rw [HB.out]; exact h35)))
        go_wp2_with fail
        go_ret
        exact ⟨ret_bool (by rw [HN.out]), hbl⟩
      · have HN : Hid (solC l r ((xn + sn - 1) / 16 - xn / 16 + 1) (xn / 16) = solC l r ((xn + sn - 1) / 16 - xn / 16 + 1 - (j + 1)) (xn / 16 + (j + 1))) := Lib.hid (HC.out.trans (by rw [HCI.out]; exact solC_more (by rw [← HCI.out]; exact bad_ok hrl1 hcz (by rw [HB.out]; exact h35)) hj2))
        have n35 : ((((rowAt l r)[c]'hcz).toNat : Int) == 35) = false := beq_eq_false_iff_ne.2 h35
        clear h35
        go_wp2_with fail
        go_round
        case rel => exact ⟨j + 1, by omega, by rw [HCI.out]; go_num, HN⟩
        case measure => simp [intOf]; omega
end Go.Proofs.YtiopbdodegopdaaDoor
