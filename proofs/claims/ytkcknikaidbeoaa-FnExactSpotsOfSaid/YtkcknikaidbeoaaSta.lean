/- StartOf: the program's and the reference's. -/
import Derived.Test.YtkcknikaidbeoaaLvo
import Derived.Test.YtkcknikaidbeoaaStaLaw
namespace Go.Proofs.Ytkcknikaidbeoaa
open Go.RowKit

theorem ret_tuple2 {a b c d : Int} (h1 : a = c) (h2 : b = d) : Ending.returned (.tuple #[.int .i64 a, .int .i64 b]) = .returned (.tuple #[.int .i64 c, .int .i64 d]) := by rw [h1, h2]
theorem wrapu8_p {p : Int} (h0 : 0 ≤ p) (h3 : p ≤ 3) : IntKind.u8.wrap (49 + p) = 49 + p := IntWalk.u8_in _ (by omega)
set_option maxRecDepth 100000 in
set_option maxHeartbeats 8000000 in
theorem start_impl {u : Value} {l : List ByteArray} (p : Int) (w : World) (h : At w 1 u l.length (l.map Value.string)) (hm : l.length ≤ 1048576) (hz : ∀ s ∈ l, s.size ≤ 1048576) :
    Calls Try.prog 32 #[.agg #[u], .int .i64 p] w fun e w' => e = .returned (.tuple #[.int .i64 (startT l p).1, .int .i64 (startT l p).2]) ∧ Below w.heap.size w w' := by
  have hb1 : ∀ A : Obj, Below w.heap.size w (w.alloc A) := fun A => (Below.refl _ _).alloc (Nat.le_refl _) _
  have HL : ∀ wx, Below w.heap.size w wx → Calls Try.prog 27 #[.agg #[u]] wx fun e w' => e = .returned (.bool (lvT l)) ∧ Below wx.heap.size wx w' := fun wx hx => lvok_impl wx (h.below hx) hm hz
  by_cases hp : p < 0 ∨ 3 < p
  · have HN := Lib.hid (startT_no (l := l) (p := p) (by omega))
    rcases (show p < 0 ∨ (0 ≤ p ∧ 4 ≤ p) by omega) with h1 | ⟨h1, h2⟩
    all_goals
      clear hp
      go_enter Try.func32, Try.ntmps32
      go_wp2_with fail
      go_ret2
      exact ⟨by rw [HN.out]; rfl, hb1 _⟩
  have h0 : 0 ≤ p := by omega
  have h3 : p ≤ 3 := by omega
  clear hp
  cases hv : lvT l with
  | false =>
    rw [hv] at HL
    have HN := Lib.hid (startT_no (l := l) (p := p) (by rw [hv]; simp))
    clear hv
    go_enter Try.func32, Try.ntmps32
    go_wp2_with fail
    refine (HL _ (hb1 _)).mono ?_
    rintro e wa ⟨rfl, ha⟩
    go_wp2_with fail
    go_ret2
    exact ⟨by rw [HN.out]; rfl, (hb1 _).trans (ha.mono (by simp))⟩
  | true =>
    rw [hv] at HL
    have hl := lvT_lv hv
    have HS := startT_yes h0 h3 hv
    obtain ⟨W, hW⟩ : ∃ W, (rowAt l 0).size = W := ⟨_, rfl⟩
    rw [hW] at hl HS
    replace HS := Lib.hid HS
    have n3 := hl.n3
    have n12 := hl.n12
    have w4 := hl.w4
    have w20 := hl.w20
    have hat := h
    obtain ⟨ao, cap, rfl, hc⟩ := h.cellS
    obtain ⟨g, off, rfl, hg, hcell⟩ := hc (by omega)
    clear hc
    have HR := Lib.hid (fun r (hr : r < l.length) => show w.cell? ⟨g, off + r, none⟩ = some (.string (rowAt l r)) by rw [rowAt_eq hr]; exact hcell r hr)
    have HW := Lib.hid hl.rows
    have hu8 := Lib.hid (wrapu8_p h0 h3)
    clear hcell hl hv hW
    go_enter Try.func32, Try.ntmps32
    go_wp2_with fail
    refine (HL _ (hb1 _)).mono ?_
    rintro e wa ⟨rfl, ha⟩
    have hba : Below w.heap.size w wa := (hb1 _).trans (ha.mono (by simp))
    have ca : wa.cell? ⟨w.heap.size, 0, none⟩ = some (.slice (some ⟨g, off, none⟩) l.length cap) := (ha.cell (by simp)).trans (World.cell?_alloc_new w _ _ 0)
    clear ha HL hb1
    go_wp2_with fail
    go_loop [6, 7, 25] (fun fx fy i => ∃ (r : Nat) (x y : Int), r ≤ l.length ∧ i = .int .i64 r ∧ fx = .int .i64 x ∧ fy = .int .i64 y ∧ -1 ≤ x ∧ Hid (startT l p = staR l W (49 + p) (l.length - r) x y)) (fun _ _ i => l.length - (intOf i).toNat)
    case atStart => exact ⟨0, -1, -1, Nat.zero_le _, rfl, rfl, rfl, by omega, HS⟩
    case round =>
      clear HS
      obtain ⟨r, x, y, hr, rfl, rfl, rfl, hx, HS⟩ := hrel
      by_cases hr0 : ¬ r < l.length
      · have HN := Lib.hid (HS.out.trans (staR_end (show r = l.length by omega)))
        go_wp2_with fail
        go_ret2
        exact ⟨by rw [HN.out]; rfl, hba⟩
      have hr1 : r < l.length := by omega
      clear hr0
      have cr : wa.cell? ⟨g, off + r, none⟩ = some (.string (rowAt l r)) := (hba.cell hg).trans (HR.out r hr1)
      have HT := Lib.hid (HS.out.trans (staR_row hr1))
      have hsz := HW.out r hr1
      obtain ⟨row, hrw⟩ : ∃ x, rowAt l r = x := ⟨_, rfl⟩
      rw [hrw] at cr HT hsz
      clear hrw HS
      have hszl : row.size ≤ 20 := by omega
      rw [← hsz] at HT
      have HSZ := Lib.hid hsz; clear hsz
      go_wp2_with fail
      go_loop [6, 7, 10] (fun fx fy i => ∃ (k : Nat) (x y : Int), k ≤ row.size ∧ i = .int .i64 k ∧ fx = .int .i64 x ∧ fy = .int .i64 y ∧ -1 ≤ x ∧ Hid (startT l p = staC row row.size r (49 + p) (staR l row.size (49 + p) (l.length - (r + 1))) (row.size - k) x y)) (fun _ _ i => row.size - (intOf i).toNat)
      case atStart => exact ⟨0, x, y, Nat.zero_le _, rfl, rfl, rfl, hx, HT⟩
      case round =>
        clear HT
        obtain ⟨k, x, y, hk, rfl, rfl, rfl, hx, HS⟩ := hrel
        by_cases hk0 : ¬ k < row.size
        · have HN := Lib.hid (HS.out.trans (staC_end (show k = row.size by omega)))
          rw [HSZ.out] at HN
          go_wp2_with fail
          go_round
          case rel => exact ⟨r + 1, x, y, by omega, by go_num, rfl, rfl, hx, HN⟩
          case measure => simp [intOf]; omega
        have hk1 : k < row.size := by omega
        clear hk0
        have HB := Lib.hid (byteAt_eq hk1)
        have ht := (row[k]'hk1).toNat_lt
        by_cases hd : ((row[k]'hk1).toNat : Int) = 49 + p
        · have HN := Lib.hid (HS.out.trans (staC_hit hk1 (by rw [HB.out]; exact hd)))
          have hd1 : (((row[k]'hk1).toNat : Int) == 49 + p) = true := beq_iff_eq.2 hd
          clear hd
          go_wp2_with fail
          go_ret2
          exact ⟨by rw [HN.out]; exact ret_tuple2 (a := (k : Int) * 16 + 2) (b := (r : Int) * 16 + 2) (by omega) (by omega), hba⟩
        have hd1 : (((row[k]'hk1).toNat : Int) == 49 + p) = false := beq_eq_false_iff_ne.2 hd
        by_cases h35 : ((row[k]'hk1).toNat : Int) = 35
        · have HN := Lib.hid (HS.out.trans (staC_wall hk1 (by rw [HB.out]; exact hd) (by rw [HB.out]; exact h35)))
          have b35 : (((row[k]'hk1).toNat : Int) != 35) = false := by rw [h35]; rfl
          clear hd h35
          go_wp2_with fail
          go_round
          case rel => exact ⟨k + 1, x, y, by omega, by go_num, rfl, rfl, hx, HN⟩
          case measure => simp [intOf]; omega
        have b35 : (((row[k]'hk1).toNat : Int) != 35) = true := by simp; omega
        by_cases hx0 : x < 0
        · have HN := Lib.hid (HS.out.trans (staC_first hk1 (by rw [HB.out]; exact hd) (by rw [HB.out]; exact h35) hx0))
          clear hd h35
          go_wp2_with fail
          go_round
          case rel => exact ⟨k + 1, 16 * (k : Int) + 2, 16 * (r : Int) + 2, by omega, by go_num, by go_num, by go_num, by omega, HN⟩
          case measure => simp [intOf]; omega
        · have HN := Lib.hid (HS.out.trans (staC_later (y := y) hk1 (by rw [HB.out]; exact hd) (show 0 ≤ x by omega)))
          clear hd h35
          go_wp2_with fail
          go_round
          case rel => exact ⟨k + 1, x, y, by omega, by go_num, rfl, rfl, hx, HN⟩
          case measure => simp [intOf]; omega
set_option maxRecDepth 100000 in
set_option maxHeartbeats 8000000 in
theorem start_spec {u : Value} {l : List ByteArray} (p : Int) (w : World) (h : At w 1 u l.length (l.map Value.string)) (hm : l.length ≤ 1048576) (hz : ∀ s ∈ l, s.size ≤ 1048576) :
    Calls Try.prog 31 #[.agg #[u], .int .i64 p] w fun e w' => e = .returned (.tuple #[.int .i64 (startT l p).1, .int .i64 (startT l p).2]) ∧ Below w.heap.size w w' := by
  have hb1 : ∀ A : Obj, Below w.heap.size w (w.alloc A) := fun A => (Below.refl _ _).alloc (Nat.le_refl _) _
  have HL : ∀ wx, Below w.heap.size w wx → Calls Try.prog 25 #[.agg #[u]] wx fun e w' => e = .returned (.bool (lvT l)) ∧ Below wx.heap.size wx w' := fun wx hx => lvok_spec wx (h.below hx) hm hz
  cases hv : lvT l with
  | false =>
    rw [hv] at HL
    have HN := Lib.hid (startT_no (l := l) (p := p) (by rw [hv]; simp))
    clear hv
    go_enter Try.func31, Try.ntmps31
    go_wp2_with fail
    refine (HL _ (hb1 _)).mono ?_
    rintro e wa ⟨rfl, ha⟩
    go_wp2_with fail
    go_ret2
    exact ⟨by rw [HN.out]; rfl, (hb1 _).trans (ha.mono (by simp))⟩
  | true =>
    rw [hv] at HL
    by_cases hp : p < 0 ∨ 3 < p
    · have HN := Lib.hid (startT_no (l := l) (p := p) (by omega))
      have HI : ∀ wx, Calls Try.prog 84 #[.int .i64 p, .int .i64 0, .int .i64 3] wx fun e w' => e = .returned (.bool false) ∧ wx = w' := fun wx => in_no _ _ _ wx (by omega)
      clear hv hp
      go_enter Try.func31, Try.ntmps31
      go_wp2_with fail
      refine (HL _ (hb1 _)).mono ?_
      rintro e wa ⟨rfl, ha⟩
      go_wp2_with fail
      refine (HI _).mono ?_
      rintro e wb ⟨rfl, rfl⟩
      go_wp2_with fail
      go_ret2
      exact ⟨by rw [HN.out]; rfl, (hb1 _).trans (ha.mono (by simp))⟩
    have h0 : 0 ≤ p := by omega
    have h3 : p ≤ 3 := by omega
    clear hp
    have HI : ∀ wx, Calls Try.prog 84 #[.int .i64 p, .int .i64 0, .int .i64 3] wx fun e w' => e = .returned (.bool true) ∧ wx = w' := fun wx => in_yes _ _ _ wx h0 h3
    have hl := lvT_lv hv
    have HS := startT_yes h0 h3 hv
    obtain ⟨W, hW⟩ : ∃ W, (rowAt l 0).size = W := ⟨_, rfl⟩
    rw [hW] at hl HS
    replace HS := Lib.hid HS
    have n3 := hl.n3
    have n12 := hl.n12
    have w4 := hl.w4
    have w20 := hl.w20
    obtain ⟨ao, cap, rfl, hc⟩ := h.cellS
    obtain ⟨g, off, rfl, hg, hcell⟩ := hc (by omega)
    clear hc
    have HR := Lib.hid (fun r (hr : r < l.length) => show w.cell? ⟨g, off + r, none⟩ = some (.string (rowAt l r)) by rw [rowAt_eq hr]; exact hcell r hr)
    have HW := Lib.hid hl.rows
    clear hcell hl hv hW
    go_enter Try.func31, Try.ntmps31
    go_wp2_with fail
    refine (HL _ (hb1 _)).mono ?_
    rintro e wa ⟨rfl, ha⟩
    have hba : Below w.heap.size w wa := (hb1 _).trans (ha.mono (by simp))
    have ca : wa.cell? ⟨w.heap.size, 0, none⟩ = some (.slice (some ⟨g, off, none⟩) l.length cap) := (ha.cell (by simp)).trans (World.cell?_alloc_new w _ _ 0)
    clear ha HL hb1
    go_wp2_with fail
    refine (HI _).mono ?_
    rintro e wb ⟨rfl, rfl⟩
    go_wp2_with fail
    go_loop [6, 7, 8] (fun fx fy i => ∃ (r : Nat) (x y : Int), r ≤ l.length ∧ i = .int .i64 r ∧ fx = .int .i64 x ∧ fy = .int .i64 y ∧ -1 ≤ x ∧ Hid (startT l p = staR l W (49 + p) (l.length - r) x y)) (fun _ _ i => l.length - (intOf i).toNat)
    case atStart => exact ⟨0, -1, -1, Nat.zero_le _, rfl, rfl, rfl, by omega, HS⟩
    case round =>
      clear HS
      obtain ⟨r, x, y, hr, rfl, rfl, rfl, hx, HS⟩ := hrel
      by_cases hr0 : ¬ r < l.length
      · have HN := Lib.hid (HS.out.trans (staR_end (show r = l.length by omega)))
        go_wp2_with fail
        go_ret2
        exact ⟨by rw [HN.out]; rfl, hba⟩
      have hr1 : r < l.length := by omega
      clear hr0
      have cr : wa.cell? ⟨g, off + r, none⟩ = some (.string (rowAt l r)) := (hba.cell hg).trans (HR.out r hr1)
      have HT := Lib.hid (HS.out.trans (staR_row hr1))
      have hsz := HW.out r hr1
      obtain ⟨row, hrw⟩ : ∃ x, rowAt l r = x := ⟨_, rfl⟩
      rw [hrw] at cr HT hsz
      clear hrw HS
      have hszl : row.size ≤ 20 := by omega
      rw [← hsz] at HT
      have HSZ := Lib.hid hsz; clear hsz
      go_wp2_with fail
      go_loop [6, 7, 9] (fun fx fy i => ∃ (k : Nat) (x y : Int), k ≤ row.size ∧ i = .int .i64 k ∧ fx = .int .i64 x ∧ fy = .int .i64 y ∧ -1 ≤ x ∧ Hid (startT l p = staC row row.size r (49 + p) (staR l row.size (49 + p) (l.length - (r + 1))) (row.size - k) x y)) (fun _ _ i => row.size - (intOf i).toNat)
      case atStart => exact ⟨0, x, y, Nat.zero_le _, rfl, rfl, rfl, hx, HT⟩
      case round =>
        clear HT
        obtain ⟨k, x, y, hk, rfl, rfl, rfl, hx, HS⟩ := hrel
        by_cases hk0 : ¬ k < row.size
        · have HN := Lib.hid (HS.out.trans (staC_end (show k = row.size by omega)))
          rw [HSZ.out] at HN
          go_wp2_with fail
          go_round
          case rel => exact ⟨r + 1, x, y, by omega, by go_num, rfl, rfl, hx, HN⟩
          case measure => simp [intOf]; omega
        have hk1 : k < row.size := by omega
        clear hk0
        have HB := Lib.hid (byteAt_eq hk1)
        have ht := (row[k]'hk1).toNat_lt
        by_cases hd : ((row[k]'hk1).toNat : Int) = 49 + p
        · have HN := Lib.hid (HS.out.trans (staC_hit hk1 (by rw [HB.out]; exact hd)))
          have b35 : (((row[k]'hk1).toNat : Int) != 35) = true := by simp; omega
          have hd1 : (((row[k]'hk1).toNat : Int) - 49 == p) = true := by simp; omega
          clear hd
          by_cases hx0 : x < 0
          all_goals
            go_wp2_with fail
            go_ret2
            exact ⟨by rw [HN.out]; rfl, hba⟩
        have hd1 : (((row[k]'hk1).toNat : Int) - 49 == p) = false := by simp; omega
        by_cases h35 : ((row[k]'hk1).toNat : Int) = 35
        · have HN := Lib.hid (HS.out.trans (staC_wall hk1 (by rw [HB.out]; exact hd) (by rw [HB.out]; exact h35)))
          have b35 : (((row[k]'hk1).toNat : Int) != 35) = false := by rw [h35]; rfl
          clear hd h35
          go_wp2_with fail
          go_round
          case rel => exact ⟨k + 1, x, y, by omega, by go_num, rfl, rfl, hx, HN⟩
          case measure => simp [intOf]; omega
        have b35 : (((row[k]'hk1).toNat : Int) != 35) = true := by simp; omega
        by_cases hx0 : x < 0
        · have HN := Lib.hid (HS.out.trans (staC_first hk1 (by rw [HB.out]; exact hd) (by rw [HB.out]; exact h35) hx0))
          clear hd h35
          go_wp2_with fail
          go_round
          case rel => exact ⟨k + 1, 16 * (k : Int) + 2, 16 * (r : Int) + 2, by omega, by go_num, by go_num, by go_num, by omega, HN⟩
          case measure => simp [intOf]; omega
        · have HN := Lib.hid (HS.out.trans (staC_later (y := y) hk1 (by rw [HB.out]; exact hd) (show 0 ≤ x by omega)))
          clear hd h35
          go_wp2_with fail
          go_round
          case rel => exact ⟨k + 1, x, y, by omega, by go_num, rfl, rfl, hx, HN⟩
          case measure => simp [intOf]; omega
end Go.Proofs.Ytkcknikaidbeoaa
