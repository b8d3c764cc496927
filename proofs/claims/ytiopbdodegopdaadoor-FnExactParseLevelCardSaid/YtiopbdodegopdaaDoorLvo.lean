/- LevelOk, the program's. -/
import Derived.Test.YtiopbdodegopdaaDoorLvs
namespace Go.Proofs.YtiopbdodegopdaaDoor
open Go.RowKit
theorem edge_cases2 (r n k w : Nat) (hr : r < n) (hk : k < w) : (((r : Int) == 0) = false ∧ ((r : Int) == (n : Int) - 1) = false ∧ ((k : Int) == 0) = false ∧ ((k : Int) == (w : Int) - 1) = false ∧ Hid (0 < r ∧ 0 < k ∧ r + 1 < n ∧ k + 1 < w)) ∨
    ((((r : Int) == 0) = true ∨ (((r : Int) == 0) = false ∧ ((r : Int) == (n : Int) - 1) = true) ∨ (((r : Int) == 0) = false ∧ ((r : Int) == (n : Int) - 1) = false ∧ ((k : Int) == 0) = true) ∨ (((r : Int) == 0) = false ∧ ((r : Int) == (n : Int) - 1) = false ∧ ((k : Int) == 0) = false ∧ ((k : Int) == (w : Int) - 1) = true)) ∧ Hid (r < 1 ∨ k < 1 ∨ n ≤ r + 1 ∨ w ≤ k + 1)) := by
  by_cases h1 : (r : Int) = 0
  · exact .inr ⟨.inl (beq_iff_eq.2 h1), Lib.hid (by omega)⟩
  by_cases h2 : (r : Int) = (n : Int) - 1
  · exact .inr ⟨.inr (.inl ⟨beq_eq_false_iff_ne.2 h1, beq_iff_eq.2 h2⟩), Lib.hid (by omega)⟩
  by_cases h3 : (k : Int) = 0
  · exact .inr ⟨.inr (.inr (.inl ⟨beq_eq_false_iff_ne.2 h1, beq_eq_false_iff_ne.2 h2, beq_iff_eq.2 h3⟩)), Lib.hid (by omega)⟩
  by_cases h4 : (k : Int) = (w : Int) - 1
  · exact .inr ⟨.inr (.inr (.inr ⟨beq_eq_false_iff_ne.2 h1, beq_eq_false_iff_ne.2 h2, beq_eq_false_iff_ne.2 h3, beq_iff_eq.2 h4⟩)), Lib.hid (by omega)⟩
  · exact .inl ⟨beq_eq_false_iff_ne.2 h1, beq_eq_false_iff_ne.2 h2, beq_eq_false_iff_ne.2 h3, beq_eq_false_iff_ne.2 h4, Lib.hid (by omega)⟩
set_option maxRecDepth 100000 in
set_option maxHeartbeats 16000000 in
theorem lvok_impl {u : Value} {l : List ByteArray} (w : World) (h : At w 1 u l.length (l.map Value.string)) (hm : l.length ≤ 1048576) (hz : ∀ s ∈ l, s.size ≤ 1048576) :
    Calls Tryd.prog 19 #[.agg #[u]] w fun e w' => e = .returned (.bool (lvT l)) ∧ Below w.heap.size w w' := by
  obtain ⟨ao, cap, rfl, hc⟩ := h.cellS
  by_cases hn : 3 ≤ l.length ∧ l.length ≤ 12
  · obtain ⟨hn1, hn2⟩ := hn
    obtain ⟨g, off, rfl, hg, hcell⟩ := hc (by omega)
    clear hc
    have hrow : ∀ r, r < l.length → w.cell? ⟨g, off + r, none⟩ = some (.string (rowAt l r)) := fun r hr => by rw [rowAt_eq hr]; exact hcell r hr
    have hzz : ∀ r, r < l.length → (rowAt l r).size ≤ 1048576 := fun r hr => by rw [rowAt_eq hr]; exact hz _ (List.getElem_mem hr)
    have c00 : w.cell? ⟨g, off, none⟩ = some (.string (rowAt l 0)) := hrow 0 (by omega)
    have z0 := hzz 0 (by omega)
    have HR := Lib.hid hrow; clear hrow hcell
    have HZ := Lib.hid hzz; clear hzz hz
    obtain ⟨row0, hrow0⟩ : ∃ x, rowAt l 0 = x := ⟨_, rfl⟩
    have HO : Hid (¬ (4 ≤ row0.size ∧ row0.size ≤ 20) → lvT l = false) := Lib.hid fun hx => lvT_out (by rw [hrow0]; omega)
    have HI : Hid (4 ≤ row0.size → row0.size ≤ 20 → lvT l = goR l row0.size (l.length - 0) [false, false, false, false] false) := Lib.hid fun h1 h2 => by
      have := lvT_in hn1 hn2 (by rw [hrow0]; exact h1) (by rw [hrow0]; exact h2)
      rw [hrow0] at this; exact this
    rw [hrow0] at c00 z0
    clear hrow0
    obtain ⟨W0, hW0⟩ : ∃ x, x = row0.size := ⟨_, rfl⟩
    go_enter Tryd.func19, Tryd.ntmps19
    by_cases h4 : ¬ (4 ≤ row0.size ∧ row0.size ≤ 20)
    · have HN := Lib.hid (HO.out h4)
      clear hW0 HI
      rcases (show row0.size < 4 ∨ (4 ≤ row0.size ∧ 20 < row0.size) by omega) with h5 | ⟨h5, h6⟩
      all_goals
        clear h4
        go_wp2_with fail
        go_ret
        exact ⟨ret_bool (by rw [HN.out]), (Below.refl _ _).alloc (Nat.le_refl _) _⟩
    obtain ⟨h41, h42⟩ : 4 ≤ row0.size ∧ row0.size ≤ 20 := Decidable.not_not.1 h4
    clear h4
    have HI2 := Lib.hid (HI.out h41 h42)
    clear HI HO
    rw [← hW0] at HI2
    have hw41 : 4 ≤ W0 := by omega
    have hw42 : W0 ≤ 20 := by omega
    have HW0 := Lib.hid hW0; clear hW0
    go_wp2_with fail
    rw [← HW0.out]
    clear h41 h42
    generalize hw1 : (w.alloc _).alloc _ = w1
    have hb1 : Below w.heap.size w w1 := by rw [← hw1]; exact ((Below.refl _ _).alloc (Nat.le_refl _) _).alloc (by simp) _
    have c1 : w1.cell? ⟨w.heap.size, 0, none⟩ = some (.slice (some ⟨g, off, none⟩) l.length cap) := by
      rw [← hw1]; simp [World.cell?_alloc_past, World.cell?_alloc_at]
    have ho1 : Own w1 (w.heap.size + 1) 1 (.slice (some ⟨w.heap.size + 1, 0, none⟩) 5 5) 5 ([false, false, false, false, false].map Value.bool) := by
      rw [← hw1]; exact Own.lit_ _ (by simp) rfl rfl (by simp) (by unfold maxLen; omega)
    clear hw1 c00
    go_loopw [5, 35] (fun o i wr => ∃ (r : Nat) (sn : List Bool) (op : Bool), r ≤ l.length ∧ i = .int .i64 r ∧ o = .bool op ∧ sn.length = 4 ∧ Own wr (w.heap.size + 1) 1 (.slice (some ⟨w.heap.size + 1, 0, none⟩) 5 5) 5 ((false :: sn).map Value.bool) ∧ Hid (lvT l = goR l W0 (l.length - r) sn op) ∧ wr.cell? ⟨w.heap.size, 0, none⟩ = some (.slice (some ⟨g, off, none⟩) l.length cap) ∧ Below w.heap.size w wr) (fun _ i _ => l.length - (intOf i).toNat)
    case atStart => exact ⟨0, _, false, Nat.zero_le _, rfl, rfl, rfl, ho1, HI2, c1, hb1⟩
    case round =>
      obtain ⟨r, sn, op, hr, rfl, rfl, hsn, hown, HS, cw, hbl⟩ := hrel
      clear c1 ho1 hb1
      have hszr := hbl.size
      by_cases hr0 : ¬ r < l.length
      · have hre : r = l.length := by omega
        have HN := Lib.hid (HS.out.trans (goR_end hre))
        clear hre
        go_wp2_with fail
        go_ret
        exact ⟨ret_bool (by rw [HN.out]), hbl⟩
      have hr1 : r < l.length := by omega
      clear hr0
      have cr : wr.cell? ⟨g, off + r, none⟩ = some (.string (rowAt l r)) := (hbl.cell hg).trans (HR.out r hr1)
      have zr := HZ.out r hr1
      by_cases hsz : ¬ (rowAt l r).size = W0
      · have HN := Lib.hid (HS.out.trans (goR_no hr1 hsz))
        have hsz' : (((rowAt l r).size : Int) != (W0 : Int)) = true := by simp; omega
        clear hsz
        go_wp2_with fail
        go_ret
        exact ⟨ret_bool (by rw [HN.out]), hbl⟩
      replace hsz := Decidable.not_not.1 hsz
      have HT := Lib.hid (HS.out.trans (goR_yes hr1 hsz))
      obtain ⟨row, hrw⟩ : ∃ x, rowAt l r = x := ⟨_, rfl⟩
      rw [hrw] at cr zr hsz HT
      have CR : Hid (w.cell? ⟨g, off + r, none⟩ = some (.string row)) := Lib.hid ((HR.out r hr1).trans (by rw [hrw]))
      clear hrw HS
      have hszb : ((row.size : Int) != (W0 : Int)) = false := by simp; omega
      have HSZ := Lib.hid hsz; clear hsz
      go_wp2_with fail
      obtain ⟨wo, rfl⟩ : ∃ wo : World, wo = wr := ⟨_, rfl⟩
      go_loopw [5, 8] (fun o i wr => ∃ (k : Nat) (sn' : List Bool) (op' : Bool), k ≤ W0 ∧ i = .int .i64 k ∧ o = .bool op' ∧ sn'.length = 4 ∧ Own wr (w.heap.size + 1) 1 (.slice (some ⟨w.heap.size + 1, 0, none⟩) 5 5) 5 ((false :: sn').map Value.bool) ∧ Hid (lvT l = goC row W0 (edgeR l r) (goR l W0 (l.length - (r + 1))) (W0 - k) sn' op') ∧ wr.cell? ⟨w.heap.size, 0, none⟩ = some (.slice (some ⟨g, off, none⟩) l.length cap) ∧ Below w.heap.size w wr) (fun _ i _ => W0 - (intOf i).toNat)
      case atStart => exact ⟨0, sn, op, Nat.zero_le _, rfl, rfl, hsn, hown, HT, cw, hbl⟩
      case round =>
        clear hown HT cw hbl hszr hsn
        obtain ⟨k, sn, op, hk, rfl, rfl, hsn, hown, HS, cw, hbl⟩ := hrel
        have hszr := hbl.size
        by_cases hkN : ¬ k < W0
        · have HN := Lib.hid (HS.out.trans (goC_end (show k = W0 by omega)))
          go_wp2_with fail
          go_roundw
          case rel => exact ⟨r + 1, sn, op, by omega, by go_num, rfl, hsn, hown, HN, cw, hbl⟩
          case measure => simp [intOf]; omega
        have hkW : k < W0 := by omega
        clear hkN
        have hk' : k < row.size := by rw [HSZ.out]; exact hkW
        have HB := Lib.hid (byteAt_eq hk')
        have ht := (row[k]'hk').toNat_lt
        rcases edge_cases2 r l.length k W0 hr1 hkW with ⟨e1, e2, e3, e4, HX⟩ | ⟨hx, HX⟩
        · have HE := Lib.hid (edge_no (l := l) HX.out.1 HX.out.2.1 HX.out.2.2.1 HX.out.2.2.2)
          by_cases h35 : ((row[k]'hk').toNat : Int) = 35
          · have HN := Lib.hid (HS.out.trans (goC_wall hkW (by rw [HB.out]; exact h35)))
            have n111 : (((row[k]'hk').toNat : Int) != 35) = false := by rw [h35]; rfl
            go_wp2_with fail
            all_goals
              go_roundw
              case rel => exact ⟨k + 1, sn, op, by omega, by go_num, by first | rfl | simp_all, hsn, hown, HN, cw, hbl⟩
              case measure => simp [intOf]; omega
          by_cases h49 : 49 ≤ ((row[k]'hk').toNat : Int) ∧ ((row[k]'hk').toNat : Int) ≤ 52
          · rcases (show ((row[k]'hk').toNat : Int) = 49 ∨ ((row[k]'hk').toNat : Int) = 50 ∨ ((row[k]'hk').toNat : Int) = 51 ∨ ((row[k]'hk').toNat : Int) = 52 by omega) with hT | hT | hT | hT
            · clear h35 h49
              cases hs : sn.getD 0 false with
              | true =>
                have HN : Hid (lvT l = false) := Lib.hid (HS.out.trans (goC_seen hkW (by rw [HB.out, hT]; decide) (by rw [HB.out, hT]; decide) (by rw [HB.out, hT]; exact hs)))
                have c2 : wr.cell? ⟨w.heap.size + 1, 1, none⟩ = some (.bool true) := (sn_cell hown 1 (by omega)).trans (by rw [show (false :: sn).getD 1 false = true from hs])
                clear hs
                go_wp2_with fail
                go_ret
                exact ⟨ret_bool (by rw [HN.out]), hbl⟩
              | false =>
                have HN : Hid (lvT l = goC row W0 (edgeR l r) (goR l W0 (l.length - (r + 1))) (W0 - (k + 1)) (sn.set 0 true) true) := Lib.hid (HS.out.trans (by
                  have := goC_new (K := goR l W0 (l.length - (r + 1))) (op := op) hkW HE.out (by rw [HB.out, hT]; decide) (by rw [HB.out, hT]; decide) (by rw [HB.out, hT]; exact hs)
                  rw [HB.out, hT] at this
                  exact this))
                have c2 : wr.cell? ⟨w.heap.size + 1, 1, none⟩ = some (.bool false) := (sn_cell hown 1 (by omega)).trans (by rw [show (false :: sn).getD 1 false = false from hs])
                have f2 := hown.free 1 (by omega)
                have hown2 : Own _ _ _ _ _ _ := sn_set hown 1 (by omega)
                have cw2 := cell_set_ne (p := ⟨w.heap.size + 1, 1, none⟩) (v := .bool true) cw (by show w.heap.size + 1 ≠ w.heap.size; omega)
                have hsn2 : (sn.set 0 true).length = 4 := by rw [List.length_set]; exact hsn
                have hbl2 := hbl.setCell (p := ⟨w.heap.size + 1, 1, none⟩) (by show w.heap.size ≤ w.heap.size + 1; omega) (.bool true)
                clear hs
                have HO2 := Lib.hid hown2; clear hown2
                have HC2 := Lib.hid cw2; clear cw2
                go_wp2_with fail
                all_goals
                  go_roundw
                  case rel => exact ⟨k + 1, sn.set 0 true, true, by omega, by go_num, by first | rfl | simp_all, hsn2, HO2.out, HN, HC2.out, hbl2⟩
                  case measure => simp [intOf]; omega
            · clear h35 h49
              cases hs : sn.getD 1 false with
              | true =>
                have HN : Hid (lvT l = false) := Lib.hid (HS.out.trans (goC_seen hkW (by rw [HB.out, hT]; decide) (by rw [HB.out, hT]; decide) (by rw [HB.out, hT]; exact hs)))
                have c2 : wr.cell? ⟨w.heap.size + 1, 2, none⟩ = some (.bool true) := (sn_cell hown 2 (by omega)).trans (by rw [show (false :: sn).getD 2 false = true from hs])
                clear hs
                go_wp2_with fail
                go_ret
                exact ⟨ret_bool (by rw [HN.out]), hbl⟩
              | false =>
                have HN : Hid (lvT l = goC row W0 (edgeR l r) (goR l W0 (l.length - (r + 1))) (W0 - (k + 1)) (sn.set 1 true) true) := Lib.hid (HS.out.trans (by
                  have := goC_new (K := goR l W0 (l.length - (r + 1))) (op := op) hkW HE.out (by rw [HB.out, hT]; decide) (by rw [HB.out, hT]; decide) (by rw [HB.out, hT]; exact hs)
                  rw [HB.out, hT] at this
                  exact this))
                have c2 : wr.cell? ⟨w.heap.size + 1, 2, none⟩ = some (.bool false) := (sn_cell hown 2 (by omega)).trans (by rw [show (false :: sn).getD 2 false = false from hs])
                have f2 := hown.free 2 (by omega)
                have hown2 : Own _ _ _ _ _ _ := sn_set hown 2 (by omega)
                have cw2 := cell_set_ne (p := ⟨w.heap.size + 1, 2, none⟩) (v := .bool true) cw (by show w.heap.size + 1 ≠ w.heap.size; omega)
                have hsn2 : (sn.set 1 true).length = 4 := by rw [List.length_set]; exact hsn
                have hbl2 := hbl.setCell (p := ⟨w.heap.size + 1, 2, none⟩) (by show w.heap.size ≤ w.heap.size + 1; omega) (.bool true)
                clear hs
                have HO2 := Lib.hid hown2; clear hown2
                have HC2 := Lib.hid cw2; clear cw2
                go_wp2_with fail
                all_goals
                  go_roundw
                  case rel => exact ⟨k + 1, sn.set 1 true, true, by omega, by go_num, by first | rfl | simp_all, hsn2, HO2.out, HN, HC2.out, hbl2⟩
                  case measure => simp [intOf]; omega
            · clear h35 h49
              cases hs : sn.getD 2 false with
              | true =>
                have HN : Hid (lvT l = false) := Lib.hid (HS.out.trans (goC_seen hkW (by rw [HB.out, hT]; decide) (by rw [HB.out, hT]; decide) (by rw [HB.out, hT]; exact hs)))
                have c2 : wr.cell? ⟨w.heap.size + 1, 3, none⟩ = some (.bool true) := (sn_cell hown 3 (by omega)).trans (by rw [show (false :: sn).getD 3 false = true from hs])
                clear hs
                go_wp2_with fail
                go_ret
                exact ⟨ret_bool (by rw [HN.out]), hbl⟩
              | false =>
                have HN : Hid (lvT l = goC row W0 (edgeR l r) (goR l W0 (l.length - (r + 1))) (W0 - (k + 1)) (sn.set 2 true) true) := Lib.hid (HS.out.trans (by
                  have := goC_new (K := goR l W0 (l.length - (r + 1))) (op := op) hkW HE.out (by rw [HB.out, hT]; decide) (by rw [HB.out, hT]; decide) (by rw [HB.out, hT]; exact hs)
                  rw [HB.out, hT] at this
                  exact this))
                have c2 : wr.cell? ⟨w.heap.size + 1, 3, none⟩ = some (.bool false) := (sn_cell hown 3 (by omega)).trans (by rw [show (false :: sn).getD 3 false = false from hs])
                have f2 := hown.free 3 (by omega)
                have hown2 : Own _ _ _ _ _ _ := sn_set hown 3 (by omega)
                have cw2 := cell_set_ne (p := ⟨w.heap.size + 1, 3, none⟩) (v := .bool true) cw (by show w.heap.size + 1 ≠ w.heap.size; omega)
                have hsn2 : (sn.set 2 true).length = 4 := by rw [List.length_set]; exact hsn
                have hbl2 := hbl.setCell (p := ⟨w.heap.size + 1, 3, none⟩) (by show w.heap.size ≤ w.heap.size + 1; omega) (.bool true)
                clear hs
                have HO2 := Lib.hid hown2; clear hown2
                have HC2 := Lib.hid cw2; clear cw2
                go_wp2_with fail
                all_goals
                  go_roundw
                  case rel => exact ⟨k + 1, sn.set 2 true, true, by omega, by go_num, by first | rfl | simp_all, hsn2, HO2.out, HN, HC2.out, hbl2⟩
                  case measure => simp [intOf]; omega
            · clear h35 h49
              cases hs : sn.getD 3 false with
              | true =>
                have HN : Hid (lvT l = false) := Lib.hid (HS.out.trans (goC_seen hkW (by rw [HB.out, hT]; decide) (by rw [HB.out, hT]; decide) (by rw [HB.out, hT]; exact hs)))
                have c2 : wr.cell? ⟨w.heap.size + 1, 4, none⟩ = some (.bool true) := (sn_cell hown 4 (by omega)).trans (by rw [show (false :: sn).getD 4 false = true from hs])
                clear hs
                go_wp2_with fail
                go_ret
                exact ⟨ret_bool (by rw [HN.out]), hbl⟩
              | false =>
                have HN : Hid (lvT l = goC row W0 (edgeR l r) (goR l W0 (l.length - (r + 1))) (W0 - (k + 1)) (sn.set 3 true) true) := Lib.hid (HS.out.trans (by
                  have := goC_new (K := goR l W0 (l.length - (r + 1))) (op := op) hkW HE.out (by rw [HB.out, hT]; decide) (by rw [HB.out, hT]; decide) (by rw [HB.out, hT]; exact hs)
                  rw [HB.out, hT] at this
                  exact this))
                have c2 : wr.cell? ⟨w.heap.size + 1, 4, none⟩ = some (.bool false) := (sn_cell hown 4 (by omega)).trans (by rw [show (false :: sn).getD 4 false = false from hs])
                have f2 := hown.free 4 (by omega)
                have hown2 : Own _ _ _ _ _ _ := sn_set hown 4 (by omega)
                have cw2 := cell_set_ne (p := ⟨w.heap.size + 1, 4, none⟩) (v := .bool true) cw (by show w.heap.size + 1 ≠ w.heap.size; omega)
                have hsn2 : (sn.set 3 true).length = 4 := by rw [List.length_set]; exact hsn
                have hbl2 := hbl.setCell (p := ⟨w.heap.size + 1, 4, none⟩) (by show w.heap.size ≤ w.heap.size + 1; omega) (.bool true)
                clear hs
                have HO2 := Lib.hid hown2; clear hown2
                have HC2 := Lib.hid cw2; clear cw2
                go_wp2_with fail
                all_goals
                  go_roundw
                  case rel => exact ⟨k + 1, sn.set 3 true, true, by omega, by go_num, by first | rfl | simp_all, hsn2, HO2.out, HN, HC2.out, hbl2⟩
                  case measure => simp [intOf]; omega
          · by_cases hT : ((row[k]'hk').toNat : Int) = 111 ∨ ((row[k]'hk').toNat : Int) = 46
            · have HN := Lib.hid (HS.out.trans (goC_open (op := op) hkW HE.out (by rw [HB.out]; exact hT)))
              clear h35 h49
              rcases hT with hT | hT
              all_goals
                go_wp2_with fail
                all_goals
                  go_roundw
                  case rel => exact ⟨k + 1, sn, true, by omega, by go_num, by first | rfl | simp_all, hsn, hown, HN, cw, hbl⟩
                  case measure => simp [intOf]; omega
            · have HN := Lib.hid (HS.out.trans (goC_bad hkW (by rw [HB.out]; exact h35) (by rw [HB.out]; omega) (by rw [HB.out]; omega) (by rw [HB.out]; omega)))
              have n35 : (((row[k]'hk').toNat : Int) == 35) = false := beq_eq_false_iff_ne.2 h35
              have n35b : (((row[k]'hk').toNat : Int) != 35) = true := by simp; omega
              have n111 : (((row[k]'hk').toNat : Int) != 111) = true := by simp; omega
              have n46 : (((row[k]'hk').toNat : Int) != 46) = true := by simp; omega
              rcases (show ((row[k]'hk').toNat : Int) < 49 ∨ (49 ≤ ((row[k]'hk').toNat : Int) ∧ 52 < ((row[k]'hk').toNat : Int)) by omega) with h1 | ⟨h1, h2⟩
              all_goals
                clear hT h35 h49
                go_wp2_with fail
                go_ret
                exact ⟨ret_bool (by rw [HN.out]), hbl⟩
        have HE := Lib.hid (edge_yes (l := l) (k := k) (w := W0) hr1 hkW HX.out)
        rcases hx with e1 | ⟨e1, e2⟩ | ⟨e1, e2, e3⟩ | ⟨e1, e2, e3, e4⟩
        all_goals
          by_cases h35 : ((row[k]'hk').toNat : Int) = 35
          · have HN := Lib.hid (HS.out.trans (goC_wall hkW (by rw [HB.out]; exact h35)))
            have n111 : (((row[k]'hk').toNat : Int) != 35) = false := by rw [h35]; rfl
            go_wp2_with fail
            all_goals
              go_roundw
              case rel => exact ⟨k + 1, sn, op, by omega, by go_num, by first | rfl | simp_all, hsn, hown, HN, cw, hbl⟩
              case measure => simp [intOf]; omega
          · have HN := Lib.hid (HS.out.trans (goC_edge hkW (by rw [HB.out]; exact h35) HE.out))
            have n35 : (((row[k]'hk').toNat : Int) == 35) = false := beq_eq_false_iff_ne.2 h35
            have n35b : (((row[k]'hk').toNat : Int) != 35) = true := by simp; omega
            clear h35
            go_wp2_with fail
            go_ret
            exact ⟨ret_bool (by rw [HN.out]), hbl⟩
  · have HN := Lib.hid (lvT_out (l := l) (by omega))
    clear hc
    rcases (show l.length < 3 ∨ (3 ≤ l.length ∧ 12 < l.length) by omega) with h1 | ⟨h1, h2⟩
    all_goals
      clear hn
      go_enter Tryd.func19, Tryd.ntmps19
      go_wp2_with fail
      go_ret
      exact ⟨ret_bool (by rw [HN.out]), (Below.refl _ _).alloc (Nat.le_refl _) _⟩
end Go.Proofs.YtiopbdodegopdaaDoor
