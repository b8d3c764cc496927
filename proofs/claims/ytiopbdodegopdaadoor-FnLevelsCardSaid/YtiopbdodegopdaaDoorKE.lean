/- Texts Lvs, Lvo, Sla, Sta in one. -/
import Derived.Test.YtiopbdodegopdaaDoorKB
import Derived.Test.YtiopbdodegopdaaDoorKD
/- LevelOk: the program's and the reference's return the same plain function of the rows. -/
namespace Go.Proofs.YtiopbdodegopdaaDoor
open Go.RowKit

theorem edge_cases (r n k w : Nat) (hr : r < n) (hk : k < w) : (((r : Int) == 0) = false ∧ ((k : Int) == 0) = false ∧ ((r : Int) == (n : Int) - 1) = false ∧ ((k : Int) == (w : Int) - 1) = false ∧ Hid (0 < r ∧ 0 < k ∧ r + 1 < n ∧ k + 1 < w)) ∨
    ((((r : Int) == 0) = true ∨ (((r : Int) == 0) = false ∧ ((k : Int) == 0) = true) ∨ (((r : Int) == 0) = false ∧ ((k : Int) == 0) = false ∧ ((r : Int) == (n : Int) - 1) = true) ∨ (((r : Int) == 0) = false ∧ ((k : Int) == 0) = false ∧ ((r : Int) == (n : Int) - 1) = false ∧ ((k : Int) == (w : Int) - 1) = true)) ∧ Hid (r < 1 ∨ k < 1 ∨ n ≤ r + 1 ∨ w ≤ k + 1)) := by
  by_cases h1 : (r : Int) = 0
  · exact .inr ⟨.inl (beq_iff_eq.2 h1), Lib.hid (by omega)⟩
  by_cases h2 : (k : Int) = 0
  · exact .inr ⟨.inr (.inl ⟨beq_eq_false_iff_ne.2 h1, beq_iff_eq.2 h2⟩), Lib.hid (by omega)⟩
  by_cases h3 : (r : Int) = (n : Int) - 1
  · exact .inr ⟨.inr (.inr (.inl ⟨beq_eq_false_iff_ne.2 h1, beq_eq_false_iff_ne.2 h2, beq_iff_eq.2 h3⟩)), Lib.hid (by omega)⟩
  by_cases h4 : (k : Int) = (w : Int) - 1
  · exact .inr ⟨.inr (.inr (.inr ⟨beq_eq_false_iff_ne.2 h1, beq_eq_false_iff_ne.2 h2, beq_eq_false_iff_ne.2 h3, beq_iff_eq.2 h4⟩)), Lib.hid (by omega)⟩
  · exact .inl ⟨beq_eq_false_iff_ne.2 h1, beq_eq_false_iff_ne.2 h2, beq_eq_false_iff_ne.2 h3, beq_eq_false_iff_ne.2 h4, Lib.hid (by omega)⟩
theorem edge_yes {l : List ByteArray} {r k w : Nat} (hr : r < l.length) (hk : k < w) (h : r < 1 ∨ k < 1 ∨ l.length ≤ r + 1 ∨ w ≤ k + 1) : edgeR l r = true ∨ k = 0 ∨ k + 1 = w := by
  unfold edgeR
  simp only [Bool.or_eq_true, decide_eq_true_eq]
  omega
theorem edge_no {l : List ByteArray} {r k w : Nat} (h1 : 0 < r) (h2 : 0 < k) (h3 : r + 1 < l.length) (h4 : k + 1 < w) : ¬ (edgeR l r = true ∨ k = 0 ∨ k + 1 = w) := by
  unfold edgeR
  simp only [Bool.or_eq_true, decide_eq_true_eq]
  omega
theorem bools_at {l : List Bool} {k : Nat} (h : k < l.length) : (l.map Value.bool)[k]? = some (.bool (l.getD k false)) := by
  rw [List.getElem?_map, List.getElem?_eq_getElem h]
  simp [List.getD, List.getElem?_eq_getElem h]
theorem Own.lit_ {w : World} {base sz n g : Nat} {C : Array Value} {cs : List Value} (e : TypeId) (hg : g = w.heap.size) (hC : C.toList = cs) (hl : cs.length = n * sz) (hb : base ≤ w.heap.size) (hm : n ≤ maxLen) :
    Own (w.alloc (.cells C e (0, 0))) base sz (.slice (some ⟨g, 0, none⟩) n n) n cs := by
  subst hg; exact Own.lit e hC hl hb hm
theorem sn_set {w' : World} {B g n : Nat} {sn : List Bool} (h : Own w' B 1 (.slice (some ⟨g, 0, none⟩) n n) n (sn.map Value.bool)) (j : Nat) (hj : j < n) :
    Own (w'.setCell ⟨g, j, none⟩ (.bool true)) B 1 (.slice (some ⟨g, 0, none⟩) n n) n ((sn.set j true).map Value.bool) := by
  rw [List.map_set]; exact (h.stored j _ (by omega)).1
theorem sn_cell {w' : World} {B g n : Nat} {sn : List Bool} (h : Own w' B 1 (.slice (some ⟨g, 0, none⟩) n n) n (sn.map Value.bool)) (j : Nat) (hj : j < n) : w'.cell? ⟨g, j, none⟩ = some (.bool (sn.getD j false)) := by
  have hl := h.len
  rw [List.length_map] at hl
  rw [h.cell (by omega), bools_at (by omega)]
theorem cell_set_ne {w : World} {p q : Addr} {v x : Value} (h : w.cell? q = some x) (hne : p.block ≠ q.block) : (w.setCell p v).cell? q = some x := by
  rw [World.cell?_setCell_other _ _ _ _ (by intro e; exact hne (by rw [e]))]; exact h
set_option maxRecDepth 100000 in
set_option maxHeartbeats 16000000 in
theorem lvok_spec {u : Value} {l : List ByteArray} (w : World) (h : At w 1 u l.length (l.map Value.string)) (hm : l.length ≤ 1048576) (hz : ∀ s ∈ l, s.size ≤ 1048576) :
    Calls Tryd.prog 31 #[.agg #[u]] w fun e w' => e = .returned (.bool (lvT l)) ∧ Below w.heap.size w w' := by
  obtain ⟨ao, cap, rfl, hc⟩ := h.cellS
  by_cases hn : 3 ≤ l.length ∧ l.length ≤ 12
  · obtain ⟨hn1, hn2⟩ := hn
    obtain ⟨g, off, rfl, hg, hcell⟩ := hc (by omega)
    clear hc
    have hrow : ∀ r, r < l.length → w.cell? ⟨g, off + r, none⟩ = some (.string (rowAt l r)) := fun r hr => by rw [rowAt_eq hr]; exact hcell r hr
    have hzz : ∀ r, r < l.length → (rowAt l r).size ≤ 1048576 := fun r hr => by rw [rowAt_eq hr]; exact hz _ (List.getElem_mem hr)
    have c00 : w.cell? ⟨g, off, none⟩ = some (.string (rowAt l 0)) := hrow 0 (by omega)
    have z0 := hzz 0 (by omega)
    have HR := Lib.hid hrow; clear hrow hcell
    have HZ := Lib.hid hzz; clear hzz hz
    obtain ⟨row0, hrow0⟩ : ∃ x, rowAt l 0 = x := ⟨_, rfl⟩
    have HO : Hid (¬ (4 ≤ row0.size ∧ row0.size ≤ 20) → lvT l = false) := Lib.hid fun hx => lvT_out (by rw [hrow0]; omega)
    have HI : Hid (4 ≤ row0.size → row0.size ≤ 20 → lvT l = goR l row0.size (l.length - 0) [false, false, false, false] false) := Lib.hid fun h1 h2 => by
      have := lvT_in hn1 hn2 (by rw [hrow0]; exact h1) (by rw [hrow0]; exact h2)
      rw [hrow0] at this; exact this
    rw [hrow0] at c00 z0
    clear hrow0
    obtain ⟨W0, hW0⟩ : ∃ x, x = row0.size := ⟨_, rfl⟩
    go_enter Tryd.func31, Tryd.ntmps31
    rw [← hW0] at z0 HO HI
    have HW0 := Lib.hid hW0; clear hW0
    go_wp2_with fail
    refine (in_yes _ _ _ _ (by omega) (by omega)).mono ?_
    rintro e wx ⟨rfl, rfl⟩
    go_wp2_with fail
    rw [← HW0.out]
    generalize hw1 : (w.alloc _).alloc _ = w1
    have hb1 : Below w.heap.size w w1 := by rw [← hw1]; exact ((Below.refl _ _).alloc (Nat.le_refl _) _).alloc (by simp) _
    have c1 : w1.cell? ⟨w.heap.size, 0, none⟩ = some (.slice (some ⟨g, off, none⟩) l.length cap) := by
      rw [← hw1]; simp [World.cell?_alloc_past, World.cell?_alloc_at]
    have ho1 : Own w1 (w.heap.size + 1) 1 (.slice (some ⟨w.heap.size + 1, 0, none⟩) 4 4) 4 ([false, false, false, false].map Value.bool) := by
      rw [← hw1]; exact Own.lit_ _ (by simp) rfl rfl (by simp) (by unfold maxLen; omega)
    clear hw1 c00
    go_loopw [4, 6] (fun o i wr => ∃ (r : Nat) (sn : List Bool) (op : Bool), r ≤ l.length ∧ i = .int .i64 r ∧ o = .bool op ∧ sn.length = 4 ∧ Own wr (w.heap.size + 1) 1 (.slice (some ⟨w.heap.size + 1, 0, none⟩) 4 4) 4 (sn.map Value.bool) ∧ Hid (4 ≤ W0 → W0 ≤ 20 → lvT l = goR l W0 (l.length - r) sn op) ∧ Hid (1 ≤ r → 4 ≤ W0 ∧ W0 ≤ 20) ∧ wr.cell? ⟨w.heap.size, 0, none⟩ = some (.slice (some ⟨g, off, none⟩) l.length cap) ∧ Below w.heap.size w wr) (fun _ i _ => l.length - (intOf i).toNat)
    case atStart => exact ⟨0, _, false, Nat.zero_le _, rfl, rfl, rfl, ho1, HI, Lib.hid (fun h => by omega), c1, hb1⟩
    case round =>
      obtain ⟨r, sn, op, hr, rfl, rfl, hsn, hown, HS, HG, cw, hbl⟩ := hrel
      clear c1 ho1 hb1
      have hszr := hbl.size
      by_cases hr0 : ¬ r < l.length
      · have hre : r = l.length := by omega
        obtain ⟨g1, g2⟩ := HG.out (by omega)
        have HN := Lib.hid ((HS.out g1 g2).trans (goR_end hre))
        clear hre
        go_wp2_with fail
        go_ret
        exact ⟨ret_bool (by rw [HN.out]), hbl⟩
      have hr1 : r < l.length := by omega
      clear hr0
      have cr : wr.cell? ⟨g, off + r, none⟩ = some (.string (rowAt l r)) := (hbl.cell hg).trans (HR.out r hr1)
      have zr := HZ.out r hr1
      by_cases hsz : ¬ (rowAt l r).size = W0
      · have HN : Hid (lvT l = false) := Lib.hid (by
          by_cases h4 : 4 ≤ W0 ∧ W0 ≤ 20
          · exact (HS.out h4.1 h4.2).trans (goR_no hr1 hsz)
          · exact HO.out h4)
        have hsz' : (((rowAt l r).size : Int) != (W0 : Int)) = true := by simp; omega
        clear hsz
        go_wp2_with fail
        go_ret
        exact ⟨ret_bool (by rw [HN.out]), hbl⟩
      replace hsz := Decidable.not_not.1 hsz
      by_cases h4 : ¬ (4 ≤ W0 ∧ W0 ≤ 20)
      · have HN := Lib.hid (HO.out h4)
        have hsz' : (((rowAt l r).size : Int) != (W0 : Int)) = false := by simp; omega
        have HI4 : ∀ wx, Calls Tryd.prog 43 #[.int .i64 (W0 : Int), .int .i64 4, .int .i64 20] wx fun e w' => e = .returned (.bool false) ∧ wx = w' := fun wx => in_no _ _ _ wx (by omega)
        clear hsz
        go_wp2_with fail
        refine (HI4 _).mono ?_
        rintro e wx ⟨rfl, rfl⟩
        go_wp2_with fail
        go_ret
        exact ⟨ret_bool (by rw [HN.out]), hbl⟩
      replace h4 := Decidable.not_not.1 h4
      have HG2 := Lib.hid (fun (_ : 1 ≤ r + 1) => h4)
      have HT := Lib.hid ((HS.out h4.1 h4.2).trans (goR_yes hr1 hsz))
      obtain ⟨h41, h42⟩ := h4
      obtain ⟨row, hrw⟩ : ∃ x, rowAt l r = x := ⟨_, rfl⟩
      rw [hrw] at cr zr hsz HT
      have CR : Hid (w.cell? ⟨g, off + r, none⟩ = some (.string row)) := Lib.hid ((HR.out r hr1).trans (by rw [hrw]))
      clear hrw HS
      have hszb : ((row.size : Int) != (W0 : Int)) = false := by simp; omega
      have HSZ := Lib.hid hsz; clear hsz
      go_wp2_with fail
      refine (in_yes _ _ _ _ (by omega) (by omega)).mono ?_
      rintro e wx ⟨rfl, rfl⟩
      go_wp2_with fail
      obtain ⟨wo, rfl⟩ : ∃ wo : World, wo = wr := ⟨_, rfl⟩
      go_loopw [4, 7] (fun o i wr => ∃ (k : Nat) (sn' : List Bool) (op' : Bool), k ≤ W0 ∧ i = .int .i64 k ∧ o = .bool op' ∧ sn'.length = 4 ∧ Own wr (w.heap.size + 1) 1 (.slice (some ⟨w.heap.size + 1, 0, none⟩) 4 4) 4 (sn'.map Value.bool) ∧ Hid (lvT l = goC row W0 (edgeR l r) (goR l W0 (l.length - (r + 1))) (W0 - k) sn' op') ∧ wr.cell? ⟨w.heap.size, 0, none⟩ = some (.slice (some ⟨g, off, none⟩) l.length cap) ∧ Below w.heap.size w wr) (fun _ i _ => W0 - (intOf i).toNat)
      case atStart => exact ⟨0, sn, op, Nat.zero_le _, rfl, rfl, hsn, hown, HT, cw, hbl⟩
      case round =>
        clear hown HT cw hbl hszr hsn
        obtain ⟨k, sn, op, hk, rfl, rfl, hsn, hown, HS, cw, hbl⟩ := hrel
        have hszr := hbl.size
        by_cases hkN : ¬ k < W0
        · have HN := Lib.hid (HS.out.trans (goC_end (show k = W0 by omega)))
          go_wp2_with fail
          go_roundw
          case rel => exact ⟨r + 1, sn, op, by omega, by go_num, rfl, hsn, hown, Lib.hid (fun _ _ => HN.out), HG2, cw, hbl⟩
          case measure => simp [intOf]; omega
        have hkW : k < W0 := by omega
        clear hkN
        have hk' : k < row.size := by rw [HSZ.out]; exact hkW
        have HB := Lib.hid (byteAt_eq hk')
        have ht := (row[k]'hk').toNat_lt
        have cr2 : wr.cell? ⟨g, off + r, none⟩ = some (.string row) := (hbl.cell hg).trans CR.out
        rcases edge_cases r l.length k W0 hr1 hkW with ⟨e1, e2, e3, e4, HX⟩ | ⟨hx, HX⟩
        · have HE := Lib.hid (edge_no (l := l) HX.out.1 HX.out.2.1 HX.out.2.2.1 HX.out.2.2.2)
          by_cases h35 : ((row[k]'hk').toNat : Int) = 35
          · have HN := Lib.hid (HS.out.trans (goC_wall hkW (by rw [HB.out]; exact h35)))
            have n111 : (((row[k]'hk').toNat : Int) != 35) = false := by rw [h35]; rfl
            go_wp2_with fail
            all_goals
              go_roundw
              case rel => exact ⟨k + 1, sn, op, by omega, by go_num, by first | rfl | simp_all, hsn, hown, HN, cw, hbl⟩
              case measure => simp [intOf]; omega
          by_cases h49 : 49 ≤ ((row[k]'hk').toNat : Int) ∧ ((row[k]'hk').toNat : Int) ≤ 52
          · rcases (show ((row[k]'hk').toNat : Int) = 49 ∨ ((row[k]'hk').toNat : Int) = 50 ∨ ((row[k]'hk').toNat : Int) = 51 ∨ ((row[k]'hk').toNat : Int) = 52 by omega) with hT | hT | hT | hT
            · clear h35 h49
              cases hs : sn.getD 0 false with
              | true =>
                have HN : Hid (lvT l = false) := Lib.hid (HS.out.trans (goC_seen hkW (by rw [HB.out, hT]; decide) (by rw [HB.out, hT]; decide) (by rw [HB.out, hT]; exact hs)))
                have c2 : wr.cell? ⟨w.heap.size + 1, 0, none⟩ = some (.bool true) := (sn_cell hown 0 (by omega)).trans (by rw [show sn.getD 0 false = true from hs])
                clear hs
                go_wp2_with fail
                go_ret
                exact ⟨ret_bool (by rw [HN.out]), hbl⟩
              | false =>
                have HN : Hid (lvT l = goC row W0 (edgeR l r) (goR l W0 (l.length - (r + 1))) (W0 - (k + 1)) (sn.set 0 true) true) := Lib.hid (HS.out.trans (by
                  have := goC_new (K := goR l W0 (l.length - (r + 1))) (op := op) hkW HE.out (by rw [HB.out, hT]; decide) (by rw [HB.out, hT]; decide) (by rw [HB.out, hT]; exact hs)
                  rw [HB.out, hT] at this
                  exact this))
                have c2 : wr.cell? ⟨w.heap.size + 1, 0, none⟩ = some (.bool false) := (sn_cell hown 0 (by omega)).trans (by rw [show sn.getD 0 false = false from hs])
                have f2 := hown.free 0 (by omega)
                have hown2 : Own _ _ _ _ _ _ := sn_set hown 0 (by omega)
                have cw2 := cell_set_ne (p := ⟨w.heap.size + 1, 0, none⟩) (v := .bool true) cw (by show w.heap.size + 1 ≠ w.heap.size; omega)
                have hsn2 : (sn.set 0 true).length = 4 := by rw [List.length_set]; exact hsn
                have hbl2 := hbl.setCell (p := ⟨w.heap.size + 1, 0, none⟩) (by show w.heap.size ≤ w.heap.size + 1; omega) (.bool true)
                clear hs
                have HO2 := Lib.hid hown2; clear hown2
                have HC2 := Lib.hid cw2; clear cw2
                go_wp2_with fail
                all_goals
                  go_roundw
                  case rel => exact ⟨k + 1, sn.set 0 true, true, by omega, by go_num, by first | rfl | simp_all, hsn2, HO2.out, HN, HC2.out, hbl2⟩
                  case measure => simp [intOf]; omega
            · clear h35 h49
              cases hs : sn.getD 1 false with
              | true =>
                have HN : Hid (lvT l = false) := Lib.hid (HS.out.trans (goC_seen hkW (by rw [HB.out, hT]; decide) (by rw [HB.out, hT]; decide) (by rw [HB.out, hT]; exact hs)))
                have c2 : wr.cell? ⟨w.heap.size + 1, 1, none⟩ = some (.bool true) := (sn_cell hown 1 (by omega)).trans (by rw [show sn.getD 1 false = true from hs])
                clear hs
                go_wp2_with fail
                go_ret
                exact ⟨ret_bool (by rw [HN.out]), hbl⟩
              | false =>
                have HN : Hid (lvT l = goC row W0 (edgeR l r) (goR l W0 (l.length - (r + 1))) (W0 - (k + 1)) (sn.set 1 true) true) := Lib.hid (HS.out.trans (by
                  have := goC_new (K := goR l W0 (l.length - (r + 1))) (op := op) hkW HE.out (by rw [HB.out, hT]; decide) (by rw [HB.out, hT]; decide) (by rw [HB.out, hT]; exact hs)
                  rw [HB.out, hT] at this
                  exact this))
                have c2 : wr.cell? ⟨w.heap.size + 1, 1, none⟩ = some (.bool false) := (sn_cell hown 1 (by omega)).trans (by rw [show sn.getD 1 false = false from hs])
                have f2 := hown.free 1 (by omega)
                have hown2 : Own _ _ _ _ _ _ := sn_set hown 1 (by omega)
                have cw2 := cell_set_ne (p := ⟨w.heap.size + 1, 1, none⟩) (v := .bool true) cw (by show w.heap.size + 1 ≠ w.heap.size; omega)
                have hsn2 : (sn.set 1 true).length = 4 := by rw [List.length_set]; exact hsn
                have hbl2 := hbl.setCell (p := ⟨w.heap.size + 1, 1, none⟩) (by show w.heap.size ≤ w.heap.size + 1; omega) (.bool true)
                clear hs
                have HO2 := Lib.hid hown2; clear hown2
                have HC2 := Lib.hid cw2; clear cw2
                go_wp2_with fail
                all_goals
                  go_roundw
                  case rel => exact ⟨k + 1, sn.set 1 true, true, by omega, by go_num, by first | rfl | simp_all, hsn2, HO2.out, HN, HC2.out, hbl2⟩
                  case measure => simp [intOf]; omega
            · clear h35 h49
              cases hs : sn.getD 2 false with
              | true =>
                have HN : Hid (lvT l = false) := Lib.hid (HS.out.trans (goC_seen hkW (by rw [HB.out, hT]; decide) (by rw [HB.out, hT]; decide) (by rw [HB.out, hT]; exact hs)))
                have c2 : wr.cell? ⟨w.heap.size + 1, 2, none⟩ = some (.bool true) := (sn_cell hown 2 (by omega)).trans (by rw [show sn.getD 2 false = true from hs])
                clear hs
                go_wp2_with fail
                go_ret
                exact ⟨ret_bool (by rw [HN.out]), hbl⟩
              | false =>
                have HN : Hid (lvT l = goC row W0 (edgeR l r) (goR l W0 (l.length - (r + 1))) (W0 - (k + 1)) (sn.set 2 true) true) := Lib.hid (HS.out.trans (by
                  have := goC_new (K := goR l W0 (l.length - (r + 1))) (op := op) hkW HE.out (by rw [HB.out, hT]; decide) (by rw [HB.out, hT]; decide) (by rw [HB.out, hT]; exact hs)
                  rw [HB.out, hT] at this
                  exact this))
                have c2 : wr.cell? ⟨w.heap.size + 1, 2, none⟩ = some (.bool false) := (sn_cell hown 2 (by omega)).trans (by rw [show sn.getD 2 false = false from hs])
                have f2 := hown.free 2 (by omega)
                have hown2 : Own _ _ _ _ _ _ := sn_set hown 2 (by omega)
                have cw2 := cell_set_ne (p := ⟨w.heap.size + 1, 2, none⟩) (v := .bool true) cw (by show w.heap.size + 1 ≠ w.heap.size; omega)
                have hsn2 : (sn.set 2 true).length = 4 := by rw [List.length_set]; exact hsn
                have hbl2 := hbl.setCell (p := ⟨w.heap.size + 1, 2, none⟩) (by show w.heap.size ≤ w.heap.size + 1; omega) (.bool true)
                clear hs
                have HO2 := Lib.hid hown2; clear hown2
                have HC2 := Lib.hid cw2; clear cw2
                go_wp2_with fail
                all_goals
                  go_roundw
                  case rel => exact ⟨k + 1, sn.set 2 true, true, by omega, by go_num, by first | rfl | simp_all, hsn2, HO2.out, HN, HC2.out, hbl2⟩
                  case measure => simp [intOf]; omega
            · clear h35 h49
              cases hs : sn.getD 3 false with
              | true =>
                have HN : Hid (lvT l = false) := Lib.hid (HS.out.trans (goC_seen hkW (by rw [HB.out, hT]; decide) (by rw [HB.out, hT]; decide) (by rw [HB.out, hT]; exact hs)))
                have c2 : wr.cell? ⟨w.heap.size + 1, 3, none⟩ = some (.bool true) := (sn_cell hown 3 (by omega)).trans (by rw [show sn.getD 3 false = true from hs])
                clear hs
                go_wp2_with fail
                go_ret
                exact ⟨ret_bool (by rw [HN.out]), hbl⟩
              | false =>
                have HN : Hid (lvT l = goC row W0 (edgeR l r) (goR l W0 (l.length - (r + 1))) (W0 - (k + 1)) (sn.set 3 true) true) := Lib.hid (HS.out.trans (by
                  have := goC_new (K := goR l W0 (l.length - (r + 1))) (op := op) hkW HE.out (by rw [HB.out, hT]; decide) (by rw [HB.out, hT]; decide) (by rw [HB.out, hT]; exact hs)
                  rw [HB.out, hT] at this
                  exact this))
                have c2 : wr.cell? ⟨w.heap.size + 1, 3, none⟩ = some (.bool false) := (sn_cell hown 3 (by omega)).trans (by rw [show sn.getD 3 false = false from hs])
                have f2 := hown.free 3 (by omega)
                have hown2 : Own _ _ _ _ _ _ := sn_set hown 3 (by omega)
                have cw2 := cell_set_ne (p := ⟨w.heap.size + 1, 3, none⟩) (v := .bool true) cw (by show w.heap.size + 1 ≠ w.heap.size; omega)
                have hsn2 : (sn.set 3 true).length = 4 := by rw [List.length_set]; exact hsn
                have hbl2 := hbl.setCell (p := ⟨w.heap.size + 1, 3, none⟩) (by show w.heap.size ≤ w.heap.size + 1; omega) (.bool true)
                clear hs
                have HO2 := Lib.hid hown2; clear hown2
                have HC2 := Lib.hid cw2; clear cw2
                go_wp2_with fail
                all_goals
                  go_roundw
                  case rel => exact ⟨k + 1, sn.set 3 true, true, by omega, by go_num, by first | rfl | simp_all, hsn2, HO2.out, HN, HC2.out, hbl2⟩
                  case measure => simp [intOf]; omega
          · by_cases hT : ((row[k]'hk').toNat : Int) = 111 ∨ ((row[k]'hk').toNat : Int) = 46
            · have HN := Lib.hid (HS.out.trans (goC_open (op := op) hkW HE.out (by rw [HB.out]; exact hT)))
              clear h35 h49
              rcases hT with hT | hT
              all_goals
                go_wp2_with fail
                all_goals
                  go_roundw
                  case rel => exact ⟨k + 1, sn, true, by omega, by go_num, by first | rfl | simp_all, hsn, hown, HN, cw, hbl⟩
                  case measure => simp [intOf]; omega
            · have HN := Lib.hid (HS.out.trans (goC_bad hkW (by rw [HB.out]; exact h35) (by rw [HB.out]; omega) (by rw [HB.out]; omega) (by rw [HB.out]; omega)))
              have n35 : (((row[k]'hk').toNat : Int) == 35) = false := beq_eq_false_iff_ne.2 h35
              have n35b : (((row[k]'hk').toNat : Int) != 35) = true := by simp; omega
              have n111 : (((row[k]'hk').toNat : Int) != 111) = true := by simp; omega
              have n46 : (((row[k]'hk').toNat : Int) != 46) = true := by simp; omega
              rcases (show ((row[k]'hk').toNat : Int) < 49 ∨ (49 ≤ ((row[k]'hk').toNat : Int) ∧ 52 < ((row[k]'hk').toNat : Int)) by omega) with h1 | ⟨h1, h2⟩
              all_goals
                clear hT h35 h49
                go_wp2_with fail
                go_ret
                exact ⟨ret_bool (by rw [HN.out]), hbl⟩
        have HE := Lib.hid (edge_yes (l := l) (k := k) (w := W0) hr1 hkW HX.out)
        rcases hx with e1 | ⟨e1, e2⟩ | ⟨e1, e2, e3⟩ | ⟨e1, e2, e3, e4⟩
        all_goals
          by_cases h35 : ((row[k]'hk').toNat : Int) = 35
          · have HN := Lib.hid (HS.out.trans (goC_wall hkW (by rw [HB.out]; exact h35)))
            have n111 : (((row[k]'hk').toNat : Int) != 35) = false := by rw [h35]; rfl
            go_wp2_with fail
            all_goals
              go_roundw
              case rel => exact ⟨k + 1, sn, op, by omega, by go_num, by first | rfl | simp_all, hsn, hown, HN, cw, hbl⟩
              case measure => simp [intOf]; omega
          · have HN := Lib.hid (HS.out.trans (goC_edge hkW (by rw [HB.out]; exact h35) HE.out))
            have n35 : (((row[k]'hk').toNat : Int) == 35) = false := beq_eq_false_iff_ne.2 h35
            have n35b : (((row[k]'hk').toNat : Int) != 35) = true := by simp; omega
            clear h35
            go_wp2_with fail
            go_ret
            exact ⟨ret_bool (by rw [HN.out]), hbl⟩
  · have HN := Lib.hid (lvT_out (l := l) (by omega))
    clear hc
    go_enter Tryd.func31, Tryd.ntmps31
    go_wp2_with fail
    refine (in_no _ _ _ _ (by omega)).mono ?_
    rintro e wx ⟨rfl, rfl⟩
    go_wp2_with fail
    go_ret
    exact ⟨ret_bool (by rw [HN.out]), (Below.refl _ _).alloc (Nat.le_refl _) _⟩
end Go.Proofs.YtiopbdodegopdaaDoor
/- LevelOk, the program's. -/
namespace Go.Proofs.YtiopbdodegopdaaDoor
open Go.RowKit
theorem edge_cases2 (r n k w : Nat) (hr : r < n) (hk : k < w) : (((r : Int) == 0) = false ∧ ((r : Int) == (n : Int) - 1) = false ∧ ((k : Int) == 0) = false ∧ ((k : Int) == (w : Int) - 1) = false ∧ Hid (0 < r ∧ 0 < k ∧ r + 1 < n ∧ k + 1 < w)) ∨
    ((((r : Int) == 0) = true ∨ (((r : Int) == 0) = false ∧ ((r : Int) == (n : Int) - 1) = true) ∨ (((r : Int) == 0) = false ∧ ((r : Int) == (n : Int) - 1) = false ∧ ((k : Int) == 0) = true) ∨ (((r : Int) == 0) = false ∧ ((r : Int) == (n : Int) - 1) = false ∧ ((k : Int) == 0) = false ∧ ((k : Int) == (w : Int) - 1) = true)) ∧ Hid (r < 1 ∨ k < 1 ∨ n ≤ r + 1 ∨ w ≤ k + 1)) := by
  by_cases h1 : (r : Int) = 0
  · exact .inr ⟨.inl (beq_iff_eq.2 h1), Lib.hid (by omega)⟩
  by_cases h2 : (r : Int) = (n : Int) - 1
  · exact .inr ⟨.inr (.inl ⟨beq_eq_false_iff_ne.2 h1, beq_iff_eq.2 h2⟩), Lib.hid (by omega)⟩
  by_cases h3 : (k : Int) = 0
  · exact .inr ⟨.inr (.inr (.inl ⟨beq_eq_false_iff_ne.2 h1, beq_eq_false_iff_ne.2 h2, beq_iff_eq.2 h3⟩)), Lib.hid (by omega)⟩
  by_cases h4 : (k : Int) = (w : Int) - 1
  · exact .inr ⟨.inr (.inr (.inr ⟨beq_eq_false_iff_ne.2 h1, beq_eq_false_iff_ne.2 h2, beq_eq_false_iff_ne.2 h3, beq_iff_eq.2 h4⟩)), Lib.hid (by omega)⟩
  · exact .inl ⟨beq_eq_false_iff_ne.2 h1, beq_eq_false_iff_ne.2 h2, beq_eq_false_iff_ne.2 h3, beq_eq_false_iff_ne.2 h4, Lib.hid (by omega)⟩
set_option maxRecDepth 100000 in
set_option maxHeartbeats 16000000 in
theorem lvok_impl {u : Value} {l : List ByteArray} (w : World) (h : At w 1 u l.length (l.map Value.string)) (hm : l.length ≤ 1048576) (hz : ∀ s ∈ l, s.size ≤ 1048576) :
    Calls Tryd.prog 19 #[.agg #[u]] w fun e w' => e = .returned (.bool (lvT l)) ∧ Below w.heap.size w w' := by
  obtain ⟨ao, cap, rfl, hc⟩ := h.cellS
  by_cases hn : 3 ≤ l.length ∧ l.length ≤ 12
  · obtain ⟨hn1, hn2⟩ := hn
    obtain ⟨g, off, rfl, hg, hcell⟩ := hc (by omega)
    clear hc
    have hrow : ∀ r, r < l.length → w.cell? ⟨g, off + r, none⟩ = some (.string (rowAt l r)) := fun r hr => by rw [rowAt_eq hr]; exact hcell r hr
    have hzz : ∀ r, r < l.length → (rowAt l r).size ≤ 1048576 := fun r hr => by rw [rowAt_eq hr]; exact hz _ (List.getElem_mem hr)
    have c00 : w.cell? ⟨g, off, none⟩ = some (.string (rowAt l 0)) := hrow 0 (by omega)
    have z0 := hzz 0 (by omega)
    have HR := Lib.hid hrow; clear hrow hcell
    have HZ := Lib.hid hzz; clear hzz hz
    obtain ⟨row0, hrow0⟩ : ∃ x, rowAt l 0 = x := ⟨_, rfl⟩
    have HO : Hid (¬ (4 ≤ row0.size ∧ row0.size ≤ 20) → lvT l = false) := Lib.hid fun hx => lvT_out (by rw [hrow0]; omega)
    have HI : Hid (4 ≤ row0.size → row0.size ≤ 20 → lvT l = goR l row0.size (l.length - 0) [false, false, false, false] false) := Lib.hid fun h1 h2 => by
      have := lvT_in hn1 hn2 (by rw [hrow0]; exact h1) (by rw [hrow0]; exact h2)
      rw [hrow0] at this; exact this
    rw [hrow0] at c00 z0
    clear hrow0
    obtain ⟨W0, hW0⟩ : ∃ x, x = row0.size := ⟨_, rfl⟩
    go_enter Tryd.func19, Tryd.ntmps19
    by_cases h4 : ¬ (4 ≤ row0.size ∧ row0.size ≤ 20)
    · have HN := Lib.hid (HO.out h4)
      clear hW0 HI
      rcases (show row0.size < 4 ∨ (4 ≤ row0.size ∧ 20 < row0.size) by omega) with h5 | ⟨h5, h6⟩
      all_goals
        clear h4
        go_wp2_with fail
        go_ret
        exact ⟨ret_bool (by rw [HN.out]), (Below.refl _ _).alloc (Nat.le_refl _) _⟩
    obtain ⟨h41, h42⟩ : 4 ≤ row0.size ∧ row0.size ≤ 20 := Decidable.not_not.1 h4
    clear h4
    have HI2 := Lib.hid (HI.out h41 h42)
    clear HI HO
    rw [← hW0] at HI2
    have hw41 : 4 ≤ W0 := by omega
    have hw42 : W0 ≤ 20 := by omega
    have HW0 := Lib.hid hW0; clear hW0
    go_wp2_with fail
    rw [← HW0.out]
    clear h41 h42
    generalize hw1 : (w.alloc _).alloc _ = w1
    have hb1 : Below w.heap.size w w1 := by rw [← hw1]; exact ((Below.refl _ _).alloc (Nat.le_refl _) _).alloc (by simp) _
    have c1 : w1.cell? ⟨w.heap.size, 0, none⟩ = some (.slice (some ⟨g, off, none⟩) l.length cap) := by
      rw [← hw1]; simp [World.cell?_alloc_past, World.cell?_alloc_at]
    have ho1 : Own w1 (w.heap.size + 1) 1 (.slice (some ⟨w.heap.size + 1, 0, none⟩) 5 5) 5 ([false, false, false, false, false].map Value.bool) := by
      rw [← hw1]; exact Own.lit_ _ (by simp) rfl rfl (by simp) (by unfold maxLen; omega)
    clear hw1 c00
    go_loopw [5, 35] (fun o i wr => ∃ (r : Nat) (sn : List Bool) (op : Bool), r ≤ l.length ∧ i = .int .i64 r ∧ o = .bool op ∧ sn.length = 4 ∧ Own wr (w.heap.size + 1) 1 (.slice (some ⟨w.heap.size + 1, 0, none⟩) 5 5) 5 ((false :: sn).map Value.bool) ∧ Hid (lvT l = goR l W0 (l.length - r) sn op) ∧ wr.cell? ⟨w.heap.size, 0, none⟩ = some (.slice (some ⟨g, off, none⟩) l.length cap) ∧ Below w.heap.size w wr) (fun _ i _ => l.length - (intOf i).toNat)
    case atStart => exact ⟨0, _, false, Nat.zero_le _, rfl, rfl, rfl, ho1, HI2, c1, hb1⟩
    case round =>
      obtain ⟨r, sn, op, hr, rfl, rfl, hsn, hown, HS, cw, hbl⟩ := hrel
      clear c1 ho1 hb1
      have hszr := hbl.size
      by_cases hr0 : ¬ r < l.length
      · have hre : r = l.length := by omega
        have HN := Lib.hid (HS.out.trans (goR_end hre))
        clear hre
        go_wp2_with fail
        go_ret
        exact ⟨ret_bool (by rw [HN.out]), hbl⟩
      have hr1 : r < l.length := by omega
      clear hr0
      have cr : wr.cell? ⟨g, off + r, none⟩ = some (.string (rowAt l r)) := (hbl.cell hg).trans (HR.out r hr1)
      have zr := HZ.out r hr1
      by_cases hsz : ¬ (rowAt l r).size = W0
      · have HN := Lib.hid (HS.out.trans (goR_no hr1 hsz))
        have hsz' : (((rowAt l r).size : Int) != (W0 : Int)) = true := by simp; omega
        clear hsz
        go_wp2_with fail
        go_ret
        exact ⟨ret_bool (by rw [HN.out]), hbl⟩
      replace hsz := Decidable.not_not.1 hsz
      have HT := Lib.hid (HS.out.trans (goR_yes hr1 hsz))
      obtain ⟨row, hrw⟩ : ∃ x, rowAt l r = x := ⟨_, rfl⟩
      rw [hrw] at cr zr hsz HT
      have CR : Hid (w.cell? ⟨g, off + r, none⟩ = some (.string row)) := Lib.hid ((HR.out r hr1).trans (by rw [hrw]))
      clear hrw HS
      have hszb : ((row.size : Int) != (W0 : Int)) = false := by simp; omega
      have HSZ := Lib.hid hsz; clear hsz
      go_wp2_with fail
      obtain ⟨wo, rfl⟩ : ∃ wo : World, wo = wr := ⟨_, rfl⟩
      go_loopw [5, 8] (fun o i wr => ∃ (k : Nat) (sn' : List Bool) (op' : Bool), k ≤ W0 ∧ i = .int .i64 k ∧ o = .bool op' ∧ sn'.length = 4 ∧ Own wr (w.heap.size + 1) 1 (.slice (some ⟨w.heap.size + 1, 0, none⟩) 5 5) 5 ((false :: sn').map Value.bool) ∧ Hid (lvT l = goC row W0 (edgeR l r) (goR l W0 (l.length - (r + 1))) (W0 - k) sn' op') ∧ wr.cell? ⟨w.heap.size, 0, none⟩ = some (.slice (some ⟨g, off, none⟩) l.length cap) ∧ Below w.heap.size w wr) (fun _ i _ => W0 - (intOf i).toNat)
      case atStart => exact ⟨0, sn, op, Nat.zero_le _, rfl, rfl, hsn, hown, HT, cw, hbl⟩
      case round =>
        clear hown HT cw hbl hszr hsn
        obtain ⟨k, sn, op, hk, rfl, rfl, hsn, hown, HS, cw, hbl⟩ := hrel
        have hszr := hbl.size
        by_cases hkN : ¬ k < W0
        · have HN := Lib.hid (HS.out.trans (goC_end (show k = W0 by omega)))
          go_wp2_with fail
          go_roundw
          case rel => exact ⟨r + 1, sn, op, by omega, by go_num, rfl, hsn, hown, HN, cw, hbl⟩
          case measure => simp [intOf]; omega
        have hkW : k < W0 := by omega
        clear hkN
        have hk' : k < row.size := by rw [HSZ.out]; exact hkW
        have HB := Lib.hid (byteAt_eq hk')
        have ht := (row[k]'hk').toNat_lt
        rcases edge_cases2 r l.length k W0 hr1 hkW with ⟨e1, e2, e3, e4, HX⟩ | ⟨hx, HX⟩
        · have HE := Lib.hid (edge_no (l := l) HX.out.1 HX.out.2.1 HX.out.2.2.1 HX.out.2.2.2)
          by_cases h35 : ((row[k]'hk').toNat : Int) = 35
          · have HN := Lib.hid (HS.out.trans (goC_wall hkW (by rw [HB.out]; exact h35)))
            have n111 : (((row[k]'hk').toNat : Int) != 35) = false := by rw [h35]; rfl
            go_wp2_with fail
            all_goals
              go_roundw
              case rel => exact ⟨k + 1, sn, op, by omega, by go_num, by first | rfl | simp_all, hsn, hown, HN, cw, hbl⟩
              case measure => simp [intOf]; omega
          by_cases h49 : 49 ≤ ((row[k]'hk').toNat : Int) ∧ ((row[k]'hk').toNat : Int) ≤ 52
          · rcases (show ((row[k]'hk').toNat : Int) = 49 ∨ ((row[k]'hk').toNat : Int) = 50 ∨ ((row[k]'hk').toNat : Int) = 51 ∨ ((row[k]'hk').toNat : Int) = 52 by omega) with hT | hT | hT | hT
            · clear h35 h49
              cases hs : sn.getD 0 false with
              | true =>
                have HN : Hid (lvT l = false) := Lib.hid (HS.out.trans (goC_seen hkW (by rw [HB.out, hT]; decide) (by rw [HB.out, hT]; decide) (by rw [HB.out, hT]; exact hs)))
                have c2 : wr.cell? ⟨w.heap.size + 1, 1, none⟩ = some (.bool true) := (sn_cell hown 1 (by omega)).trans (by rw [show (false :: sn).getD 1 false = true from hs])
                clear hs
                go_wp2_with fail
                go_ret
                exact ⟨ret_bool (by rw [HN.out]), hbl⟩
              | false =>
                have HN : Hid (lvT l = goC row W0 (edgeR l r) (goR l W0 (l.length - (r + 1))) (W0 - (k + 1)) (sn.set 0 true) true) := Lib.hid (HS.out.trans (by
                  have := goC_new (K := goR l W0 (l.length - (r + 1))) (op := op) hkW HE.out (by rw [HB.out, hT]; decide) (by rw [HB.out, hT]; decide) (by rw [HB.out, hT]; exact hs)
                  rw [HB.out, hT] at this
                  exact this))
                have c2 : wr.cell? ⟨w.heap.size + 1, 1, none⟩ = some (.bool false) := (sn_cell hown 1 (by omega)).trans (by rw [show (false :: sn).getD 1 false = false from hs])
                have f2 := hown.free 1 (by omega)
                have hown2 : Own _ _ _ _ _ _ := sn_set hown 1 (by omega)
                have cw2 := cell_set_ne (p := ⟨w.heap.size + 1, 1, none⟩) (v := .bool true) cw (by show w.heap.size + 1 ≠ w.heap.size; omega)
                have hsn2 : (sn.set 0 true).length = 4 := by rw [List.length_set]; exact hsn
                have hbl2 := hbl.setCell (p := ⟨w.heap.size + 1, 1, none⟩) (by show w.heap.size ≤ w.heap.size + 1; omega) (.bool true)
                clear hs
                have HO2 := Lib.hid hown2; clear hown2
                have HC2 := Lib.hid cw2; clear cw2
                go_wp2_with fail
                all_goals
                  go_roundw
                  case rel => exact ⟨k + 1, sn.set 0 true, true, by omega, by go_num, by first | rfl | simp_all, hsn2, HO2.out, HN, HC2.out, hbl2⟩
                  case measure => simp [intOf]; omega
            · clear h35 h49
              cases hs : sn.getD 1 false with
              | true =>
                have HN : Hid (lvT l = false) := Lib.hid (HS.out.trans (goC_seen hkW (by rw [HB.out, hT]; decide) (by rw [HB.out, hT]; decide) (by rw [HB.out, hT]; exact hs)))
                have c2 : wr.cell? ⟨w.heap.size + 1, 2, none⟩ = some (.bool true) := (sn_cell hown 2 (by omega)).trans (by rw [show (false :: sn).getD 2 false = true from hs])
                clear hs
                go_wp2_with fail
                go_ret
                exact ⟨ret_bool (by rw [HN.out]), hbl⟩
              | false =>
                have HN : Hid (lvT l = goC row W0 (edgeR l r) (goR l W0 (l.length - (r + 1))) (W0 - (k + 1)) (sn.set 1 true) true) := Lib.hid (HS.out.trans (by
                  have := goC_new (K := goR l W0 (l.length - (r + 1))) (op := op) hkW HE.out (by rw [HB.out, hT]; decide) (by rw [HB.out, hT]; decide) (by rw [HB.out, hT]; exact hs)
                  rw [HB.out, hT] at this
                  exact this))
                have c2 : wr.cell? ⟨w.heap.size + 1, 2, none⟩ = some (.bool false) := (sn_cell hown 2 (by omega)).trans (by rw [show (false :: sn).getD 2 false = false from hs])
                have f2 := hown.free 2 (by omega)
                have hown2 : Own _ _ _ _ _ _ := sn_set hown 2 (by omega)
                have cw2 := cell_set_ne (p := ⟨w.heap.size + 1, 2, none⟩) (v := .bool true) cw (by show w.heap.size + 1 ≠ w.heap.size; omega)
                have hsn2 : (sn.set 1 true).length = 4 := by rw [List.length_set]; exact hsn
                have hbl2 := hbl.setCell (p := ⟨w.heap.size + 1, 2, none⟩) (by show w.heap.size ≤ w.heap.size + 1; omega) (.bool true)
                clear hs
                have HO2 := Lib.hid hown2; clear hown2
                have HC2 := Lib.hid cw2; clear cw2
                go_wp2_with fail
                all_goals
                  go_roundw
                  case rel => exact ⟨k + 1, sn.set 1 true, true, by omega, by go_num, by first | rfl | simp_all, hsn2, HO2.out, HN, HC2.out, hbl2⟩
                  case measure => simp [intOf]; omega
            · clear h35 h49
              cases hs : sn.getD 2 false with
              | true =>
                have HN : Hid (lvT l = false) := Lib.hid (HS.out.trans (goC_seen hkW (by rw [HB.out, hT]; decide) (by rw [HB.out, hT]; decide) (by rw [HB.out, hT]; exact hs)))
                have c2 : wr.cell? ⟨w.heap.size + 1, 3, none⟩ = some (.bool true) := (sn_cell hown 3 (by omega)).trans (by rw [show (false :: sn).getD 3 false = true from hs])
                clear hs
                go_wp2_with fail
                go_ret
                exact ⟨ret_bool (by rw [HN.out]), hbl⟩
              | false =>
                have HN : Hid (lvT l = goC row W0 (edgeR l r) (goR l W0 (l.length - (r + 1))) (W0 - (k + 1)) (sn.set 2 true) true) := Lib.hid (HS.out.trans (by
                  have := goC_new (K := goR l W0 (l.length - (r + 1))) (op := op) hkW HE.out (by rw [HB.out, hT]; decide) (by rw [HB.out, hT]; decide) (by rw [HB.out, hT]; exact hs)
                  rw [HB.out, hT] at this
                  exact this))
                have c2 : wr.cell? ⟨w.heap.size + 1, 3, none⟩ = some (.bool false) := (sn_cell hown 3 (by omega)).trans (by rw [show (false :: sn).getD 3 false = false from hs])
                have f2 := hown.free 3 (by omega)
                have hown2 : Own _ _ _ _ _ _ := sn_set hown 3 (by omega)
                have cw2 := cell_set_ne (p := ⟨w.heap.size + 1, 3, none⟩) (v := .bool true) cw (by show w.heap.size + 1 ≠ w.heap.size; omega)
                have hsn2 : (sn.set 2 true).length = 4 := by rw [List.length_set]; exact hsn
                have hbl2 := hbl.setCell (p := ⟨w.heap.size + 1, 3, none⟩) (by show w.heap.size ≤ w.heap.size + 1; omega) (.bool true)
                clear hs
                have HO2 := Lib.hid hown2; clear hown2
                have HC2 := Lib.hid cw2; clear cw2
                go_wp2_with fail
                all_goals
                  go_roundw
                  case rel => exact ⟨k + 1, sn.set 2 true, true, by omega, by go_num, by first | rfl | simp_all, hsn2, HO2.out, HN, HC2.out, hbl2⟩
                  case measure => simp [intOf]; omega
            · clear h35 h49
              cases hs : sn.getD 3 false with
              | true =>
                have HN : Hid (lvT l = false) := Lib.hid (HS.out.trans (goC_seen hkW (by rw [HB.out, hT]; decide) (by rw [HB.out, hT]; decide) (by rw [HB.out, hT]; exact hs)))
                have c2 : wr.cell? ⟨w.heap.size + 1, 4, none⟩ = some (.bool true) := (sn_cell hown 4 (by omega)).trans (by rw [show (false :: sn).getD 4 false = true from hs])
                clear hs
                go_wp2_with fail
                go_ret
                exact ⟨ret_bool (by rw [HN.out]), hbl⟩
              | false =>
                have HN : Hid (lvT l = goC row W0 (edgeR l r) (goR l W0 (l.length - (r + 1))) (W0 - (k + 1)) (sn.set 3 true) true) := Lib.hid (HS.out.trans (by
                  have := goC_new (K := goR l W0 (l.length - (r + 1))) (op := op) hkW HE.out (by rw [HB.out, hT]; decide) (by rw [HB.out, hT]; decide) (by rw [HB.out, hT]; exact hs)
                  rw [HB.out, hT] at this
                  exact this))
                have c2 : wr.cell? ⟨w.heap.size + 1, 4, none⟩ = some (.bool false) := (sn_cell hown 4 (by omega)).trans (by rw [show (false :: sn).getD 4 false = false from hs])
                have f2 := hown.free 4 (by omega)
                have hown2 : Own _ _ _ _ _ _ := sn_set hown 4 (by omega)
                have cw2 := cell_set_ne (p := ⟨w.heap.size + 1, 4, none⟩) (v := .bool true) cw (by show w.heap.size + 1 ≠ w.heap.size; omega)
                have hsn2 : (sn.set 3 true).length = 4 := by rw [List.length_set]; exact hsn
                have hbl2 := hbl.setCell (p := ⟨w.heap.size + 1, 4, none⟩) (by show w.heap.size ≤ w.heap.size + 1; omega) (.bool true)
                clear hs
                have HO2 := Lib.hid hown2; clear hown2
                have HC2 := Lib.hid cw2; clear cw2
                go_wp2_with fail
                all_goals
                  go_roundw
                  case rel => exact ⟨k + 1, sn.set 3 true, true, by omega, by go_num, by first | rfl | simp_all, hsn2, HO2.out, HN, HC2.out, hbl2⟩
                  case measure => simp [intOf]; omega
          · by_cases hT : ((row[k]'hk').toNat : Int) = 111 ∨ ((row[k]'hk').toNat : Int) = 46
            · have HN := Lib.hid (HS.out.trans (goC_open (op := op) hkW HE.out (by rw [HB.out]; exact hT)))
              clear h35 h49
              rcases hT with hT | hT
              all_goals
                go_wp2_with fail
                all_goals
                  go_roundw
                  case rel => exact ⟨k + 1, sn, true, by omega, by go_num, by first | rfl | simp_all, hsn, hown, HN, cw, hbl⟩
                  case measure => simp [intOf]; omega
            · have HN := Lib.hid (HS.out.trans (goC_bad hkW (by rw [HB.out]; exact h35) (by rw [HB.out]; omega) (by rw [HB.out]; omega) (by rw [HB.out]; omega)))
              have n35 : (((row[k]'hk').toNat : Int) == 35) = false := beq_eq_false_iff_ne.2 h35
              have n35b : (((row[k]'hk').toNat : Int) != 35) = true := by simp; omega
              have n111 : (((row[k]'hk').toNat : Int) != 111) = true := by simp; omega
              have n46 : (((row[k]'hk').toNat : Int) != 46) = true := by simp; omega
              rcases (show ((row[k]'hk').toNat : Int) < 49 ∨ (49 ≤ ((row[k]'hk').toNat : Int) ∧ 52 < ((row[k]'hk').toNat : Int)) by omega) with h1 | ⟨h1, h2⟩
              all_goals
                clear hT h35 h49
                go_wp2_with fail
                go_ret
                exact ⟨ret_bool (by rw [HN.out]), hbl⟩
        have HE := Lib.hid (edge_yes (l := l) (k := k) (w := W0) hr1 hkW HX.out)
        rcases hx with e1 | ⟨e1, e2⟩ | ⟨e1, e2, e3⟩ | ⟨e1, e2, e3, e4⟩
        all_goals
          by_cases h35 : ((row[k]'hk').toNat : Int) = 35
          · have HN := Lib.hid (HS.out.trans (goC_wall hkW (by rw [HB.out]; exact h35)))
            have n111 : (((row[k]'hk').toNat : Int) != 35) = false := by rw [h35]; rfl
            go_wp2_with fail
            all_goals
              go_roundw
              case rel => exact ⟨k + 1, sn, op, by omega, by go_num, by first | rfl | simp_all, hsn, hown, HN, cw, hbl⟩
              case measure => simp [intOf]; omega
          · have HN := Lib.hid (HS.out.trans (goC_edge hkW (by rw [HB.out]; exact h35) HE.out))
            have n35 : (((row[k]'hk').toNat : Int) == 35) = false := beq_eq_false_iff_ne.2 h35
            have n35b : (((row[k]'hk').toNat : Int) != 35) = true := by simp; omega
            clear h35
            go_wp2_with fail
            go_ret
            exact ⟨ret_bool (by rw [HN.out]), hbl⟩
  · have HN := Lib.hid (lvT_out (l := l) (by omega))
    clear hc
    rcases (show l.length < 3 ∨ (3 ≤ l.length ∧ 12 < l.length) by omega) with h1 | ⟨h1, h2⟩
    all_goals
      clear hn
      go_enter Tryd.func19, Tryd.ntmps19
      go_wp2_with fail
      go_ret
      exact ⟨ret_bool (by rw [HN.out]), (Below.refl _ _).alloc (Nat.le_refl _) _⟩
end Go.Proofs.YtiopbdodegopdaaDoor
/- SolidAt: the program's and the reference's. -/
namespace Go.Proofs.YtiopbdodegopdaaDoor
open Go.RowKit

set_option maxHeartbeats 2000000 in
theorem solat_impl {u : Value} {l : List ByteArray} (x y size : Int) (w : World) (h : At w 1 u l.length (l.map Value.string)) (hm : l.length ≤ 1048576) (hz : ∀ s ∈ l, s.size ≤ 1048576) (hx : -9223372036854775808 ≤ x ∧ x ≤ 9223372036854775807) (hy : -9223372036854775808 ≤ y ∧ y ≤ 9223372036854775807) :
    Calls Tryd.prog 21 #[.agg #[u], .int .i64 x, .int .i64 y, .int .i64 size] w fun e w' => e = .returned (.bool (solA l x y size)) ∧ Below w.heap.size w w' := by
  have hb1 : ∀ A : Obj, Below w.heap.size w (w.alloc A) := fun A => (Below.refl _ _).alloc (Nat.le_refl _) _
  have hs1 : ∀ A : Obj, (w.alloc A).heap.size = w.heap.size + 1 := fun A => by simp
  by_cases hsz : size < 1 ∨ 16 < size
  · have HN := Lib.hid (solA_no (l := l) (x := x) (y := y) (size := size) (by omega))
    rcases (show size < 1 ∨ (1 ≤ size ∧ 16 < size) by omega) with h1 | ⟨h1, h2⟩
    all_goals
      clear hsz
      go_enter Tryd.func21, Tryd.ntmps21
      go_wp2_with fail
      go_ret
      exact ⟨ret_bool (by rw [HN.out]), hb1 _⟩
  have h1 : 1 ≤ size := by omega
  have h2 : size ≤ 16 := by omega
  clear hsz
  have HL : ∀ wx, Below w.heap.size w wx → Calls Tryd.prog 19 #[.agg #[u]] wx fun e w' => e = .returned (.bool (lvT l)) ∧ Below wx.heap.size wx w' := fun wx hx => lvok_impl wx (h.below hx) hm hz
  cases hv : lvT l with
  | false =>
    rw [hv] at HL
    have HN := Lib.hid (solA_no (l := l) (x := x) (y := y) (size := size) (by rw [hv]; simp))
    clear hv
    go_enter Tryd.func21, Tryd.ntmps21
    go_wp2_with fail
    refine (HL _ (hb1 _)).mono ?_
    rintro e wa ⟨rfl, ha⟩
    go_wp2_with fail
    go_ret
    exact ⟨ret_bool (by rw [HN.out]), (hb1 _).trans (ha.mono (by simp))⟩
  | true =>
    rw [hv] at HL
    have HN := Lib.hid (solA_yes (x := x) (y := y) h1 h2 hv)
    have HS : ∀ wx, Below w.heap.size w wx → Calls Tryd.prog 40 #[.agg #[u], .int .i64 x, .int .i64 y, .int .i64 size] wx fun e w' => e = .returned (.bool (solT l x y size)) ∧ Below wx.heap.size wx w' := fun wx hbx => solid_impl x y size wx (h.below hbx) hv h1 h2 hx.1 hx.2 hy.1 hy.2
    clear hv
    go_enter Tryd.func21, Tryd.ntmps21
    go_wp2_with fail
    refine (HL _ (hb1 _)).mono ?_
    rintro e wa ⟨rfl, ha⟩
    have hba : Below w.heap.size w wa := (hb1 _).trans (ha.mono (by simp))
    have ca : wa.cell? ⟨w.heap.size, 0, none⟩ = some u := (ha.cell (by simp)).trans (World.cell?_alloc_new w _ _ 0)
    go_wp2_with fail
    refine (HS _ hba).mono ?_
    rintro e wb ⟨rfl, hb⟩
    go_wp2_with fail
    go_ret
    exact ⟨ret_bool (by rw [HN.out]), hba.trans (hb.mono hba.size)⟩
end Go.Proofs.YtiopbdodegopdaaDoor
/- StartOf: the program's and the reference's. -/
namespace Go.Proofs.YtiopbdodegopdaaDoor
open Go.RowKit

theorem ret_tuple2 {a b c d : Int} (h1 : a = c) (h2 : b = d) : Ending.returned (.tuple #[.int .i64 a, .int .i64 b]) = .returned (.tuple #[.int .i64 c, .int .i64 d]) := by rw [h1, h2]
theorem wrapu8_p {p : Int} (h0 : 0 ≤ p) (h3 : p ≤ 3) : IntKind.u8.wrap (49 + p) = 49 + p := IntWalk.u8_in _ (by omega)
set_option maxRecDepth 100000 in
set_option maxHeartbeats 8000000 in
theorem start_impl {u : Value} {l : List ByteArray} (p : Int) (w : World) (h : At w 1 u l.length (l.map Value.string)) (hm : l.length ≤ 1048576) (hz : ∀ s ∈ l, s.size ≤ 1048576) :
    Calls Tryd.prog 20 #[.agg #[u], .int .i64 p] w fun e w' => e = .returned (.tuple #[.int .i64 (startT l p).1, .int .i64 (startT l p).2]) ∧ Below w.heap.size w w' := by
  have hb1 : ∀ A : Obj, Below w.heap.size w (w.alloc A) := fun A => (Below.refl _ _).alloc (Nat.le_refl _) _
  have HL : ∀ wx, Below w.heap.size w wx → Calls Tryd.prog 19 #[.agg #[u]] wx fun e w' => e = .returned (.bool (lvT l)) ∧ Below wx.heap.size wx w' := fun wx hx => lvok_impl wx (h.below hx) hm hz
  by_cases hp : p < 0 ∨ 3 < p
  · have HN := Lib.hid (startT_no (l := l) (p := p) (by omega))
    rcases (show p < 0 ∨ (0 ≤ p ∧ 4 ≤ p) by omega) with h1 | ⟨h1, h2⟩
    all_goals
      clear hp
      go_enter Tryd.func20, Tryd.ntmps20
      go_wp2_with fail
      go_ret2
      exact ⟨by rw [HN.out]; rfl, hb1 _⟩
  have h0 : 0 ≤ p := by omega
  have h3 : p ≤ 3 := by omega
  clear hp
  cases hv : lvT l with
  | false =>
    rw [hv] at HL
    have HN := Lib.hid (startT_no (l := l) (p := p) (by rw [hv]; simp))
    clear hv
    go_enter Tryd.func20, Tryd.ntmps20
    go_wp2_with fail
    refine (HL _ (hb1 _)).mono ?_
    rintro e wa ⟨rfl, ha⟩
    go_wp2_with fail
    go_ret2
    exact ⟨by rw [HN.out]; rfl, (hb1 _).trans (ha.mono (by simp))⟩
  | true =>
    rw [hv] at HL
    have hl := lvT_lv hv
    have HS := startT_yes h0 h3 hv
    obtain ⟨W, hW⟩ : ∃ W, (rowAt l 0).size = W := ⟨_, rfl⟩
    rw [hW] at hl HS
    replace HS := Lib.hid HS
    have n3 := hl.n3
    have n12 := hl.n12
    have w4 := hl.w4
    have w20 := hl.w20
    have hat := h
    obtain ⟨ao, cap, rfl, hc⟩ := h.cellS
    obtain ⟨g, off, rfl, hg, hcell⟩ := hc (by omega)
    clear hc
    have HR := Lib.hid (fun r (hr : r < l.length) => show w.cell? ⟨g, off + r, none⟩ = some (.string (rowAt l r)) by rw [rowAt_eq hr]; exact hcell r hr)
    have HW := Lib.hid hl.rows
    have hu8 := Lib.hid (wrapu8_p h0 h3)
    clear hcell hl hv hW
    go_enter Tryd.func20, Tryd.ntmps20
    go_wp2_with fail
    refine (HL _ (hb1 _)).mono ?_
    rintro e wa ⟨rfl, ha⟩
    have hba : Below w.heap.size w wa := (hb1 _).trans (ha.mono (by simp))
    have ca : wa.cell? ⟨w.heap.size, 0, none⟩ = some (.slice (some ⟨g, off, none⟩) l.length cap) := (ha.cell (by simp)).trans (World.cell?_alloc_new w _ _ 0)
    clear ha HL hb1
    go_wp2_with fail
    go_loop [6, 7, 25] (fun fx fy i => ∃ (r : Nat) (x y : Int), r ≤ l.length ∧ i = .int .i64 r ∧ fx = .int .i64 x ∧ fy = .int .i64 y ∧ -1 ≤ x ∧ Hid (startT l p = staR l W (49 + p) (l.length - r) x y)) (fun _ _ i => l.length - (intOf i).toNat)
    case atStart => exact ⟨0, -1, -1, Nat.zero_le _, rfl, rfl, rfl, by omega, HS⟩
    case round =>
      clear HS
      obtain ⟨r, x, y, hr, rfl, rfl, rfl, hx, HS⟩ := hrel
      by_cases hr0 : ¬ r < l.length
      · have HN := Lib.hid (HS.out.trans (staR_end (show r = l.length by omega)))
        go_wp2_with fail
        go_ret2
        exact ⟨by rw [HN.out]; rfl, hba⟩
      have hr1 : r < l.length := by omega
      clear hr0
      have cr : wa.cell? ⟨g, off + r, none⟩ = some (.string (rowAt l r)) := (hba.cell hg).trans (HR.out r hr1)
      have HT := Lib.hid (HS.out.trans (staR_row hr1))
      have hsz := HW.out r hr1
      obtain ⟨row, hrw⟩ : ∃ x, rowAt l r = x := ⟨_, rfl⟩
      rw [hrw] at cr HT hsz
      clear hrw HS
      have hszl : row.size ≤ 20 := by omega
      rw [← hsz] at HT
      have HSZ := Lib.hid hsz; clear hsz
      go_wp2_with fail
      go_loop [6, 7, 10] (fun fx fy i => ∃ (k : Nat) (x y : Int), k ≤ row.size ∧ i = .int .i64 k ∧ fx = .int .i64 x ∧ fy = .int .i64 y ∧ -1 ≤ x ∧ Hid (startT l p = staC row row.size r (49 + p) (staR l row.size (49 + p) (l.length - (r + 1))) (row.size - k) x y)) (fun _ _ i => row.size - (intOf i).toNat)
      case atStart => exact ⟨0, x, y, Nat.zero_le _, rfl, rfl, rfl, hx, HT⟩
      case round =>
        clear HT
        obtain ⟨k, x, y, hk, rfl, rfl, rfl, hx, HS⟩ := hrel
        by_cases hk0 : ¬ k < row.size
        · have HN := Lib.hid (HS.out.trans (staC_end (show k = row.size by omega)))
          rw [HSZ.out] at HN
          go_wp2_with fail
          go_round
          case rel => exact ⟨r + 1, x, y, by omega, by go_num, rfl, rfl, hx, HN⟩
          case measure => simp [intOf]; omega
        have hk1 : k < row.size := by omega
        clear hk0
        have HB := Lib.hid (byteAt_eq hk1)
        have ht := (row[k]'hk1).toNat_lt
        by_cases hd : ((row[k]'hk1).toNat : Int) = 49 + p
        · have HN := Lib.hid (HS.out.trans (staC_hit hk1 (by rw [HB.out]; exact hd)))
          have hd1 : (((row[k]'hk1).toNat : Int) == 49 + p) = true := beq_iff_eq.2 hd
          clear hd
          go_wp2_with fail
          go_ret2
          exact ⟨by rw [HN.out]; exact ret_tuple2 (a := (k : Int) * 16 + 2) (b := (r : Int) * 16 + 2) (by omega) (by omega), hba⟩
        have hd1 : (((row[k]'hk1).toNat : Int) == 49 + p) = false := beq_eq_false_iff_ne.2 hd
        by_cases h35 : ((row[k]'hk1).toNat : Int) = 35
        · have HN := Lib.hid (HS.out.trans (staC_wall hk1 (by rw [HB.out]; exact hd) (by rw [HB.out]; exact h35)))
          have b35 : (((row[k]'hk1).toNat : Int) != 35) = false := by rw [h35]; rfl
          clear hd h35
          go_wp2_with fail
          go_round
          case rel => exact ⟨k + 1, x, y, by omega, by go_num, rfl, rfl, hx, HN⟩
          case measure => simp [intOf]; omega
        have b35 : (((row[k]'hk1).toNat : Int) != 35) = true := by simp; omega
        by_cases hx0 : x < 0
        · have HN := Lib.hid (HS.out.trans (staC_first hk1 (by rw [HB.out]; exact hd) (by rw [HB.out]; exact h35) hx0))
          clear hd h35
          go_wp2_with fail
          go_round
          case rel => exact ⟨k + 1, 16 * (k : Int) + 2, 16 * (r : Int) + 2, by omega, by go_num, by go_num, by go_num, by omega, HN⟩
          case measure => simp [intOf]; omega
        · have HN := Lib.hid (HS.out.trans (staC_later (y := y) hk1 (by rw [HB.out]; exact hd) (show 0 ≤ x by omega)))
          clear hd h35
          go_wp2_with fail
          go_round
          case rel => exact ⟨k + 1, x, y, by omega, by go_num, rfl, rfl, hx, HN⟩
          case measure => simp [intOf]; omega
set_option maxRecDepth 100000 in
set_option maxHeartbeats 8000000 in
theorem start_spec {u : Value} {l : List ByteArray} (p : Int) (w : World) (h : At w 1 u l.length (l.map Value.string)) (hm : l.length ≤ 1048576) (hz : ∀ s ∈ l, s.size ≤ 1048576) :
    Calls Tryd.prog 58 #[.agg #[u], .int .i64 p] w fun e w' => e = .returned (.tuple #[.int .i64 (startT l p).1, .int .i64 (startT l p).2]) ∧ Below w.heap.size w w' := by
  have hb1 : ∀ A : Obj, Below w.heap.size w (w.alloc A) := fun A => (Below.refl _ _).alloc (Nat.le_refl _) _
  have HL : ∀ wx, Below w.heap.size w wx → Calls Tryd.prog 31 #[.agg #[u]] wx fun e w' => e = .returned (.bool (lvT l)) ∧ Below wx.heap.size wx w' := fun wx hx => lvok_spec wx (h.below hx) hm hz
  cases hv : lvT l with
  | false =>
    rw [hv] at HL
    have HN := Lib.hid (startT_no (l := l) (p := p) (by rw [hv]; simp))
    clear hv
    go_enter Tryd.func58, Tryd.ntmps58
    go_wp2_with fail
    refine (HL _ (hb1 _)).mono ?_
    rintro e wa ⟨rfl, ha⟩
    go_wp2_with fail
    go_ret2
    exact ⟨by rw [HN.out]; rfl, (hb1 _).trans (ha.mono (by simp))⟩
  | true =>
    rw [hv] at HL
    by_cases hp : p < 0 ∨ 3 < p
    · have HN := Lib.hid (startT_no (l := l) (p := p) (by omega))
      have HI : ∀ wx, Calls Tryd.prog 43 #[.int .i64 p, .int .i64 0, .int .i64 3] wx fun e w' => e = .returned (.bool false) ∧ wx = w' := fun wx => in_no _ _ _ wx (by omega)
      clear hv hp
      go_enter Tryd.func58, Tryd.ntmps58
      go_wp2_with fail
      refine (HL _ (hb1 _)).mono ?_
      rintro e wa ⟨rfl, ha⟩
      go_wp2_with fail
      refine (HI _).mono ?_
      rintro e wb ⟨rfl, rfl⟩
      go_wp2_with fail
      go_ret2
      exact ⟨by rw [HN.out]; rfl, (hb1 _).trans (ha.mono (by simp))⟩
    have h0 : 0 ≤ p := by omega
    have h3 : p ≤ 3 := by omega
    clear hp
    have HI : ∀ wx, Calls Tryd.prog 43 #[.int .i64 p, .int .i64 0, .int .i64 3] wx fun e w' => e = .returned (.bool true) ∧ wx = w' := fun wx => in_yes _ _ _ wx h0 h3
    have hl := lvT_lv hv
    have HS := startT_yes h0 h3 hv
    obtain ⟨W, hW⟩ : ∃ W, (rowAt l 0).size = W := ⟨_, rfl⟩
    rw [hW] at hl HS
    replace HS := Lib.hid HS
    have n3 := hl.n3
    have n12 := hl.n12
    have w4 := hl.w4
    have w20 := hl.w20
    obtain ⟨ao, cap, rfl, hc⟩ := h.cellS
    obtain ⟨g, off, rfl, hg, hcell⟩ := hc (by omega)
    clear hc
    have HR := Lib.hid (fun r (hr : r < l.length) => show w.cell? ⟨g, off + r, none⟩ = some (.string (rowAt l r)) by rw [rowAt_eq hr]; exact hcell r hr)
    have HW := Lib.hid hl.rows
    clear hcell hl hv hW
    go_enter Tryd.func58, Tryd.ntmps58
    go_wp2_with fail
    refine (HL _ (hb1 _)).mono ?_
    rintro e wa ⟨rfl, ha⟩
    have hba : Below w.heap.size w wa := (hb1 _).trans (ha.mono (by simp))
    have ca : wa.cell? ⟨w.heap.size, 0, none⟩ = some (.slice (some ⟨g, off, none⟩) l.length cap) := (ha.cell (by simp)).trans (World.cell?_alloc_new w _ _ 0)
    clear ha HL hb1
    go_wp2_with fail
    refine (HI _).mono ?_
    rintro e wb ⟨rfl, rfl⟩
    go_wp2_with fail
    go_loop [6, 7, 8] (fun fx fy i => ∃ (r : Nat) (x y : Int), r ≤ l.length ∧ i = .int .i64 r ∧ fx = .int .i64 x ∧ fy = .int .i64 y ∧ -1 ≤ x ∧ Hid (startT l p = staR l W (49 + p) (l.length - r) x y)) (fun _ _ i => l.length - (intOf i).toNat)
    case atStart => exact ⟨0, -1, -1, Nat.zero_le _, rfl, rfl, rfl, by omega, HS⟩
    case round =>
      clear HS
      obtain ⟨r, x, y, hr, rfl, rfl, rfl, hx, HS⟩ := hrel
      by_cases hr0 : ¬ r < l.length
      · have HN := Lib.hid (HS.out.trans (staR_end (show r = l.length by omega)))
        go_wp2_with fail
        go_ret2
        exact ⟨by rw [HN.out]; rfl, hba⟩
      have hr1 : r < l.length := by omega
      clear hr0
      have cr : wa.cell? ⟨g, off + r, none⟩ = some (.string (rowAt l r)) := (hba.cell hg).trans (HR.out r hr1)
      have HT := Lib.hid (HS.out.trans (staR_row hr1))
      have hsz := HW.out r hr1
      obtain ⟨row, hrw⟩ : ∃ x, rowAt l r = x := ⟨_, rfl⟩
      rw [hrw] at cr HT hsz
      clear hrw HS
      have hszl : row.size ≤ 20 := by omega
      rw [← hsz] at HT
      have HSZ := Lib.hid hsz; clear hsz
      go_wp2_with fail
      go_loop [6, 7, 9] (fun fx fy i => ∃ (k : Nat) (x y : Int), k ≤ row.size ∧ i = .int .i64 k ∧ fx = .int .i64 x ∧ fy = .int .i64 y ∧ -1 ≤ x ∧ Hid (startT l p = staC row row.size r (49 + p) (staR l row.size (49 + p) (l.length - (r + 1))) (row.size - k) x y)) (fun _ _ i => row.size - (intOf i).toNat)
      case atStart => exact ⟨0, x, y, Nat.zero_le _, rfl, rfl, rfl, hx, HT⟩
      case round =>
        clear HT
        obtain ⟨k, x, y, hk, rfl, rfl, rfl, hx, HS⟩ := hrel
        by_cases hk0 : ¬ k < row.size
        · have HN := Lib.hid (HS.out.trans (staC_end (show k = row.size by omega)))
          rw [HSZ.out] at HN
          go_wp2_with fail
          go_round
          case rel => exact ⟨r + 1, x, y, by omega, by go_num, rfl, rfl, hx, HN⟩
          case measure => simp [intOf]; omega
        have hk1 : k < row.size := by omega
        clear hk0
        have HB := Lib.hid (byteAt_eq hk1)
        have ht := (row[k]'hk1).toNat_lt
        by_cases hd : ((row[k]'hk1).toNat : Int) = 49 + p
        · have HN := Lib.hid (HS.out.trans (staC_hit hk1 (by rw [HB.out]; exact hd)))
          have b35 : (((row[k]'hk1).toNat : Int) != 35) = true := by simp; omega
          have hd1 : (((row[k]'hk1).toNat : Int) - 49 == p) = true := by simp; omega
          clear hd
          by_cases hx0 : x < 0
          all_goals
            go_wp2_with fail
            go_ret2
            exact ⟨by rw [HN.out]; rfl, hba⟩
        have hd1 : (((row[k]'hk1).toNat : Int) - 49 == p) = false := by simp; omega
        by_cases h35 : ((row[k]'hk1).toNat : Int) = 35
        · have HN := Lib.hid (HS.out.trans (staC_wall hk1 (by rw [HB.out]; exact hd) (by rw [HB.out]; exact h35)))
          have b35 : (((row[k]'hk1).toNat : Int) != 35) = false := by rw [h35]; rfl
          clear hd h35
          go_wp2_with fail
          go_round
          case rel => exact ⟨k + 1, x, y, by omega, by go_num, rfl, rfl, hx, HN⟩
          case measure => simp [intOf]; omega
        have b35 : (((row[k]'hk1).toNat : Int) != 35) = true := by simp; omega
        by_cases hx0 : x < 0
        · have HN := Lib.hid (HS.out.trans (staC_first hk1 (by rw [HB.out]; exact hd) (by rw [HB.out]; exact h35) hx0))
          clear hd h35
          go_wp2_with fail
          go_round
          case rel => exact ⟨k + 1, 16 * (k : Int) + 2, 16 * (r : Int) + 2, by omega, by go_num, by go_num, by go_num, by omega, HN⟩
          case measure => simp [intOf]; omega
        · have HN := Lib.hid (HS.out.trans (staC_later (y := y) hk1 (by rw [HB.out]; exact hd) (show 0 ≤ x by omega)))
          clear hd h35
          go_wp2_with fail
          go_round
          case rel => exact ⟨k + 1, x, y, by omega, by go_num, rfl, rfl, hx, HN⟩
          case measure => simp [intOf]; omega
end Go.Proofs.YtiopbdodegopdaaDoor
