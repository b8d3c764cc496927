/- ParseLevel, the reference's. -/
import Derived.Test.YtiopbdodegopdaaDoorLvs
import Derived.Test.YtiopbdodegopdaaDoorSc2
import Derived.Test.YtiopbdodegopdaaDoorTxt
namespace Go.Proofs.YtiopbdodegopdaaDoor
open Go.RowKit

/-- after k bytes: the rows that have ended, and where the next one begins -/
def scanL (s : ByteArray) : Nat → List ByteArray × Nat
  | 0 => ([], 0)
  | k + 1 => if k = s.size ∨ byteAt s k = 47 then ((scanL s k).1 ++ [s.extract (scanL s k).2 k], k + 1) else scanL s k
def rowsL (s : ByteArray) : List ByteArray := (scanL s (s.size + 1)).1
def parT (s : ByteArray) : List ByteArray × Bool := if lvT (rowsL s) = true then (rowsL s, true) else ([], false)
theorem scanL_le (s : ByteArray) : ∀ k, (scanL s k).2 ≤ k ∧ (scanL s k).1.length ≤ k
  | 0 => ⟨Nat.le_refl _, Nat.le_refl _⟩
  | k + 1 => by
    have := scanL_le s k
    simp only [scanL]
    split
    · refine ⟨Nat.le_refl _, ?_⟩
      rw [List.length_append]
      show _ + 1 ≤ _
      omega
    · omega
theorem scanL_sz (s : ByteArray) : ∀ k, ∀ r ∈ (scanL s k).1, r.size ≤ s.size
  | 0, r, h => by simp [scanL] at h
  | k + 1, r, h => by
    simp only [scanL] at h
    split at h
    · rcases List.mem_append.1 h with h | h
      · exact scanL_sz s k r h
      · rw [List.mem_singleton.1 h]; exact extract_le _ _ _
    · exact scanL_sz s k r h
theorem scanL_yes {s : ByteArray} {k b : Nat} {out : List ByteArray} (h : scanL s k = (out, b)) (hc : k = s.size ∨ byteAt s k = 47) : scanL s (k + 1) = (out ++ [s.extract b k], k + 1) := by
  simp only [scanL]; rw [if_pos hc, h]
theorem scanL_no {s : ByteArray} {k b : Nat} {out : List ByteArray} (h : scanL s k = (out, b)) (hc : ¬ (k = s.size ∨ byteAt s k = 47)) : scanL s (k + 1) = (out, b) := by
  simp only [scanL]; rw [if_neg hc, h]
theorem parT_no {s : ByteArray} (h : lvT (rowsL s) = false) : parT s = ([], false) := if_neg (by rw [h]; simp)
theorem parT_yes {s : ByteArray} (h : lvT (rowsL s) = true) : parT s = (rowsL s, true) := if_pos h
set_option maxRecDepth 100000 in
theorem lvok_specL {u : Value} {l : List ByteArray} (w : World) (h : At w 1 u l.length (l.map Value.string)) (hm : l.length ≤ 2000000) (hz : ∀ s ∈ l, s.size ≤ 1048576) :
    Calls Tryd.prog 31 #[.agg #[u]] w fun e w' => e = .returned (.bool (lvT l)) ∧ Below w.heap.size w w' := by
  by_cases hn : l.length ≤ 1048576
  · exact lvok_spec w h hn hz
  · obtain ⟨ao, cap, rfl, hc⟩ := h.cellS
    have HN := Lib.hid (lvT_out (l := l) (by omega))
    clear hc
    go_enter Tryd.func31, Tryd.ntmps31
    go_wp2_with fail
    refine (in_no _ _ _ _ (by omega)).mono ?_
    rintro e wx ⟨rfl, rfl⟩
    go_wp2_with fail
    go_ret
    exact ⟨ret_bool (by rw [HN.out]), (Below.refl _ _).alloc (Nat.le_refl _) _⟩
structure PrI (w wr : World) (out : List ByteArray) : Prop where
  ex : ∃ v, wr.cell? ⟨w.heap.size + 1, 0, none⟩ = some v ∧ Own wr (w.heap.size + 2) 1 v out.length (out.map Value.string)
  f1 : wr.frozen? ⟨w.heap.size + 1, 0, none⟩ = false
  c0 : wr.cell? ⟨w.heap.size, 0, none⟩ = some nilV
  f0 : wr.frozen? ⟨w.heap.size, 0, none⟩ = false
  bl : Below w.heap.size w wr
  sz : w.heap.size + 2 ≤ wr.heap.size
theorem PrI.step {w wr wq w2 : World} {out : List ByteArray} {x : ByteArray} {v v' : Value} (h : PrI w wr out) (hc : wr.cell? ⟨w.heap.size + 1, 0, none⟩ = some v) (hv : Own wr (w.heap.size + 2) 1 v out.length (out.map Value.string)) (hB : Below wr.heap.size wr wq)
    (hO : Own w2 (w.heap.size + 2) 1 v' (out.length + 1) ((out ++ [x]).map Value.string)) (hg : wq.grownBy w2 v.ownBlock) :
    w2.cell? ⟨w.heap.size + 1, 0, none⟩ = some v ∧ w2.frozen? ⟨w.heap.size + 1, 0, none⟩ = false ∧ PrI w (w2.setCell ⟨w.heap.size + 1, 0, none⟩ v') (out ++ [x]) := by
  have hsz := h.sz
  have hn : ∀ i, i < w.heap.size + 2 → some i ≠ v.ownBlock := fun i hi e => by have := (hv.ge i e.symm).1; omega
  have hB2 : Below (w.heap.size + 2) wr w2 := (hB.mono (by omega)).grown hg (by have := hB.size; omega) (fun k e => by have := (hv.ge k e).1; omega)
  have k1 : w2.cell? ⟨w.heap.size + 1, 0, none⟩ = some v := (hB2.cell (p := ⟨w.heap.size + 1, 0, none⟩) (by show w.heap.size + 1 < _; omega)).trans hc
  refine ⟨k1, (hB2.frozen (p := ⟨w.heap.size + 1, 0, none⟩) (by show w.heap.size + 1 < _; omega)).trans h.f1, ⟨⟨v', World.cell?_setCell_same' _ _ _ (by rw [k1]; rfl), ?_⟩, ?_, ?_, ?_, ?_, ?_⟩⟩
  · have e : (out ++ [x]).length = out.length + 1 := by simp
    rw [e]
    exact hO.other (fun g hg => by have := (hO.ge g hg).1; show g ≠ w.heap.size + 1; omega) _
  · rw [World.frozen?_setCell]; exact (hB2.frozen (p := ⟨w.heap.size + 1, 0, none⟩) (by show w.heap.size + 1 < _; omega)).trans h.f1
  · rw [World.cell?_setCell_other _ _ _ _ (by intro e; have := congrArg Addr.block e; simp at this)]
    exact (hB2.cell (p := ⟨w.heap.size, 0, none⟩) (by show w.heap.size < _; omega)).trans h.c0
  · rw [World.frozen?_setCell]; exact (hB2.frozen (p := ⟨w.heap.size, 0, none⟩) (by show w.heap.size < _; omega)).trans h.f0
  · exact (h.bl.trans (hB2.mono (by omega))).setCell (by show w.heap.size ≤ w.heap.size + 1; omega) _
  · have := hB2.size
    simp
    omega
theorem size_strs : (Tryd.prog.info? 25).map (·.size) = some 1 := by kernel_rfl
set_option maxRecDepth 100000 in
set_option maxHeartbeats 4000000 in
theorem parse_spec (s : ByteArray) (w : World) (hs : s.size ≤ 1048576) :
    Calls Tryd.prog 12 #[.string s] w fun e w' => ∃ u, e = .returned (.tuple #[.agg #[u], .bool (parT s).2]) ∧ Own w' w.heap.size 1 u (parT s).1.length ((parT s).1.map Value.string) ∧ Below w.heap.size w w' := by
  have HNO := Lib.hid (parT_no (s := s))
  have HYES := Lib.hid (parT_yes (s := s))
  have HR : Hid (rowsL s = (scanL s (s.size + 1)).1) := Lib.hid rfl
  go_enter Tryd.func12, Tryd.ntmps12
  go_upto_region 2 with (fail)
  generalize hw1 : (w.alloc _).alloc _ = w1
  have hI : PrI w w1 [] := by
    rw [← hw1]
    exact ⟨⟨nilV, by simp [World.cell?_alloc_at, nilV], Own.nil _ _ _⟩, by simp [World.frozen?_alloc_at], cell_alloc_lt (World.cell?_alloc_new _ _ _ 0) _ (by simp), by simp [World.frozen?_alloc_past, World.frozen?_alloc_at], ((Below.refl _ _).alloc (Nat.le_refl _) _).alloc (by simp) _, by simp⟩
  clear hw1
  go_wp2_with fail
  go_loopw [5, 6] (fun st i wr => ∃ (k b : Nat) (out : List ByteArray), k ≤ s.size + 1 ∧ i = .int .i64 (k : Int) ∧ st = .int .i64 (b : Int) ∧ Hid (scanL s k = (out, b)) ∧ b ≤ k ∧ out.length ≤ k ∧ PrI w wr out) (fun _ i _ => s.size + 1 - (intOf i).toNat)
  case atStart => exact ⟨0, 0, [], Nat.zero_le _, rfl, rfl, Lib.hid rfl, Nat.le_refl _, Nat.le_refl _, hI⟩
  case round =>
    clear hI
    obtain ⟨k, b, out, hk, rfl, rfl, HS, hbk, hol, hI⟩ := hrel
    by_cases hlt : k < s.size
    · have hbe := byteAt_eq hlt
      by_cases h47 : byteAt s k = 47
      · have HN := Lib.hid (scanL_yes HS.out (.inr h47))
        have x1 : decide ((k : Int) ≤ (s.size : Int)) = true := decide_eq_true (by omega)
        have x2 : ((k : Int) == (s.size : Int)) = false := beq_eq_false_iff_ne.2 (by omega)
        have x3 : (((s[k]'hlt).toNat : Int) == 47) = true := by rw [← hbe]; exact beq_iff_eq.2 h47
        clear hbe h47
        obtain ⟨⟨v, c1, hv⟩, _⟩ := id hI
        obtain ⟨vo, vc, rfl⟩ := hv.slice_
        have hsz := hI.sz
        have hB0 := (Below.refl wr.heap.size wr).drew
        have hvD := hv.drew
        go_upto_region 7 with (fail)
        refine wp_region_sch (fun wx => Below wr.heap.size wr wx) 7 3 (.st 0 (.st 1 (.st 2 (.st 3 (.st 4 (.st 5 (.ef 6 (.fin [7, 8, 9])))))))) (by kernel_rfl) (by kernel_rfl) (fun _ _ d _ _ h => by cases d <;> exact h) hB0 ?_
        refine sch_still (o := ⟨some 24, _, _, _, _, _⟩) (v := .pointer (some ⟨w.heap.size + 1, 0, none⟩)) rfl rfl ?_ ?_
        · intro wx hSx
          go_simp
        simp only [Act.put, List.setIfInBounds_toArray, List.set_cons_zero, List.set_cons_succ]
        refine sch_still (o := ⟨some 25, _, _, _, _, _⟩) (v := .slice vo out.length vc) rfl rfl ?_ ?_
        · intro wx hSx
          have c := (hSx.cell (p := ⟨w.heap.size + 1, 0, none⟩) (by show w.heap.size + 1 < _; omega)).trans c1; go_simp
        simp only [Act.put, List.setIfInBounds_toArray, List.set_cons_zero, List.set_cons_succ]
        refine sch_still (o := ⟨some 26, _, _, _, _, _⟩) (v := .string s) rfl rfl ?_ ?_
        · intro wx hSx
          go_simp
        simp only [Act.put, List.setIfInBounds_toArray, List.set_cons_zero, List.set_cons_succ]
        refine sch_still (o := ⟨some 27, _, _, _, _, _⟩) (v := .int .i64 (b : Int)) rfl rfl ?_ ?_
        · intro wx hSx
          go_simp
        simp only [Act.put, List.setIfInBounds_toArray, List.set_cons_zero, List.set_cons_succ]
        refine sch_still (o := ⟨some 28, _, _, _, _, _⟩) (v := .int .i64 (k : Int)) rfl rfl ?_ ?_
        · intro wx hSx
          go_simp
        simp only [Act.put, List.setIfInBounds_toArray, List.set_cons_zero, List.set_cons_succ]
        refine sch_still (o := ⟨some 29, _, _, _, _, _⟩) (v := .string (s.extract b k)) rfl rfl ?_ ?_
        · intro wx hSx
          go_simp
        simp only [Act.put, List.setIfInBounds_toArray, List.set_cons_zero, List.set_cons_succ]
        generalize wr.drew = wq at *
        refine sch_ef (o := ⟨some 30, _, _, _, _, _⟩) rfl ?_
        iterate 3 go_step
        have HC : Hid ((#[Value.string (s.extract b k)] : Array Value).toList = [s.extract b k].map Value.string) := Lib.hid rfl
        have hBs := hB0.size
        refine sch_next (hB0.alloc hBs _) ?_
        refine sch_end (.cons (o := ⟨some 31, _, _, _, _, _⟩) rfl (.cons (o := ⟨some 32, _, _, _, _, _⟩) rfl (.cons (o := ⟨none, _, _, _, _, _⟩) rfl .nil))) ?_
        refine app_strs (o := ⟨some 31, _, _, _, _, _⟩) wq _ rfl _ _ rfl (w.heap.size + 2) hvD rfl 1 1 [s.extract b k] rfl HC rfl (by omega) (by omega) ?_
        intro v2 w2 hO hg
        have hst := hI.step c1 hv hB0 hO hg
        obtain ⟨k1, k2, hI2⟩ := hst
        have hoo := slice_one hO.at_
        clear hI hO hg hv hvD hB0 c1 HC
        simp only [Act.put, List.setIfInBounds_toArray, List.set_cons_zero, List.set_cons_succ]
        iterate 3 go_step
        refine store_cell (o := ⟨none, _, _, _, _, _⟩) rfl _ _ _ rfl (w.heap.size + 1) 0 rfl v2 rfl hoo size_strs k1 k2 ?_
        generalize World.setCell w2 _ _ = wn at hI2
        clear k1 k2 hoo
        go_wp2_with fail
        go_roundw
        case rel => exact ⟨k + 1, k + 1, _, by omega, by go_num, by go_num, HN, by omega, by rw [List.length_append]; show _ + 1 ≤ _; omega, hI2⟩
        case measure => simp [intOf]; omega
      · have HN := Lib.hid (scanL_no HS.out (fun e => by rcases e with e | e; (· omega); (· exact h47 e)))
        have x1 : decide ((k : Int) ≤ (s.size : Int)) = true := decide_eq_true (by omega)
        have x2 : ((k : Int) == (s.size : Int)) = false := beq_eq_false_iff_ne.2 (by omega)
        have x3 : (((s[k]'hlt).toNat : Int) == 47) = false := by rw [← hbe]; exact beq_eq_false_iff_ne.2 h47
        clear hbe h47
        go_wp2_with fail
        go_roundw
        case rel => exact ⟨k + 1, b, out, by omega, by go_num, rfl, HN, by omega, by omega, hI⟩
        case measure => simp [intOf]; omega
    · by_cases hke : k ≤ s.size
      · have HN := Lib.hid (scanL_yes HS.out (.inl (show k = s.size by omega)))
        have x1 : decide ((k : Int) ≤ (s.size : Int)) = true := decide_eq_true (by omega)
        have x2 : ((k : Int) == (s.size : Int)) = true := beq_iff_eq.2 (by omega)
        obtain ⟨⟨v, c1, hv⟩, _⟩ := id hI
        obtain ⟨vo, vc, rfl⟩ := hv.slice_
        have hsz := hI.sz
        have hB0 := (Below.refl wr.heap.size wr).drew
        have hvD := hv.drew
        go_upto_region 7 with (fail)
        refine wp_region_sch (fun wx => Below wr.heap.size wr wx) 7 3 (.st 0 (.st 1 (.st 2 (.st 3 (.st 4 (.st 5 (.ef 6 (.fin [7, 8, 9])))))))) (by kernel_rfl) (by kernel_rfl) (fun _ _ d _ _ h => by cases d <;> exact h) hB0 ?_
        refine sch_still (o := ⟨some 24, _, _, _, _, _⟩) (v := .pointer (some ⟨w.heap.size + 1, 0, none⟩)) rfl rfl ?_ ?_
        · intro wx hSx
          go_simp
        simp only [Act.put, List.setIfInBounds_toArray, List.set_cons_zero, List.set_cons_succ]
        refine sch_still (o := ⟨some 25, _, _, _, _, _⟩) (v := .slice vo out.length vc) rfl rfl ?_ ?_
        · intro wx hSx
          have c := (hSx.cell (p := ⟨w.heap.size + 1, 0, none⟩) (by show w.heap.size + 1 < _; omega)).trans c1; go_simp
        simp only [Act.put, List.setIfInBounds_toArray, List.set_cons_zero, List.set_cons_succ]
        refine sch_still (o := ⟨some 26, _, _, _, _, _⟩) (v := .string s) rfl rfl ?_ ?_
        · intro wx hSx
          go_simp
        simp only [Act.put, List.setIfInBounds_toArray, List.set_cons_zero, List.set_cons_succ]
        refine sch_still (o := ⟨some 27, _, _, _, _, _⟩) (v := .int .i64 (b : Int)) rfl rfl ?_ ?_
        · intro wx hSx
          go_simp
        simp only [Act.put, List.setIfInBounds_toArray, List.set_cons_zero, List.set_cons_succ]
        refine sch_still (o := ⟨some 28, _, _, _, _, _⟩) (v := .int .i64 (k : Int)) rfl rfl ?_ ?_
        · intro wx hSx
          go_simp
        simp only [Act.put, List.setIfInBounds_toArray, List.set_cons_zero, List.set_cons_succ]
        refine sch_still (o := ⟨some 29, _, _, _, _, _⟩) (v := .string (s.extract b k)) rfl rfl ?_ ?_
        · intro wx hSx
          go_simp
        simp only [Act.put, List.setIfInBounds_toArray, List.set_cons_zero, List.set_cons_succ]
        generalize wr.drew = wq at *
        refine sch_ef (o := ⟨some 30, _, _, _, _, _⟩) rfl ?_
        iterate 3 go_step
        have HC : Hid ((#[Value.string (s.extract b k)] : Array Value).toList = [s.extract b k].map Value.string) := Lib.hid rfl
        have hBs := hB0.size
        refine sch_next (hB0.alloc hBs _) ?_
        refine sch_end (.cons (o := ⟨some 31, _, _, _, _, _⟩) rfl (.cons (o := ⟨some 32, _, _, _, _, _⟩) rfl (.cons (o := ⟨none, _, _, _, _, _⟩) rfl .nil))) ?_
        refine app_strs (o := ⟨some 31, _, _, _, _, _⟩) wq _ rfl _ _ rfl (w.heap.size + 2) hvD rfl 1 1 [s.extract b k] rfl HC rfl (by omega) (by omega) ?_
        intro v2 w2 hO hg
        have hst := hI.step c1 hv hB0 hO hg
        obtain ⟨k1, k2, hI2⟩ := hst
        have hoo := slice_one hO.at_
        clear hI hO hg hv hvD hB0 c1 HC
        simp only [Act.put, List.setIfInBounds_toArray, List.set_cons_zero, List.set_cons_succ]
        iterate 3 go_step
        refine store_cell (o := ⟨none, _, _, _, _, _⟩) rfl _ _ _ rfl (w.heap.size + 1) 0 rfl v2 rfl hoo size_strs k1 k2 ?_
        generalize World.setCell w2 _ _ = wn at hI2
        clear k1 k2 hoo
        go_wp2_with fail
        go_roundw
        case rel => exact ⟨k + 1, k + 1, _, by omega, by go_num, by go_num, HN, by omega, by rw [List.length_append]; show _ + 1 ≤ _; omega, hI2⟩
        case measure => simp [intOf]; omega
      · obtain rfl : k = s.size + 1 := by omega
        have HR2 : Hid (rowsL s = out) := Lib.hid (by rw [HR.out, HS.out])
        have hrz := scanL_sz s (s.size + 1)
        rw [HS.out] at hrz
        simp only at hrz
        rw [HR2.out] at HYES HNO
        clear HS HR HR2
        obtain ⟨⟨v, c1, hv⟩, f1, c0, f0, hbl, hsz⟩ := hI
        have HLV : ∀ wx, Below wr.heap.size wr wx → Calls Tryd.prog 31 #[.agg #[v]] wx fun e w' => e = .returned (.bool (lvT out)) ∧ Below wx.heap.size wx w' := fun wx hx => lvok_specL wx (hv.at_.below hx) (by omega) (fun r hr => by have := hrz r hr; omega)
        have x1 : decide (((s.size + 1 : Nat) : Int) ≤ (s.size : Int)) = false := decide_eq_false (by omega)
        obtain ⟨vo, vc, rfl⟩ := hv.slice_
        go_wp2_with fail
        refine (HLV _ (Below.refl _ _)).mono ?_
        rintro e wx ⟨rfl, hk2⟩
        have d1 := (hk2.cell (p := ⟨w.heap.size + 1, 0, none⟩) (by show w.heap.size + 1 < _; omega)).trans c1
        have d0 := (hk2.cell (p := ⟨w.heap.size, 0, none⟩) (by show w.heap.size < _; omega)).trans c0
        have g0 := (hk2.frozen (p := ⟨w.heap.size, 0, none⟩) (by show w.heap.size < _; omega)).trans f0
        have hbx := hbl.trans (hk2.mono hbl.size)
        have hvx := hv.belowS hk2
        clear c1 c0 f0 f1 hk2 HLV x1 hv hbl
        cases hok : lvT out with
        | false =>
          have HN := Lib.hid (HNO.out hok)
          obtain ⟨wn, hwn⟩ : ∃ wn, wn = wx.setCell ⟨w.heap.size, 0, none⟩ (.slice none 0 0) := ⟨_, rfl⟩
          have r0 : wn.cell? ⟨w.heap.size, 0, none⟩ = some (.slice none 0 0) := by rw [hwn]; exact World.cell?_setCell_same' _ _ _ (by rw [d0]; rfl)
          have hbn : Below w.heap.size w wn := by rw [hwn]; exact hbx.setCell (Nat.le_refl _) _
          have hxn : Own wn w.heap.size 1 (.slice none 0 0) ([] : List ByteArray).length (([] : List ByteArray).map Value.string) := Own.nil _ _ _
          have HWN := Lib.hid hwn; clear hwn
          go_wp2_with fail
          rw [← HWN.out]
          (try simp only [Exit.inBlock, Exit.then])
          refine bodyPost_ret (by simp [results, Tryd.results12, go_sem, r0]; try rfl) rfl ?_
          exact ⟨_, by rw [HN.out], by rw [HN.out]; exact hxn, hbn⟩
        | true =>
          have HN := Lib.hid (HYES.out hok)
          obtain ⟨wn, hwn⟩ : ∃ wn, wn = wx.setCell ⟨w.heap.size, 0, none⟩ (.slice vo out.length vc) := ⟨_, rfl⟩
          have r0 : wn.cell? ⟨w.heap.size, 0, none⟩ = some (.slice vo out.length vc) := by rw [hwn]; exact World.cell?_setCell_same' _ _ _ (by rw [d0]; rfl)
          have hbn : Below w.heap.size w wn := by rw [hwn]; exact hbx.setCell (Nat.le_refl _) _
          have hxn : Own wn w.heap.size 1 (.slice vo out.length vc) out.length (out.map Value.string) := by rw [hwn]; exact (hvx.mono (by omega)).other (by intro g hg; have := (hvx.ge g hg).1; show g ≠ w.heap.size; omega) _
          have HWN := Lib.hid hwn; clear hwn
          go_wp2_with fail
          rw [← HWN.out]
          (try simp only [Exit.inBlock, Exit.then])
          refine bodyPost_ret (by simp [results, Tryd.results12, go_sem, r0]; try rfl) rfl ?_
          exact ⟨_, by rw [HN.out], by rw [HN.out]; exact hxn, hbn⟩
end Go.Proofs.YtiopbdodegopdaaDoor
