/- Texts Prs, Lvq, Gen in one. -/
import Derived.Test.YtiopbdodegopdaaDoorKB
import Derived.Test.YtiopbdodegopdaaDoorKC
import Derived.Test.YtiopbdodegopdaaDoorKE
import Derived.Test.YtiopbdodegopdaaDoorKI
import Derived.BigQuiet
import Derived.Deep.QuietTactic
/- ParseLevel, the reference's. -/
namespace Go.Proofs.YtiopbdodegopdaaDoor
open Go.RowKit

/-- after k bytes: the rows that have ended, and where the next one begins -/
def scanL (s : ByteArray) : Nat → List ByteArray × Nat
  | 0 => ([], 0)
  | k + 1 => if k = s.size ∨ byteAt s k = 47 then ((scanL s k).1 ++ [s.extract (scanL s k).2 k], k + 1) else scanL s k
def rowsL (s : ByteArray) : List ByteArray := (scanL s (s.size + 1)).1
def parT (s : ByteArray) : List ByteArray × Bool := if lvT (rowsL s) = true then (rowsL s, true) else ([], false)
theorem scanL_le (s : ByteArray) : ∀ k, (scanL s k).2 ≤ k ∧ (scanL s k).1.length ≤ k
  | 0 => ⟨Nat.le_refl _, Nat.le_refl _⟩
  | k + 1 => by
    have := scanL_le s k
    simp only [scanL]
    split
    · refine ⟨Nat.le_refl _, ?_⟩
      rw [List.length_append]
      show _ + 1 ≤ _
      omega
    · omega
theorem scanL_sz (s : ByteArray) : ∀ k, ∀ r ∈ (scanL s k).1, r.size ≤ s.size
  | 0, r, h => by simp [scanL] at h
  | k + 1, r, h => by
    simp only [scanL] at h
    split at h
    · rcases List.mem_append.1 h with h | h
      · exact scanL_sz s k r h
      · rw [List.mem_singleton.1 h]; exact extract_le _ _ _
    · exact scanL_sz s k r h
theorem scanL_yes {s : ByteArray} {k b : Nat} {out : List ByteArray} (h : scanL s k = (out, b)) (hc : k = s.size ∨ byteAt s k = 47) : scanL s (k + 1) = (out ++ [s.extract b k], k + 1) := by
  simp only [scanL]; rw [if_pos hc, h]
theorem scanL_no {s : ByteArray} {k b : Nat} {out : List ByteArray} (h : scanL s k = (out, b)) (hc : ¬ (k = s.size ∨ byteAt s k = 47)) : scanL s (k + 1) = (out, b) := by
  simp only [scanL]; rw [if_neg hc, h]
theorem parT_no {s : ByteArray} (h : lvT (rowsL s) = false) : parT s = ([], false) := if_neg (by rw [h]; simp)
theorem parT_yes {s : ByteArray} (h : lvT (rowsL s) = true) : parT s = (rowsL s, true) := if_pos h
set_option maxRecDepth 100000 in
theorem lvok_specL {u : Value} {l : List ByteArray} (w : World) (h : At w 1 u l.length (l.map Value.string)) (hm : l.length ≤ 2000000) (hz : ∀ s ∈ l, s.size ≤ 1048576) :
    Calls Tryd.prog 31 #[.agg #[u]] w fun e w' => e = .returned (.bool (lvT l)) ∧ Below w.heap.size w w' := by
  by_cases hn : l.length ≤ 1048576
  · exact lvok_spec w h hn hz
  · obtain ⟨ao, cap, rfl, hc⟩ := h.cellS
    have HN := Lib.hid (lvT_out (l := l) (by omega))
    clear hc
    go_enter Tryd.func31, Tryd.ntmps31
    go_wp2_with fail
    refine (in_no _ _ _ _ (by omega)).mono ?_
    rintro e wx ⟨rfl, rfl⟩
    go_wp2_with fail
    go_ret
    exact ⟨ret_bool (by rw [HN.out]), (Below.refl _ _).alloc (Nat.le_refl _) _⟩
structure PrI (w wr : World) (out : List ByteArray) : Prop where
  ex : ∃ v, wr.cell? ⟨w.heap.size + 1, 0, none⟩ = some v ∧ Own wr (w.heap.size + 2) 1 v out.length (out.map Value.string)
  f1 : wr.frozen? ⟨w.heap.size + 1, 0, none⟩ = false
  c0 : wr.cell? ⟨w.heap.size, 0, none⟩ = some nilV
  f0 : wr.frozen? ⟨w.heap.size, 0, none⟩ = false
  bl : Below w.heap.size w wr
  sz : w.heap.size + 2 ≤ wr.heap.size
theorem PrI.step {w wr wq w2 : World} {out : List ByteArray} {x : ByteArray} {v v' : Value} (h : PrI w wr out) (hc : wr.cell? ⟨w.heap.size + 1, 0, none⟩ = some v) (hv : Own wr (w.heap.size + 2) 1 v out.length (out.map Value.string)) (hB : Below wr.heap.size wr wq)
    (hO : Own w2 (w.heap.size + 2) 1 v' (out.length + 1) ((out ++ [x]).map Value.string)) (hg : wq.grownBy w2 v.ownBlock) :
    w2.cell? ⟨w.heap.size + 1, 0, none⟩ = some v ∧ w2.frozen? ⟨w.heap.size + 1, 0, none⟩ = false ∧ PrI w (w2.setCell ⟨w.heap.size + 1, 0, none⟩ v') (out ++ [x]) := by
  have hsz := h.sz
  have hn : ∀ i, i < w.heap.size + 2 → some i ≠ v.ownBlock := fun i hi e => by have := (hv.ge i e.symm).1; omega
  have hB2 : Below (w.heap.size + 2) wr w2 := (hB.mono (by omega)).grown hg (by have := hB.size; omega) (fun k e => by have := (hv.ge k e).1; omega)
  have k1 : w2.cell? ⟨w.heap.size + 1, 0, none⟩ = some v := (hB2.cell (p := ⟨w.heap.size + 1, 0, none⟩) (by show w.heap.size + 1 < _; omega)).trans hc
  refine ⟨k1, (hB2.frozen (p := ⟨w.heap.size + 1, 0, none⟩) (by show w.heap.size + 1 < _; omega)).trans h.f1, ⟨⟨v', World.cell?_setCell_same' _ _ _ (by rw [k1]; rfl), ?_⟩, ?_, ?_, ?_, ?_, ?_⟩⟩
  · have e : (out ++ [x]).length = out.length + 1 := by simp
    rw [e]
    exact hO.other (fun g hg => by have := (hO.ge g hg).1; show g ≠ w.heap.size + 1; omega) _
  · rw [World.frozen?_setCell]; exact (hB2.frozen (p := ⟨w.heap.size + 1, 0, none⟩) (by show w.heap.size + 1 < _; omega)).trans h.f1
  · rw [World.cell?_setCell_other _ _ _ _ (by intro e; have := congrArg Addr.block e; simp at this)]
    exact (hB2.cell (p := ⟨w.heap.size, 0, none⟩) (by show w.heap.size < _; omega)).trans h.c0
  · rw [World.frozen?_setCell]; exact (hB2.frozen (p := ⟨w.heap.size, 0, none⟩) (by show w.heap.size < _; omega)).trans h.f0
  · exact (h.bl.trans (hB2.mono (by omega))).setCell (by show w.heap.size ≤ w.heap.size + 1; omega) _
  · have := hB2.size
    simp
    omega
theorem size_strs : (Tryd.prog.info? 25).map (·.size) = some 1 := by kernel_rfl
set_option maxRecDepth 100000 in
set_option maxHeartbeats 4000000 in
theorem parse_spec (s : ByteArray) (w : World) (hs : s.size ≤ 1048576) :
    Calls Tryd.prog 12 #[.string s] w fun e w' => ∃ u, e = .returned (.tuple #[.agg #[u], .bool (parT s).2]) ∧ Own w' w.heap.size 1 u (parT s).1.length ((parT s).1.map Value.string) ∧ Below w.heap.size w w' := by
  have HNO := Lib.hid (parT_no (s := s))
  have HYES := Lib.hid (parT_yes (s := s))
  have HR : Hid (rowsL s = (scanL s (s.size + 1)).1) := Lib.hid rfl
  go_enter Tryd.func12, Tryd.ntmps12
  go_upto_region 2 with (fail)
  generalize hw1 : (w.alloc _).alloc _ = w1
  have hI : PrI w w1 [] := by
    rw [← hw1]
    exact ⟨⟨nilV, by simp [World.cell?_alloc_at, nilV], Own.nil _ _ _⟩, by simp [World.frozen?_alloc_at], cell_alloc_lt (World.cell?_alloc_new _ _ _ 0) _ (by simp), by simp [World.frozen?_alloc_past, World.frozen?_alloc_at], ((Below.refl _ _).alloc (Nat.le_refl _) _).alloc (by simp) _, by simp⟩
  clear hw1
  go_wp2_with fail
  go_loopw [5, 6] (fun st i wr => ∃ (k b : Nat) (out : List ByteArray), k ≤ s.size + 1 ∧ i = .int .i64 (k : Int) ∧ st = .int .i64 (b : Int) ∧ Hid (scanL s k = (out, b)) ∧ b ≤ k ∧ out.length ≤ k ∧ PrI w wr out) (fun _ i _ => s.size + 1 - (intOf i).toNat)
  case atStart => exact ⟨0, 0, [], Nat.zero_le _, rfl, rfl, Lib.hid rfl, Nat.le_refl _, Nat.le_refl _, hI⟩
  case round =>
    clear hI
    obtain ⟨k, b, out, hk, rfl, rfl, HS, hbk, hol, hI⟩ := hrel
    by_cases hlt : k < s.size
    · have hbe := byteAt_eq hlt
      by_cases h47 : byteAt s k = 47
      · have HN := Lib.hid (scanL_yes HS.out (.inr h47))
        have x1 : decide ((k : Int) ≤ (s.size : Int)) = true := decide_eq_true (by omega)
        have x2 : ((k : Int) == (s.size : Int)) = false := beq_eq_false_iff_ne.2 (by omega)
        have x3 : (((s[k]'hlt).toNat : Int) == 47) = true := by rw [← hbe]; exact beq_iff_eq.2 h47
        clear hbe h47
        obtain ⟨⟨v, c1, hv⟩, _⟩ := id hI
        obtain ⟨vo, vc, rfl⟩ := hv.slice_
        have hsz := hI.sz
        have hB0 := (Below.refl wr.heap.size wr).drew
        have hvD := hv.drew
        go_upto_region 7 with (fail)
        refine wp_region_sch (fun wx => Below wr.heap.size wr wx) 7 3 (.st 0 (.st 1 (.st 2 (.st 3 (.st 4 (.st 5 (.ef 6 (.fin [7, 8, 9])))))))) (by kernel_rfl) (by kernel_rfl) (fun _ _ d _ _ h => by cases d <;> exact h) hB0 ?_
        refine sch_still (o := ⟨some 24, _, _, _, _, _⟩) (v := .pointer (some ⟨w.heap.size + 1, 0, none⟩)) rfl rfl ?_ ?_
        · intro wx hSx
          go_simp
        simp only [Act.put, List.setIfInBounds_toArray, List.set_cons_zero, List.set_cons_succ]
        refine sch_still (o := ⟨some 25, _, _, _, _, _⟩) (v := .slice vo out.length vc) rfl rfl ?_ ?_
        · intro wx hSx
          have c := (hSx.cell (p := ⟨w.heap.size + 1, 0, none⟩) (by show w.heap.size + 1 < _; omega)).trans c1; go_simp
        simp only [Act.put, List.setIfInBounds_toArray, List.set_cons_zero, List.set_cons_succ]
        refine sch_still (o := ⟨some 26, _, _, _, _, _⟩) (v := .string s) rfl rfl ?_ ?_
        · intro wx hSx
          go_simp
        simp only [Act.put, List.setIfInBounds_toArray, List.set_cons_zero, List.set_cons_succ]
        refine sch_still (o := ⟨some 27, _, _, _, _, _⟩) (v := .int .i64 (b : Int)) rfl rfl ?_ ?_
        · intro wx hSx
          go_simp
        simp only [Act.put, List.setIfInBounds_toArray, List.set_cons_zero, List.set_cons_succ]
        refine sch_still (o := ⟨some 28, _, _, _, _, _⟩) (v := .int .i64 (k : Int)) rfl rfl ?_ ?_
        · intro wx hSx
          go_simp
        simp only [Act.put, List.setIfInBounds_toArray, List.set_cons_zero, List.set_cons_succ]
        refine sch_still (o := ⟨some 29, _, _, _, _, _⟩) (v := .string (s.extract b k)) rfl rfl ?_ ?_
        · intro wx hSx
          go_simp
        simp only [Act.put, List.setIfInBounds_toArray, List.set_cons_zero, List.set_cons_succ]
        generalize wr.drew = wq at *
        refine sch_ef (o := ⟨some 30, _, _, _, _, _⟩) rfl ?_
        iterate 3 go_step
        have HC : Hid ((#[Value.string (s.extract b k)] : Array Value).toList = [s.extract b k].map Value.string) := Lib.hid rfl
        have hBs := hB0.size
        refine sch_next (hB0.alloc hBs _) ?_
        refine sch_end (.cons (o := ⟨some 31, _, _, _, _, _⟩) rfl (.cons (o := ⟨some 32, _, _, _, _, _⟩) rfl (.cons (o := ⟨none, _, _, _, _, _⟩) rfl .nil))) ?_
        refine app_strs (o := ⟨some 31, _, _, _, _, _⟩) wq _ rfl _ _ rfl (w.heap.size + 2) hvD rfl 1 1 [s.extract b k] rfl HC rfl (by omega) (by omega) ?_
        intro v2 w2 hO hg
        have hst := hI.step c1 hv hB0 hO hg
        obtain ⟨k1, k2, hI2⟩ := hst
        have hoo := slice_one hO.at_
        clear hI hO hg hv hvD hB0 c1 HC
        simp only [Act.put, List.setIfInBounds_toArray, List.set_cons_zero, List.set_cons_succ]
        iterate 3 go_step
        refine store_cell (o := ⟨none, _, _, _, _, _⟩) rfl _ _ _ rfl (w.heap.size + 1) 0 rfl v2 rfl hoo size_strs k1 k2 ?_
        generalize World.setCell w2 _ _ = wn at hI2
        clear k1 k2 hoo
        go_wp2_with fail
        go_roundw
        case rel => exact ⟨k + 1, k + 1, _, by omega, by go_num, by go_num, HN, by omega, by rw [List.length_append]; show _ + 1 ≤ _; omega, hI2⟩
        case measure => simp [intOf]; omega
      · have HN := Lib.hid (scanL_no HS.out (fun e => by rcases e with e | e; (· omega); (· exact h47 e)))
        have x1 : decide ((k : Int) ≤ (s.size : Int)) = true := decide_eq_true (by omega)
        have x2 : ((k : Int) == (s.size : Int)) = false := beq_eq_false_iff_ne.2 (by omega)
        have x3 : (((s[k]'hlt).toNat : Int) == 47) = false := by rw [← hbe]; exact beq_eq_false_iff_ne.2 h47
        clear hbe h47
        go_wp2_with fail
        go_roundw
        case rel => exact ⟨k + 1, b, out, by omega, by go_num, rfl, HN, by omega, by omega, hI⟩
        case measure => simp [intOf]; omega
    · by_cases hke : k ≤ s.size
      · have HN := Lib.hid (scanL_yes HS.out (.inl (show k = s.size by omega)))
        have x1 : decide ((k : Int) ≤ (s.size : Int)) = true := decide_eq_true (by omega)
        have x2 : ((k : Int) == (s.size : Int)) = true := beq_iff_eq.2 (by omega)
        obtain ⟨⟨v, c1, hv⟩, _⟩ := id hI
        obtain ⟨vo, vc, rfl⟩ := hv.slice_
        have hsz := hI.sz
        have hB0 := (Below.refl wr.heap.size wr).drew
        have hvD := hv.drew
        go_upto_region 7 with (fail)
        refine wp_region_sch (fun wx => Below wr.heap.size wr wx) 7 3 (.st 0 (.st 1 (.st 2 (.st 3 (.st 4 (.st 5 (.ef 6 (.fin [7, 8, 9])))))))) (by kernel_rfl) (by kernel_rfl) (fun _ _ d _ _ h => by cases d <;> exact h) hB0 ?_
        refine sch_still (o := ⟨some 24, _, _, _, _, _⟩) (v := .pointer (some ⟨w.heap.size + 1, 0, none⟩)) rfl rfl ?_ ?_
        · intro wx hSx
          go_simp
        simp only [Act.put, List.setIfInBounds_toArray, List.set_cons_zero, List.set_cons_succ]
        refine sch_still (o := ⟨some 25, _, _, _, _, _⟩) (v := .slice vo out.length vc) rfl rfl ?_ ?_
        · intro wx hSx
          have c := (hSx.cell (p := ⟨w.heap.size + 1, 0, none⟩) (by show w.heap.size + 1 < _; omega)).trans c1; go_simp
        simp only [Act.put, List.setIfInBounds_toArray, List.set_cons_zero, List.set_cons_succ]
        refine sch_still (o := ⟨some 26, _, _, _, _, _⟩) (v := .string s) rfl rfl ?_ ?_
        · intro wx hSx
          go_simp
        simp only [Act.put, List.setIfInBounds_toArray, List.set_cons_zero, List.set_cons_succ]
        refine sch_still (o := ⟨some 27, _, _, _, _, _⟩) (v := .int .i64 (b : Int)) rfl rfl ?_ ?_
        · intro wx hSx
          go_simp
        simp only [Act.put, List.setIfInBounds_toArray, List.set_cons_zero, List.set_cons_succ]
        refine sch_still (o := ⟨some 28, _, _, _, _, _⟩) (v := .int .i64 (k : Int)) rfl rfl ?_ ?_
        · intro wx hSx
          go_simp
        simp only [Act.put, List.setIfInBounds_toArray, List.set_cons_zero, List.set_cons_succ]
        refine sch_still (o := ⟨some 29, _, _, _, _, _⟩) (v := .string (s.extract b k)) rfl rfl ?_ ?_
        · intro wx hSx
          go_simp
        simp only [Act.put, List.setIfInBounds_toArray, List.set_cons_zero, List.set_cons_succ]
        generalize wr.drew = wq at *
        refine sch_ef (o := ⟨some 30, _, _, _, _, _⟩) rfl ?_
        iterate 3 go_step
        have HC : Hid ((#[Value.string (s.extract b k)] : Array Value).toList = [s.extract b k].map Value.string) := Lib.hid rfl
        have hBs := hB0.size
        refine sch_next (hB0.alloc hBs _) ?_
        refine sch_end (.cons (o := ⟨some 31, _, _, _, _, _⟩) rfl (.cons (o := ⟨some 32, _, _, _, _, _⟩) rfl (.cons (o := ⟨none, _, _, _, _, _⟩) rfl .nil))) ?_
        refine app_strs (o := ⟨some 31, _, _, _, _, _⟩) wq _ rfl _ _ rfl (w.heap.size + 2) hvD rfl 1 1 [s.extract b k] rfl HC rfl (by omega) (by omega) ?_
        intro v2 w2 hO hg
        have hst := hI.step c1 hv hB0 hO hg
        obtain ⟨k1, k2, hI2⟩ := hst
        have hoo := slice_one hO.at_
        clear hI hO hg hv hvD hB0 c1 HC
        simp only [Act.put, List.setIfInBounds_toArray, List.set_cons_zero, List.set_cons_succ]
        iterate 3 go_step
        refine store_cell (o := ⟨none, _, _, _, _, _⟩) rfl _ _ _ rfl (w.heap.size + 1) 0 rfl v2 rfl hoo size_strs k1 k2 ?_
        generalize World.setCell w2 _ _ = wn at hI2
        clear k1 k2 hoo
        go_wp2_with fail
        go_roundw
        case rel => exact ⟨k + 1, k + 1, _, by omega, by go_num, by go_num, HN, by omega, by rw [List.length_append]; show _ + 1 ≤ _; omega, hI2⟩
        case measure => simp [intOf]; omega
      · obtain rfl : k = s.size + 1 := by omega
        have HR2 : Hid (rowsL s = out) := Lib.hid (by rw [HR.out, HS.out])
        have hrz := scanL_sz s (s.size + 1)
        rw [HS.out] at hrz
        simp only at hrz
        rw [HR2.out] at HYES HNO
        clear HS HR HR2
        obtain ⟨⟨v, c1, hv⟩, f1, c0, f0, hbl, hsz⟩ := hI
        have HLV : ∀ wx, Below wr.heap.size wr wx → Calls Tryd.prog 31 #[.agg #[v]] wx fun e w' => e = .returned (.bool (lvT out)) ∧ Below wx.heap.size wx w' := fun wx hx => lvok_specL wx (hv.at_.below hx) (by omega) (fun r hr => by have := hrz r hr; omega)
        have x1 : decide (((s.size + 1 : Nat) : Int) ≤ (s.size : Int)) = false := decide_eq_false (by omega)
        obtain ⟨vo, vc, rfl⟩ := hv.slice_
        go_wp2_with fail
        refine (HLV _ (Below.refl _ _)).mono ?_
        rintro e wx ⟨rfl, hk2⟩
        have d1 := (hk2.cell (p := ⟨w.heap.size + 1, 0, none⟩) (by show w.heap.size + 1 < _; omega)).trans c1
        have d0 := (hk2.cell (p := ⟨w.heap.size, 0, none⟩) (by show w.heap.size < _; omega)).trans c0
        have g0 := (hk2.frozen (p := ⟨w.heap.size, 0, none⟩) (by show w.heap.size < _; omega)).trans f0
        have hbx := hbl.trans (hk2.mono hbl.size)
        have hvx := hv.belowS hk2
        clear c1 c0 f0 f1 hk2 HLV x1 hv hbl
        cases hok : lvT out with
        | false =>
          have HN := Lib.hid (HNO.out hok)
          obtain ⟨wn, hwn⟩ : ∃ wn, wn = wx.setCell ⟨w.heap.size, 0, none⟩ (.slice none 0 0) := ⟨_, rfl⟩
          have r0 : wn.cell? ⟨w.heap.size, 0, none⟩ = some (.slice none 0 0) := by rw [hwn]; exact World.cell?_setCell_same' _ _ _ (by rw [d0]; rfl)
          have hbn : Below w.heap.size w wn := by rw [hwn]; exact hbx.setCell (Nat.le_refl _) _
          have hxn : Own wn w.heap.size 1 (.slice none 0 0) ([] : List ByteArray).length (([] : List ByteArray).map Value.string) := Own.nil _ _ _
          have HWN := Lib.hid hwn; clear hwn
          go_wp2_with fail
          rw [← HWN.out]
          (try simp only [Exit.inBlock, Exit.then])
          refine bodyPost_ret (by simp [results, Tryd.results12, go_sem, r0]; try rfl) rfl ?_
          exact ⟨_, by rw [HN.out], by rw [HN.out]; exact hxn, hbn⟩
        | true =>
          have HN := Lib.hid (HYES.out hok)
          obtain ⟨wn, hwn⟩ : ∃ wn, wn = wx.setCell ⟨w.heap.size, 0, none⟩ (.slice vo out.length vc) := ⟨_, rfl⟩
          have r0 : wn.cell? ⟨w.heap.size, 0, none⟩ = some (.slice vo out.length vc) := by rw [hwn]; exact World.cell?_setCell_same' _ _ _ (by rw [d0]; rfl)
          have hbn : Below w.heap.size w wn := by rw [hwn]; exact hbx.setCell (Nat.le_refl _) _
          have hxn : Own wn w.heap.size 1 (.slice vo out.length vc) out.length (out.map Value.string) := by rw [hwn]; exact (hvx.mono (by omega)).other (by intro g hg; have := (hvx.ge g hg).1; show g ≠ w.heap.size; omega) _
          have HWN := Lib.hid hwn; clear hwn
          go_wp2_with fail
          rw [← HWN.out]
          (try simp only [Exit.inBlock, Exit.then])
          refine bodyPost_ret (by simp [results, Tryd.results12, go_sem, r0]; try rfl) rfl ?_
          exact ⟨_, by rw [HN.out], by rw [HN.out]; exact hxn, hbn⟩
end Go.Proofs.YtiopbdodegopdaaDoor
/- The five levels that are drawn. Plain laws. -/
namespace Go.Proofs.YtiopbdodegopdaaDoor
open Go.RowKit

def lt0 : ByteArray := ⟨#[35, 35, 35, 35, 35, 35, 47, 35, 49, 46, 111, 50, 35, 47, 35, 46, 35, 35, 46, 35, 47, 35, 111, 46, 46, 111, 35, 47, 35, 35, 35, 35, 35, 35]⟩
def lt1 : ByteArray := ⟨#[35, 35, 35, 35, 35, 35, 35, 35, 35, 35, 47, 35, 49, 46, 46, 111, 46, 46, 46, 50, 35, 47, 35, 46, 46, 35, 35, 46, 35, 35, 46, 35, 47, 35, 111, 46, 46, 51, 46, 46, 111, 52, 35, 47, 35, 35, 35, 35, 35, 35, 35, 35, 35, 35]⟩
def lt2 : ByteArray := ⟨#[35, 35, 35, 35, 47, 35, 46, 46, 35, 47, 35, 35, 35, 35]⟩
def lt3 : ByteArray := ⟨#[35, 35, 35, 35, 35, 35, 35, 35, 47, 35, 49, 46, 50, 46, 111, 111, 35, 47, 35, 35, 35, 35, 35, 35, 35, 35]⟩
def lt4 : ByteArray := ⟨#[35, 35, 35, 35, 35, 35, 35, 47, 35, 46, 46, 111, 46, 46, 35, 47, 35, 46, 35, 35, 35, 46, 35, 47, 35, 46, 49, 46, 50, 46, 35, 47, 35, 35, 35, 35, 35, 35, 35]⟩
def lvStr : Nat → ByteArray
  | 0 => lt0
  | 1 => lt1
  | 2 => lt2
  | 3 => lt3
  | _ => lt4
def lq0 : List ByteArray := lvB [[35, 35, 35, 35, 35, 35], [35, 49, 46, 111, 50, 35], [35, 46, 35, 35, 46, 35], [35, 111, 46, 46, 111, 35], [35, 35, 35, 35, 35, 35]]
def lq1 : List ByteArray := lvB [[35, 35, 35, 35, 35, 35, 35, 35, 35, 35], [35, 49, 46, 46, 111, 46, 46, 46, 50, 35], [35, 46, 46, 35, 35, 46, 35, 35, 46, 35], [35, 111, 46, 46, 51, 46, 46, 111, 52, 35], [35, 35, 35, 35, 35, 35, 35, 35, 35, 35]]
def lq2 : List ByteArray := lvB [[35, 35, 35, 35], [35, 46, 46, 35], [35, 35, 35, 35]]
def lq3 : List ByteArray := lvB [[35, 35, 35, 35, 35, 35, 35, 35], [35, 49, 46, 50, 46, 111, 111, 35], [35, 35, 35, 35, 35, 35, 35, 35]]
def lq4 : List ByteArray := lvB [[35, 35, 35, 35, 35, 35, 35], [35, 46, 46, 111, 46, 46, 35], [35, 46, 35, 35, 35, 46, 35], [35, 46, 49, 46, 50, 46, 35], [35, 35, 35, 35, 35, 35, 35]]
def lvQ : List (List ByteArray) := [lq0, lq1, lq2, lq3, lq4]
theorem rows_0 : rowsL lt0 = lq0 := by decide +kernel
theorem rows_1 : rowsL lt1 = lq1 := by decide +kernel
theorem rows_2 : rowsL lt2 = lq2 := by decide +kernel
theorem rows_3 : rowsL lt3 = lq3 := by decide +kernel
theorem rows_4 : rowsL lt4 = lq4 := by decide +kernel
theorem lvQ_ok : ∀ r ∈ lvQ, lvT r = true := by
  intro r hr
  simp only [lvQ, List.mem_cons, List.not_mem_nil, or_false] at hr
  rcases hr with rfl | rfl | rfl | rfl | rfl <;> decide +kernel
theorem lvStr_rows : ∀ k, rowsL (lvStr k) ∈ lvQ
  | 0 => by rw [show lvStr 0 = lt0 from rfl, rows_0]; simp [lvQ]
  | 1 => by rw [show lvStr 1 = lt1 from rfl, rows_1]; simp [lvQ]
  | 2 => by rw [show lvStr 2 = lt2 from rfl, rows_2]; simp [lvQ]
  | 3 => by rw [show lvStr 3 = lt3 from rfl, rows_3]; simp [lvQ]
  | k + 4 => by rw [show lvStr (k + 4) = lt4 from rfl, rows_4]; simp [lvQ]
theorem lvStr_par (k : Nat) : parT (lvStr k) = (rowsL (lvStr k), true) := parT_yes (lvQ_ok _ (lvStr_rows k))
theorem lvStr_sz : ∀ k, (lvStr k).size ≤ 60
  | 0 => by decide
  | 1 => by decide
  | 2 => by decide
  | 3 => by decide
  | _ + 4 => by show lt4.size ≤ 60; decide
theorem idle_allQ : ∀ r ∈ lvQ, ∀ k, k < 4 → idleOk r k = true := by
  intro r hr k hk
  simp only [lvQ, List.mem_cons, List.not_mem_nil, or_false] at hr
  rcases hr with rfl | rfl | rfl | rfl | rfl
  all_goals
    rcases (show k = 0 ∨ k = 1 ∨ k = 2 ∨ k = 3 by omega) with rfl | rfl | rfl | rfl <;> decide +kernel
end Go.Proofs.YtiopbdodegopdaaDoor
/- The draws' cursor: what the generators of the reference return, as far as bounds go. -/
namespace Go.Proofs.YtiopbdodegopdaaDoor
open Go.RowKit

theorem and_bd (a : Int) (b : Nat) (hb : b < 9223372036854775808) : 0 ≤ bits .and .i64 a (b : Int) ∧ bits .and .i64 a (b : Int) ≤ b := by
  have h2 := ofInt64_nat b hb
  have h : bits .and .i64 a (b : Int) = (((BitVec.ofInt 64 a).toNat &&& b : Nat) : Int) := by
    show IntKind.i64.wrap ((BitVec.ofInt 64 a &&& BitVec.ofInt 64 (b : Int)).toNat : Int) = _
    rw [BitVec.toNat_and, h2]
    exact wrap_i64_nat _ (Nat.lt_of_le_of_lt Nat.and_le_right hb)
  rw [h]
  have := Nat.and_le_right (n := (BitVec.ofInt 64 a).toNat) (m := b)
  omega
theorem wrap64_bd (x : Int) : -9223372036854775808 ≤ wrap64 x ∧ wrap64 x ≤ 9223372036854775807 := by unfold wrap64; omega
/-- The cursor at block g, made since the world W0: a copy of the code's slice v, a place in it, a number. -/
structure Cur (W0 w : World) (g : Nat) (v : Value) (n : Nat) : Prop where
  bl : Below W0.heap.size W0 w
  ge : W0.heap.size ≤ g
  lt : g < w.heap.size
  c0 : w.cell? ⟨g, 0, none⟩ = some v
  c1 : ∃ i : Nat, i ≤ n ∧ w.cell? ⟨g, 1, none⟩ = some (.int .i64 i)
  c2 : ∃ h : Int, -9223372036854775808 ≤ h ∧ h ≤ 9223372036854775807 ∧ w.cell? ⟨g, 2, none⟩ = some (.int .i64 h)
  f1 : w.frozen? ⟨g, 1, none⟩ = false
  f2 : w.frozen? ⟨g, 2, none⟩ = false
theorem Cur.below {W0 w w' : World} {g : Nat} {v : Value} {n : Nat} (h : Cur W0 w g v n) (hb : Below w.heap.size w w') : Cur W0 w' g v n := by
  have hs := h.bl.size
  obtain ⟨i, hi, c1⟩ := h.c1
  obtain ⟨x, h1, h2, c2⟩ := h.c2
  exact ⟨h.bl.trans (hb.mono hs), h.ge, Nat.lt_of_lt_of_le h.lt hb.size, (hb.cell h.lt).trans h.c0, ⟨i, hi, (hb.cell h.lt).trans c1⟩, ⟨x, h1, h2, (hb.cell h.lt).trans c2⟩, (hb.frozen h.lt).trans h.f1, (hb.frozen h.lt).trans h.f2⟩
/-- where g's own block has not turned -/
theorem Cur.grown {W0 w w' : World} {g : Nat} {v : Value} {n : Nat} {row : Option Nat} (h : Cur W0 w g v n) (hg : w.grownBy w' row) (hr : ∀ k, row = some k → W0.heap.size ≤ k ∧ k ≠ g) : Cur W0 w' g v n := by
  have hb := hg.block g h.lt (fun e => (hr g e.symm).2 rfl)
  have hc : ∀ j, w'.cell? ⟨g, j, none⟩ = w.cell? ⟨g, j, none⟩ := fun j => World.cell?_of_block hb
  have hf : ∀ j, w'.frozen? ⟨g, j, none⟩ = w.frozen? ⟨g, j, none⟩ := fun j => World.frozen?_of_block hb
  obtain ⟨i, hi, c1⟩ := h.c1
  obtain ⟨x, h1, h2, c2⟩ := h.c2
  exact ⟨h.bl.grown hg h.bl.size (fun k hk => (hr k hk).1), h.ge, Nat.lt_of_lt_of_le h.lt hg.size, (hc 0).trans h.c0, ⟨i, hi, (hc 1).trans c1⟩, ⟨x, h1, h2, (hc 2).trans c2⟩, (hf 1).trans h.f1, (hf 2).trans h.f2⟩
/-- a store into the cursor -/
theorem Cur.set1 {W0 w : World} {g : Nat} {v : Value} {n : Nat} (h : Cur W0 w g v n) (i : Nat) (hi : i ≤ n) : Cur W0 (w.setCell ⟨g, 1, none⟩ (.int .i64 i)) g v n ∧ w.grownBy (w.setCell ⟨g, 1, none⟩ (.int .i64 i)) (some g) := by
  obtain ⟨j, hj, c1⟩ := h.c1
  obtain ⟨x, h1, h2, c2⟩ := h.c2
  refine ⟨⟨h.bl.setCell h.ge _, h.ge, by simpa using h.lt, ?_, ⟨i, hi, ?_⟩, ⟨x, h1, h2, ?_⟩, by rw [World.frozen?_setCell]; exact h.f1, by rw [World.frozen?_setCell]; exact h.f2⟩, ⟨rfl, rfl, rfl, by simp, fun k hk hne => Below.heap_setCell _ _ _ _ (fun e => hne (by rw [e]))⟩⟩
  · rw [World.cell?_setCell_other (h := by intro e; simp at e)]; exact h.c0
  · exact World.cell?_setCell_same' _ _ _ (by rw [c1]; rfl)
  · rw [World.cell?_setCell_other (h := by intro e; simp at e)]; exact c2
theorem Cur.set2 {W0 w : World} {g : Nat} {v : Value} {n : Nat} (h : Cur W0 w g v n) (x : Int) (h1 : -9223372036854775808 ≤ x) (h2 : x ≤ 9223372036854775807) : Cur W0 (w.setCell ⟨g, 2, none⟩ (.int .i64 x)) g v n ∧ w.grownBy (w.setCell ⟨g, 2, none⟩ (.int .i64 x)) (some g) := by
  obtain ⟨j, hj, c1⟩ := h.c1
  obtain ⟨_, _, _, c2⟩ := h.c2
  refine ⟨⟨h.bl.setCell h.ge _, h.ge, by simpa using h.lt, ?_, ⟨j, hj, ?_⟩, ⟨x, h1, h2, ?_⟩, by rw [World.frozen?_setCell]; exact h.f1, by rw [World.frozen?_setCell]; exact h.f2⟩, ⟨rfl, rfl, rfl, by simp, fun k hk hne => Below.heap_setCell _ _ _ _ (fun e => hne (by rw [e]))⟩⟩
  · rw [World.cell?_setCell_other (h := by intro e; simp at e)]; exact h.c0
  · rw [World.cell?_setCell_other (h := by intro e; simp at e)]; exact c1
  · exact World.cell?_setCell_same' _ _ _ (by rw [c2]; rfl)
theorem Cur.drewN {W0 w : World} {g : Nat} {v : Value} {n : Nat} (h : Cur W0 w g v n) (k : Nat) : Cur W0 (w.drewN k) g v n := ⟨below_drewN h.bl k, h.ge, h.lt, h.c0, h.c1, h.c2, h.f1, h.f2⟩
theorem grown_drewN {a b : World} {row : Option Nat} (h : a.grownBy b row) (k : Nat) : a.grownBy (b.drewN k) row := ⟨h.os, h.tape, h.output, h.size, h.block⟩
/-- what is known of the code -/
structure Code8 (W0 : World) (v : Value) (l : List Int) : Prop where
  hat : At W0 1 v l.length (l.map (Value.int .u8))
  hwf : ∀ n ∈ l, (Lit.int .u8 n).wf = true
  hm : l.length ≤ 1048576
set_option maxHeartbeats 1000000 in
theorem byte_ret {v : Value} {l : List Int} {g : Nat} {W0 : World} (w : World) (hd : Code8 W0 v l) (hc : Cur W0 w g v l.length) :
    Calls Tryd.prog 41 #[.pointer (some ⟨g, 0, none⟩)] w fun e w' => ∃ x : Int, e = .returned (.int .i64 x) ∧ 0 ≤ x ∧ x ≤ 255 ∧ Cur W0 w' g v l.length ∧ w.grownBy w' (some g) := by
  obtain ⟨hat, hwf, hm⟩ := hd
  have hcu := hc
  obtain ⟨hbl, hge, lt, c0, ⟨i, hi, c1⟩, ⟨h, h1, h2, c2⟩, f1, f2⟩ := hc
  obtain ⟨ao, cap, rfl, hcell⟩ := hat.cell
  go_enter Tryd.func41, Tryd.ntmps41
  go_wp2_with fail
  go_quiet (fail)
  go_wp2_with fail
  generalize hX : bits BinOp.and IntKind.i64 _ 255 = X
  have hXb : 0 ≤ X ∧ X ≤ 255 := by rw [← hX]; exact and_bd _ 255 (by decide)
  clear hX
  have hB : ∀ (u : Int) (nq : Nat), Cur W0 ((w.setCell ⟨g, 2, none⟩ (.int .i64 (wrap64 u))).drewN nq) g _ l.length ∧ w.grownBy ((w.setCell ⟨g, 2, none⟩ (.int .i64 (wrap64 u))).drewN nq) (some g) ∧ ((w.setCell ⟨g, 2, none⟩ (.int .i64 (wrap64 u))).drewN nq).cell? ⟨g, 1, none⟩ = some (.int .i64 i) := fun u nq =>
    ⟨(hcu.set2 _ (wrap64_bd u).1 (wrap64_bd u).2).1.drewN nq, grown_drewN (hcu.set2 _ (wrap64_bd u).1 (wrap64_bd u).2).2 nq, by
      have e1 : (w.setCell ⟨g, 2, none⟩ (.int .i64 (wrap64 u))).cell? ⟨g, 1, none⟩ = some (.int .i64 i) := by
        rw [World.cell?_setCell_other (h := by intro e; simp at e)]; exact c1
      exact e1⟩
  generalize hwa : World.drewN (w.setCell _ _) _ = wa
  obtain ⟨hca, hga, c1a⟩ : Cur W0 wa g (.slice ao l.length cap) l.length ∧ w.grownBy wa (some g) ∧ wa.cell? ⟨g, 1, none⟩ = some (.int .i64 i) := by rw [← hwa]; exact hB _ _
  have c0a := hca.c0
  have f1a := hca.f1
  clear hB hwa c0 c1 c2 f1 f2
  by_cases hlt : i < l.length
  · obtain ⟨gc, off, rfl, hgc, hcl⟩ := hcell (by omega)
    have cc : wa.cell? ⟨gc, off + i, none⟩ = some (.int .u8 (l[i]'hlt)) := (hca.bl.cell hgc).trans (hcl i hlt)
    have hb8 := Go.bounds_u8 (hwf _ (List.getElem_mem hlt))
    clear hcell hcl
    go_quiet (fail)
    go_wp2_with fail
    go_quiet (fail)
    go_wp2_with fail
    generalize hY : bits BinOp.and IntKind.i64 _ 255 = Y
    have hYb : 0 ≤ Y ∧ Y ≤ 255 := by rw [← hY]; exact and_bd _ 255 (by decide)
    clear hY
    go_ret
    have hs1 := fun nq => (hca.drewN nq).set1 (i + 1) (by omega)
    refine ⟨Y, rfl, hYb.1, hYb.2, ?_, ?_⟩
    · exact (hs1 _).1
    · exact grownBy_trans (grown_drewN hga _) (hs1 _).2
  · clear hcell
    go_quiet (fail)
    go_wp2_with fail
    go_ret
    exact ⟨X, rfl, hXb.1, hXb.2, hca.drewN _, grown_drewN hga _⟩
theorem grown_new {a b c : World} {g : Nat} {row : Option Nat} (h : a.grownBy b (some g)) (k : b.grownBy c row) (hr : ∀ i, row = some i → i < a.heap.size → i = g) : a.grownBy c (some g) :=
  ⟨k.os.trans h.os, k.tape.trans h.tape, k.output.trans h.output, Nat.le_trans h.size k.size, fun i hi hne => (k.block i (Nat.lt_of_lt_of_le hi h.size) (fun e => hne (by rw [hr i e.symm hi]))).trans (h.block i hi hne)⟩
set_option maxRecDepth 100000 in
set_option maxHeartbeats 1000000 in
theorem new_ret {v : Value} {l : List Int} (w : World) (hd : Code8 w v l) :
    Calls Tryd.prog 25 #[v] w fun e w' => ∃ g, e = .returned (.pointer (some ⟨g, 0, none⟩)) ∧ Cur w w' g v l.length := by
  obtain ⟨hat, hwf, hm⟩ := hd
  obtain ⟨ao, cap, rfl, hcell⟩ := hat.cell
  go_enter Tryd.func25, Tryd.ntmps25
  go_wp2_with fail
  go_loop [3, 4] (fun h i => ∃ (k : Nat) (x : Int), k ≤ l.length ∧ i = .int .i64 k ∧ h = .int .i64 x ∧ 0 ≤ x ∧ x ≤ 1073741823) (fun _ i => l.length - (intOf i).toNat)
  case atStart => exact ⟨0, _, Nat.zero_le _, rfl, rfl, by omega, by omega⟩
  case round =>
    obtain ⟨k, x, hk, rfl, rfl, hx0, hx1⟩ := hrel
    by_cases hlt : k < l.length
    · by_cases h4 : k < 4000
      · obtain ⟨gc, off, rfl, hgc, hcl⟩ := hcell (by omega)
        have cc := hcl k hlt
        have hb8 := Go.bounds_u8 (hwf _ (List.getElem_mem hlt))
        clear hcell hcl
        go_wp2_with fail
        generalize hY : bits BinOp.and IntKind.i64 _ 1073741823 = Y
        have hYb : 0 ≤ Y ∧ Y ≤ 1073741823 := by rw [← hY]; exact and_bd _ 1073741823 (by decide)
        clear hY
        first
          | (go_round
             case rel => exact ⟨k + 1, Y, by omega, by go_num, rfl, hYb.1, hYb.2⟩
             case measure => simp [intOf]; omega)
          | exact ⟨⟨k + 1, Y, by omega, by go_num, rfl, hYb.1, hYb.2⟩, by simp [intOf]; omega⟩
      · go_wp2_with fail
        go_ret
        exact ⟨w.heap.size, rfl, (Below.refl _ _).alloc (Nat.le_refl _) _, Nat.le_refl _, by simp, World.cell?_alloc_new _ _ _ 0, ⟨0, Nat.zero_le _, World.cell?_alloc_new _ _ _ 1⟩, ⟨x, by omega, by omega, World.cell?_alloc_new _ _ _ 2⟩, World.frozen?_alloc_new _ _ _ 1, World.frozen?_alloc_new _ _ _ 2⟩
    · go_wp2_with fail
      go_ret
      exact ⟨w.heap.size, rfl, (Below.refl _ _).alloc (Nat.le_refl _) _, Nat.le_refl _, by simp, World.cell?_alloc_new _ _ _ 0, ⟨0, Nat.zero_le _, World.cell?_alloc_new _ _ _ 1⟩, ⟨x, by omega, by omega, World.cell?_alloc_new _ _ _ 2⟩, World.frozen?_alloc_new _ _ _ 1, World.frozen?_alloc_new _ _ _ 2⟩
set_option maxHeartbeats 1000000 in
theorem below_ret {v : Value} {l : List Int} {g : Nat} {W0 : World} (n : Int) (w : World) (hd : Code8 W0 v l) (hc : Cur W0 w g v l.length) (h1 : 1 ≤ n) (h2 : n ≤ 1000000000) :
    Calls Tryd.prog 26 #[.pointer (some ⟨g, 0, none⟩), .int .i64 n] w fun e w' => ∃ x : Int, e = .returned (.int .i64 x) ∧ 0 ≤ x ∧ x < n ∧ Cur W0 w' g v l.length ∧ w.grownBy w' (some g) := by
  have hb : (n == 0) = false := beq_eq_false_iff_ne.2 (by omega)
  by_cases hs : n ≤ 256
  · go_enter Tryd.func26, Tryd.ntmps26
    go_wp2_with fail
    refine (byte_ret _ hd hc).mono ?_
    rintro e w1 ⟨x, rfl, hx0, hx1, hc1, hg1⟩
    have m1 : 0 ≤ x % n := Int.emod_nonneg _ (by omega)
    have m2 : x % n < n := Int.emod_lt_of_pos _ (by omega)
    go_wp2_with fail
    go_ret
    exact ⟨x % n, rfl, m1, m2, hc1, hg1⟩
  · go_enter Tryd.func26, Tryd.ntmps26
    go_wp2_with fail
    refine (byte_ret _ hd hc).mono ?_
    rintro e w1 ⟨x, rfl, hx0, hx1, hc1, hg1⟩
    go_wp2_with fail
    refine (byte_ret _ hd hc1).mono ?_
    rintro e w2 ⟨y, rfl, hy0, hy1, hc2, hg2⟩
    go_wp2_with fail
    refine (byte_ret _ hd hc2).mono ?_
    rintro e w3 ⟨z, rfl, hz0, hz1, hc3, hg3⟩
    go_wp2_with fail
    refine (byte_ret _ hd hc3).mono ?_
    rintro e w4 ⟨t, rfl, ht0, ht1, hc4, hg4⟩
    have m1 : 0 ≤ (x * 16777216 + y * 65536 + z * 256 + t) % n := Int.emod_nonneg _ (by omega)
    have m2 : (x * 16777216 + y * 65536 + z * 256 + t) % n < n := Int.emod_lt_of_pos _ (by omega)
    go_wp2_with fail
    go_ret
    exact ⟨(x * 16777216 + y * 65536 + z * 256 + t) % n, rfl, m1, m2, hc4, grownBy_trans hg1 (grownBy_trans hg2 (grownBy_trans hg3 hg4))⟩
theorem once_ret {v : Value} {l : List Int} {g : Nat} {W0 : World} (n : Int) (w : World) (hd : Code8 W0 v l) (hc : Cur W0 w g v l.length) (h1 : 1 ≤ n) (h2 : n ≤ 1000000000) :
    Calls Tryd.prog 27 #[.pointer (some ⟨g, 0, none⟩), .int .i64 n] w fun e w' => ∃ b : Bool, e = .returned (.bool b) ∧ Cur W0 w' g v l.length ∧ w.grownBy w' (some g) := by
  go_enter Tryd.func27, Tryd.ntmps27
  go_wp2_with fail
  refine (below_ret _ _ hd hc h1 h2).mono ?_
  rintro e w1 ⟨x, rfl, hx0, hx1, hc1, hg1⟩
  go_wp2_with fail
  go_ret
  exact ⟨_, rfl, hc1, hg1⟩
theorem pickint_ret {v lv : Value} {l ll : List Int} {g : Nat} {W0 : World} (w : World) (hd : Code8 W0 v l) (hc : Cur W0 w g v l.length) (ho : Own w 0 1 lv ll.length (ll.map (Value.int .i64))) (hne : lv.ownBlock ≠ some g) (h1 : 1 ≤ ll.length) (h2 : ll.length ≤ 1000) :
    Calls Tryd.prog 73 #[.pointer (some ⟨g, 0, none⟩), lv] w fun e w' => ∃ x : Int, e = .returned (.int .i64 x) ∧ x ∈ ll ∧ Cur W0 w' g v l.length ∧ w.grownBy w' (some g) := by
  rcases ho.val with ⟨rfl, h0⟩ | ⟨gl, cap, rfl, _, hgl, _, _, hcl, _⟩
  · omega
  have hne' : gl ≠ g := fun e => hne (by simp [Value.ownBlock, e])
  go_enter Tryd.func73, Tryd.ntmps73
  go_wp2_with fail
  refine (below_ret _ _ hd hc (by omega) (by omega)).mono ?_
  rintro e w1 ⟨x, rfl, hx0, hx1, hc1, hg1⟩
  obtain ⟨k, rfl⟩ := Int.eq_ofNat_of_zero_le hx0
  have hk : k < ll.length := by omega
  have c1 : w1.cell? ⟨gl, k, none⟩ = some (.int .i64 (ll[k]'hk)) := by
    rw [World.cell?_of_block (w := w) (w' := w1) (a := ⟨gl, k, none⟩) (hg1.block gl hgl (fun e => hne' (by simpa using e))), hcl k (by omega), ints_at hk]
  clear hcl
  go_wp2_with fail
  go_ret
  exact ⟨_, rfl, List.getElem_mem hk, hc1, hg1⟩
end Go.Proofs.YtiopbdodegopdaaDoor
