/- Slices of whole numbers: made, copied (toIntS), compared (eqIntS), marked (markIntS) and read again (heldIntS). -/
import Derived.Test.YtkcknikaidbeoaaAt
import Derived.Test.YtkcknikaidbeoaaLaws
import Derived.Test.YtkcknikaidbeoaaIntLaw
import Derived.Deep.OwnRows
import Derived.Laws.OwnMore
namespace Go.Proofs.Ytkcknikaidbeoaa
open Go.RowKit

section
variable {ops : Array Oper} {rest : List Oper} {o : Oper} {a : Act} {Q : Exit → Act → World → Prop}
theorem info_int : (Try.prog.info? 3).map (fun i => (i.zero, i.size, i.bytes)) = some (some (.int .i64 0), 1, 8) := by kernel_rfl
/-- 'make([]int, n)' -/
theorem make_int (w : World) (hgd : o.guard = none) (l c : Operand) (ho : o.op = Op.makeSlice 42 l c) (base n : Nat) (hl : a.eval l = .int .i64 (n : Int)) (hc : a.eval c = .int .i64 (n : Int)) (hn : n ≤ 1099511627776) (hbase : base ≤ w.heap.size)
    (hK : ∀ w', Own w' base 1 (.slice (some ⟨w.heap.size, 0, none⟩) n n) n ((List.replicate n (0 : Int)).map (Value.int .i64)) → w.grownBy w' none → wpList Try.prog ops Q rest (a.put o.dst (.slice (some ⟨w.heap.size, 0, none⟩) n n)) w') :
    wpList Try.prog ops Q (o :: rest) a w := by
  obtain ⟨i0, hi, hz0, hz1, hz2⟩ := info_parts info_int
  exact wpList_make_row (P := Try.prog) w hgd l c 42 ho 3 i0 (.int .i64 0) Try.underlying42 hi hz0 hz1 rfl .i64 .i64 n hl hc (by rw [hz2]; omega) (by omega)
    (hK _ (Own.lit 3 ((toList_madeCells_one _ n).trans (by rw [List.map_replicate])) (by simp) hbase (by unfold maxLen; omega)) (World.grownBy_alloc w _ _))
/-- 'make([]byte, n)' -/
theorem make_u8 (w : World) (hgd : o.guard = none) (l c : Operand) (ho : o.op = Op.makeSlice 69 l c) (base n : Nat) (hl : a.eval l = .int .i64 (n : Int)) (hc : a.eval c = .int .i64 (n : Int)) (hn : n ≤ 1099511627776) (hbase : base ≤ w.heap.size)
    (hK : ∀ w', Own w' base 1 (.slice (some ⟨w.heap.size, 0, none⟩) n n) n (u8s (List.replicate n (0 : UInt8))) → w.grownBy w' none → wpList Try.prog ops Q rest (a.put o.dst (.slice (some ⟨w.heap.size, 0, none⟩) n n)) w') :
    wpList Try.prog ops Q (o :: rest) a w := by
  obtain ⟨i0, hi, hz0, hz1, hz2⟩ := info_parts info_u8
  exact wpList_make_row (P := Try.prog) w hgd l c 69 ho 5 i0 (.int .u8 0) Try.underlying69 hi hz0 hz1 rfl .i64 .i64 n hl hc (by rw [hz2]; omega) (by omega)
    (hK _ (Own.lit 5 ((toList_madeCells_one _ n).trans (by unfold u8s; rw [List.map_replicate]; rfl)) (by rw [u8s_len]; simp) hbase (by unfold maxLen; omega)) (World.grownBy_alloc w _ _))
end

theorem ints_at {l : List Int} {k : Nat} (h : k < l.length) : (l.map (Value.int .i64))[k]? = some (.int .i64 (l[k]'h)) := by rw [List.getElem?_map, List.getElem?_eq_getElem h]; rfl
/-- what has been copied after k steps -/
def setTo (l : List Int) (k : Nat) : List Int := l.take k ++ List.replicate (l.length - k) 0
theorem setTo_len {l : List Int} {k : Nat} (h : k ≤ l.length) : (setTo l k).length = l.length := by unfold setTo; rw [List.length_append, List.length_take, List.length_replicate]; omega
theorem setTo_0 (l : List Int) : setTo l 0 = List.replicate l.length 0 := by simp [setTo]
theorem setTo_end (l : List Int) : setTo l l.length = l := by simp [setTo]
theorem setTo_at {l : List Int} {k : Nat} (h : k < l.length) : (setTo l k)[k]? = some 0 := by
  unfold setTo
  rw [List.getElem?_append_right (by rw [List.length_take]; omega), List.getElem?_replicate, List.length_take, if_pos (by omega)]
theorem setTo_succ {l : List Int} {k : Nat} (h : k < l.length) : setTo l (k + 1) = (setTo l k).set k (l[k]'h) := by
  apply List.ext_getElem?
  intro j
  by_cases e : j = k
  · subst e
    rw [List.getElem?_set_self (by rw [setTo_len (by omega)]; exact h)]
    unfold setTo
    rw [List.getElem?_append_left (by rw [List.length_take]; omega), List.getElem?_take, if_pos (by omega), List.getElem?_eq_getElem h]
  · rw [List.getElem?_set_ne (Ne.symm e)]
    unfold setTo
    by_cases hj : j < k
    · rw [List.getElem?_append_left (by rw [List.length_take]; omega), List.getElem?_append_left (by rw [List.length_take]; omega), List.getElem?_take, List.getElem?_take, if_pos (by omega), if_pos (by omega)]
    · rw [List.getElem?_append_right (by rw [List.length_take]; omega), List.getElem?_append_right (by rw [List.length_take]; omega), List.getElem?_replicate, List.getElem?_replicate, List.length_take, List.length_take]
      by_cases h2 : j < l.length
      · rw [if_pos (by omega), if_pos (by omega)]
      · rw [if_neg (by omega), if_neg (by omega)]
set_option maxHeartbeats 400000 in
theorem toints_ret {v : Value} {l : List Int} (w : World) (h : At w 1 v l.length (l.map (Value.int .i64))) (hm : l.length ≤ 1048576) :
    Calls Try.prog 78 #[v] w fun e w' => ∃ u, e = .returned u ∧ Own w' w.heap.size 1 u l.length (l.map (Value.int .i64)) ∧ Below w.heap.size w w' := by
  obtain ⟨ao, cap, rfl, hc⟩ := h.cell
  go_enter Try.func78, Try.ntmps78
  go_wp2_with (with_reducible refine make_int (o := ⟨some 7, _, _, _, _, _⟩) _ rfl _ _ rfl w.heap.size l.length rfl rfl (by omega) (Nat.le_refl _) ?_)
  intro w1 hown hg
  have hbl : Below w.heap.size w w1 := (Below.refl _ _).grown hg (Nat.le_refl _) (fun k h => by cases h)
  replace hown : Own w1 w.heap.size 1 (.slice (some ⟨w.heap.size, 0, none⟩) l.length l.length) l.length ((setTo l 0).map (Value.int .i64)) := by rw [setTo_0, List.map_replicate]; exact hown
  clear hg
  generalize hBe : w.heap.size = B at *
  have HB := Lib.hid hBe; clear hBe
  go_wp2
  go_loopw [4] (fun i wr => ∃ k : Nat, k ≤ l.length ∧ i = .int .i64 k ∧ Own wr B 1 (.slice (some ⟨B, 0, none⟩) l.length l.length) l.length ((setTo l k).map (Value.int .i64)) ∧ Below B w wr) (fun i _ => l.length - (intOf i).toNat)
  case atStart => exact ⟨0, Nat.zero_le _, rfl, hown, hbl⟩
  case round =>
    obtain ⟨k, hk, rfl, hown, hbl⟩ := hrel
    by_cases hlt : k < l.length
    · obtain ⟨g, off, rfl, hg, hcell⟩ := hc (by omega)
      clear hc
      have c1 : wr.cell? ⟨g, off + k, none⟩ = some (.int .i64 (l[k]'hlt)) := (hbl.cell hg).trans (hcell k hlt)
      have c2 : wr.cell? ⟨B, k, none⟩ = some (.int .i64 0) := by
        rw [hown.cell (by omega), List.getElem?_map, setTo_at hlt]
        rfl
      have hf := hown.free k (by omega)
      have HS := Lib.hid (setTo_succ hlt)
      clear hcell
      go_wp2
      go_roundw
      case rel =>
        refine ⟨k + 1, by omega, by go_num, ?_, ?_⟩
        · rw [HS.out, List.map_set]
          exact (hown.stored k _ (by omega)).1
        · exact hbl.setCell (p := ⟨B, k, none⟩) (Nat.le_refl _) _
      case measure => simp [intOf]; omega
    · go_wp2
      go_ret
      refine ⟨_, rfl, ?_, by rw [HB.out]; exact hbl⟩
      rw [show k = l.length by omega, setTo_end] at hown
      rw [HB.out]
      exact hown
set_option maxHeartbeats 400000 in
theorem eqints_ret {va vb : Value} {l : List Int} (w : World) (ha : At w 1 va l.length (l.map (Value.int .i64))) (hb : At w 1 vb l.length (l.map (Value.int .i64))) (hm : l.length ≤ 1099511627776) :
    Calls Try.prog 79 #[va, vb] w fun e w' => e = .returned (.bool true) ∧ ∃ k, w' = w.drewN k := by
  obtain ⟨ao, cap, rfl, hca⟩ := ha.cell
  obtain ⟨bo, cap2, rfl, hcb⟩ := hb.cell
  go_enter Try.func79, Try.ntmps79
  go_wp2
  go_loopw [5] (fun i wr => ∃ k : Nat, k ≤ l.length ∧ i = .int .i64 k ∧ ∃ d, wr = w.drewN d) (fun i _ => l.length - (intOf i).toNat)
  case atStart => exact ⟨0, Nat.zero_le _, rfl, 0, rfl⟩
  case round =>
    obtain ⟨k, hk, rfl, d, rfl⟩ := hrel
    by_cases hlt : k < l.length
    · obtain ⟨g, off, rfl, hg, hcell⟩ := hca (by omega)
      obtain ⟨g2, off2, rfl, hg2, hcell2⟩ := hcb (by omega)
      clear hca hcb
      have c1 := hcell k hlt
      have c2 := hcell2 k hlt
      clear hcell hcell2
      go_wp2
      go_region
      go_wp2
      go_roundw
      case rel => exact ⟨k + 1, by omega, by go_num, d + 1, rfl⟩
      case measure => simp [intOf]; omega
    · go_wp2
      go_ret
      exact ⟨rfl, d, rfl⟩
theorem grownBy_self (w : World) (row : Option Nat) : w.grownBy w row := ⟨rfl, rfl, rfl, Nat.le_refl _, fun _ _ _ => rfl⟩
/-- the marks: k0, k0 + 1, .. -/
def marks (k0 : Int) (n : Nat) : List Int := (List.range n).map fun (j : Nat) => k0 + (j : Int)
theorem marks_len (k0 : Int) (n : Nat) : (marks k0 n).length = n := by simp [marks]
theorem marks_at (k0 : Int) {n j : Nat} (h : j < (marks k0 n).length) : (marks k0 n)[j]'h = k0 + j := by simp [marks]
def markTo (k0 : Int) (l : List Int) (k : Nat) : List Int := marks k0 k ++ l.drop k
theorem markTo_len {k0 : Int} {l : List Int} {k : Nat} (h : k ≤ l.length) : (markTo k0 l k).length = l.length := by unfold markTo; rw [List.length_append, List.length_drop, marks_len]; omega
theorem markTo_at {k0 : Int} {l : List Int} {k : Nat} (h : k < l.length) : (markTo k0 l k)[k]? = some (l[k]'h) := by
  unfold markTo
  rw [List.getElem?_append_right (by rw [marks_len]; omega), marks_len, List.getElem?_drop, show k + (k - k) = k by omega, List.getElem?_eq_getElem h]
theorem markTo_succ {k0 : Int} {l : List Int} {k : Nat} (h : k < l.length) : markTo k0 l (k + 1) = (markTo k0 l k).set k (k0 + k) := by
  unfold markTo
  rw [List.set_append_right _ _ (by rw [marks_len]; omega), marks_len, Nat.sub_self, List.drop_eq_getElem_cons h, List.set_cons_zero]
  simp [marks, List.range_succ]
theorem markTo_end (k0 : Int) (l : List Int) : markTo k0 l l.length = marks k0 l.length := by simp [markTo]
set_option maxHeartbeats 400000 in
theorem markints_ret {v : Value} {l : List Int} {B : Nat} (k0 : Int) (w : World) (h : Own w B 1 v l.length (l.map (Value.int .i64))) (hm : l.length ≤ 1099511627776) (h0 : 0 ≤ k0) (h1 : k0 ≤ 1000000) :
    Calls Try.prog 80 #[v, .int .i64 k0] w fun e w' => e = .returned (.int .i64 (k0 + l.length)) ∧ Own w' B 1 v (marks k0 l.length).length ((marks k0 l.length).map (Value.int .i64)) ∧ w.grownBy w' v.ownBlock := by
  rcases h.val with ⟨rfl, h0l⟩ | ⟨g, cap, rfl, hbg, hg, hn, hcm, hcl, hfr⟩
  · obtain rfl : l = [] := List.eq_nil_of_length_eq_zero h0l
    go_enter Try.func80, Try.ntmps80
    go_wp2
    go_loop [1, 5] (fun q i => q = .int .i64 k0 ∧ i = .int .i64 0) (fun _ i => 0)
    case atStart => exact ⟨rfl, rfl⟩
    case round =>
      obtain ⟨rfl, rfl⟩ := hrel
      go_wp2
      go_ret
      exact ⟨ret_int (by simp), h, grownBy_self _ _⟩
  · clear hcl hfr
    go_enter Try.func80, Try.ntmps80
    go_wp2
    go_loopw [1, 5] (fun q i wr => ∃ k : Nat, k ≤ l.length ∧ q = .int .i64 (k0 + k) ∧ i = .int .i64 k ∧ Own wr B 1 (.slice (some ⟨g, 0, none⟩) l.length cap) l.length ((markTo k0 l k).map (Value.int .i64)) ∧ w.grownBy wr (some g)) (fun _ i _ => l.length - (intOf i).toNat)
    case atStart => exact ⟨0, Nat.zero_le _, by simp, rfl, by simpa [markTo, marks] using h, grownBy_self _ _⟩
    case round =>
      obtain ⟨k, hk, rfl, rfl, hown, hgr⟩ := hrel
      by_cases hlt : k < l.length
      · have c2 : wr.cell? ⟨g, k, none⟩ = some (.int .i64 (l[k]'hlt)) := by
          rw [hown.cell (by omega), List.getElem?_map, markTo_at hlt]
          rfl
        have hf := hown.free k (by omega)
        have HS := Lib.hid (markTo_succ (k0 := k0) hlt)
        go_wp2
        go_roundw
        case rel =>
          have hst := hown.stored k (.int .i64 (k0 + k)) (by omega)
          refine ⟨k + 1, by omega, by go_num, by go_num, ?_, grownBy_trans hgr hst.2⟩
          rw [HS.out, List.map_set]
          exact hst.1
        case measure => simp [intOf]; omega
      · obtain rfl : k = l.length := by omega
        go_wp2
        go_ret
        rw [markTo_end] at hown
        exact ⟨rfl, by rw [marks_len]; exact hown, hgr⟩
set_option maxHeartbeats 400000 in
theorem heldints_ret {v : Value} {n : Nat} (k0 : Int) (w : World) (h : At w 1 v (marks k0 n).length ((marks k0 n).map (Value.int .i64))) (hm : n ≤ 1099511627776) (h0 : 0 ≤ k0) (h1 : k0 ≤ 1000000) :
    Calls Try.prog 91 #[v, .int .i64 k0] w fun e w' => e = .returned (.int .i64 (k0 + n)) ∧ w = w' := by
  obtain ⟨ao, cap, rfl, hc⟩ := h.cell
  have hml := marks_len k0 n
  rw [hml]
  go_enter Try.func91, Try.ntmps91
  go_wp2
  go_loop [1, 5] (fun q i => ∃ k : Nat, k ≤ n ∧ q = .int .i64 (k0 + k) ∧ i = .int .i64 k) (fun _ i => n - (intOf i).toNat)
  case atStart => exact ⟨0, Nat.zero_le _, by simp, rfl⟩
  case round =>
    obtain ⟨k, hk, rfl, rfl⟩ := hrel
    by_cases hlt : k < n
    · obtain ⟨g, off, rfl, hg, hcell⟩ := hc (by rw [hml]; omega)
      clear hc
      have c1 : w.cell? ⟨g, off + k, none⟩ = some (.int .i64 (k0 + k)) := (hcell k (by rw [marks_len]; exact hlt)).trans (by rw [marks_at])
      clear hcell
      go_wp2
      go_round
      case rel => exact ⟨k + 1, by omega, by go_num, by go_num⟩
      case measure => simp [intOf]; omega
    · obtain rfl : k = n := by omega
      go_wp2
      go_ret
      exact ⟨rfl, rfl⟩
/-- the inputs' test -/
theorem between_any (x a b : Int) (w : World) :
    Calls Try.prog 102 #[.int .i64 x, .int .i64 a, .int .i64 b] w fun e w' => e = .returned (.bool (inB x a b)) ∧ w = w' := by
  by_cases h1 : a ≤ x
  · by_cases h2 : x ≤ b
    · have HI := Lib.hid (inB_yes h1 h2)
      go_enter Try.func102, Try.ntmps102
      go_wp2
      go_ret
      exact ⟨ret_bool (by rw [HI.out]), rfl⟩
    · have HI := Lib.hid (inB_no (x := x) (a := a) (b := b) (by omega))
      go_enter Try.func102, Try.ntmps102
      go_wp2
      go_ret
      exact ⟨ret_bool (by rw [HI.out]), rfl⟩
  · have HI := Lib.hid (inB_no (x := x) (a := a) (b := b) (by omega))
    go_enter Try.func102, Try.ntmps102
    go_wp2
    go_ret
    exact ⟨ret_bool (by rw [HI.out]), rfl⟩
set_option maxHeartbeats 400000 in
theorem inputs_impl {v : Value} {l : List Int} (w : World) (h : At w 1 v l.length (l.map (Value.int .i64))) (hm : l.length ≤ 1099511627776) :
    Calls Try.prog 150 #[v] w fun e w' => e = .returned (.bool (okIn l)) ∧ w = w' := by
  obtain ⟨ao, cap, rfl, hc⟩ := h.cell
  go_enter Try.func150, Try.ntmps150
  go_wp2
  go_loop [7] (fun i => ∃ k : Nat, k ≤ l.length ∧ i = .int .i64 k ∧ ∀ j (hj : j < l.length), j < k → inB (l[j]'hj) 0 15 = true) (fun i => l.length - (intOf i).toNat)
  case atStart => exact ⟨0, Nat.zero_le _, rfl, fun j _ h => by omega⟩
  case round =>
    obtain ⟨k, hk, rfl, hok⟩ := hrel
    by_cases hlt : k < l.length
    · obtain ⟨g, off, rfl, hg, hcell⟩ := hc (by omega)
      clear hc
      have c1 := hcell k hlt
      clear hcell
      cases hb : inB (l[k]'hlt) 0 15 with
      | true =>
        have HO : Hid (∀ j (hj : j < l.length), j < k + 1 → inB (l[j]'hj) 0 15 = true) := Lib.hid fun j hj h' => by
          by_cases e : j = k
          · subst e; exact hb
          · exact hok j hj (by omega)
        clear hok
        go_wp2_with fail
        refine (between_any _ _ _ _).mono ?_
        rintro e w1 ⟨rfl, rfl⟩
        go_wp2
        go_round
        case rel => exact ⟨k + 1, by omega, by go_num, HO.out⟩
        case measure => simp [intOf]; omega
      | false =>
        have HN := Lib.hid (okIn_no hb)
        clear hok
        go_wp2_with fail
        refine (between_any _ _ _ _).mono ?_
        rintro e w1 ⟨rfl, rfl⟩
        go_wp2
        go_ret
        exact ⟨ret_bool (by rw [HN.out]), rfl⟩
    · have HN := Lib.hid (okIn_yes (l := l) fun j hj => hok j hj (by omega))
      clear hok
      go_wp2
      go_ret
      exact ⟨ret_bool (by rw [HN.out]), rfl⟩
end Go.Proofs.Ytkcknikaidbeoaa
