/- A level as an argument: one slice of strings; its copy, its measure, its comparison. -/
import Derived.Test.YtkcknikaidbeoaaStr
import Derived.Handy
import Derived.ChangeSame
import Derived.SliceStrings
namespace Go.Proofs.Ytkcknikaidbeoaa
open Go.RowKit Go.ChangeShapes Go.WideShapes

def ArgStr (w : World) (v : Value) : Prop := ∃ l : List ByteArray, At w 1 v l.length (l.map Value.string) ∧ ∀ s ∈ l, s.size ≤ maxLen
theorem open_strS {P : Program} {t e : TypeId} {H : Type} {enc : TypeId × Value → H} {W : World} {b0 : Nat} {a : Option Addr} {len cap : Nat} {d : DataW H} {ps : List MemPlace}
    (ht : P.underlying t = some (.slice e)) (he : P.underlying e = some .string) (hc : P.cellsOf e = 1) (hd : DataW.Trod enc P W b0 (fun _ => true) true t (.slice a len cap) d ps) : ArgStr W (.slice a len cap) := by
  obtain ⟨fuel, hf⟩ := hd
  rcases open_strings ht he hc hf with ⟨h1, _⟩ | ⟨a', len', cap', zs, h1, _, hlc, hcm, hzl, _, hcell, hwf⟩
  · simp [Value.cells] at h1
    obtain ⟨rfl, rfl, rfl⟩ := h1
    exact ⟨[], ⟨rfl, none, 0, rfl, Nat.le_refl _, Nat.zero_le _, fun h => absurd h (Nat.lt_irrefl _)⟩, fun n h => by simp at h⟩
  · simp [Value.cells] at h1
    obtain ⟨rfl, rfl, rfl⟩ := h1
    simp only [if_true] at hzl
    have hl : (zs.take len).length = len := by rw [List.length_take]; omega
    refine ⟨zs.take len, ⟨by rw [List.length_map, Nat.mul_one], some a', cap, by rw [hl], by omega, hcm, fun h0 => ?_⟩, fun n hn => hwf n (List.mem_of_mem_take hn)⟩
    have c0 := hcell 0 (by omega)
    have hspot : a'.spot = none := World.cell?_spot (a := a') (by simpa [Addr.add] using c0)
    obtain ⟨g, off, spot⟩ := a'
    simp only at hspot
    subst hspot
    refine ⟨g, off, rfl, World.block_lt_of_cell? W ⟨g, off, none⟩ (u := Value.string (zs.getD 0 ByteArray.empty)) (by simpa [Addr.add] using c0), fun j hj => ?_⟩
    have hj' : j < len := by rw [hl] at hj; omega
    have cj := hcell j (by omega)
    have ea : (⟨g, off, none⟩ : Addr).add j = ⟨g, off + j, none⟩ := by unfold Addr.add; split <;> simp_all
    rw [ea] at cj
    rw [cj, List.getElem?_map, List.getElem?_take, if_pos hj', List.getElem?_eq_getElem (by omega)]
    simp [List.getD, List.getElem?_eq_getElem (show j < zs.length by omega)]
def Arg_level (w : World) (v : Value) : Prop := ∃ u, v = .agg #[u] ∧ ArgStr w u
theorem cell_slice {P : Program} {w : World} {r : Reach} {base : Nat} {t e : TypeId} {v : Value} (ht : P.underlying t = some (.slice e)) (h : Cell.okWide P w r base t v) : ∃ a len cap, v = .slice a len cap := by
  simp only [ht, Cell.okWide] at h
  cases v <;> simp_all [Cell.ok]
set_option maxRecDepth 100000 in
theorem open_level {H : Type} {enc : TypeId × Value → H} {w W : World} {r : Reach} {base b0 : Nat} {v : Value} {d : DataW H} {ps : List MemPlace} (hval : Value.okWide Try.prog w r base 24 v) (hd : DataW.Trod enc Try.prog W b0 (fun _ => true) true 24 v d ps) : Arg_level W v := by
  have hu : ∃ fs, Try.prog.underlying 24 = some (.struct fs) := ⟨_, Try.underlying24⟩
  obtain ⟨fs, hu⟩ := hu
  simp only [Value.okWide, hu] at hval
  obtain ⟨cs, rfl, hsz, ts, hts, _, hc⟩ := hval
  have e1 : Try.prog.cellTypes Try.prog.depth 24 = some [22] := by kernel_rfl
  have e2 : Try.prog.cellsOf 24 = 1 := by kernel_rfl
  have e3 : Try.prog.cellsOf 22 = 1 := by kernel_rfl
  rw [e1] at hts
  obtain rfl := Option.some.inj hts
  rw [e2] at hsz
  clear e1 hu
  have hi : cs[0]? = some (cs[0]'(by omega)) := Array.getElem?_eq_getElem (by omega)
  obtain ⟨u, hu', hok⟩ := hc 0 _ hi
  obtain rfl : 22 = u := by simpa using hu'
  obtain ⟨a, len, cap, hs⟩ := cell_slice Try.underlying22 hok
  have hcs : cs = #[.slice a len cap] := by
    apply Array.ext_getElem?
    intro i
    match i with
    | 0 => rw [hi, hs]; rfl
    | i + 1 => rw [Array.getElem?_eq_none (by omega), Array.getElem?_eq_none (by simp)]
  subst hcs
  refine ⟨_, rfl, ?_⟩
  obtain ⟨fuel, hf⟩ := hd
  obtain ⟨y0, n, _, _, h0⟩ := trod_struct1 Try.underlying24 hf
  simp only [e3] at h0
  exact open_strS Try.underlying22 Try.underlying9 (by kernel_rfl) ⟨n, h0⟩

theorem Own.slice_ {w : World} {base sz : Nat} {v : Value} {n : Nat} {cs : List Value} (h : Own w base sz v n cs) : ∃ ao cap, v = .slice ao n cap := by
  rcases h.val with ⟨rfl, rfl⟩ | ⟨g, cap, rfl, _⟩
  · exact ⟨_, _, rfl⟩
  · exact ⟨_, _, rfl⟩
section
variable {ops : Array Oper} {rest : List Oper} {o : Oper} {a : Act} {Q : Exit → Act → World → Prop}
/-- 'make([]string, n)' -/
theorem make_str (w : World) (hgd : o.guard = none) (l c : Operand) (ho : o.op = Op.makeSlice 22 l c) (base n : Nat) (hl : a.eval l = .int .i64 (n : Int)) (hc : a.eval c = .int .i64 (n : Int)) (hn : n ≤ 1099511627776) (hbase : base ≤ w.heap.size)
    (hK : ∀ w', Own w' base 1 (.slice (some ⟨w.heap.size, 0, none⟩) n n) n ((List.replicate n (⟨#[]⟩ : ByteArray)).map Value.string) → w.grownBy w' none → wpList Try.prog ops Q rest (a.put o.dst (.slice (some ⟨w.heap.size, 0, none⟩) n n)) w') :
    wpList Try.prog ops Q (o :: rest) a w := by
  obtain ⟨i0, hi, hz0, hz1, hz2⟩ := info_parts info_str
  exact wpList_make_row (P := Try.prog) w hgd l c 22 ho 9 i0 (.string ⟨#[]⟩) Try.underlying22 hi hz0 hz1 rfl .i64 .i64 n hl hc (by rw [hz2]; omega) (by omega)
    (hK _ (Own.lit 9 ((toList_madeCells_one _ n).trans (by rw [List.map_replicate])) (by simp) hbase (by unfold maxLen; omega)) (World.grownBy_alloc w _ _))
end
def setS (l : List ByteArray) (k : Nat) : List ByteArray := l.take k ++ List.replicate (l.length - k) ⟨#[]⟩
theorem setS_len {l : List ByteArray} {k : Nat} (h : k ≤ l.length) : (setS l k).length = l.length := by unfold setS; rw [List.length_append, List.length_take, List.length_replicate]; omega
theorem setS_0 (l : List ByteArray) : setS l 0 = List.replicate l.length ⟨#[]⟩ := by simp [setS]
theorem setS_end (l : List ByteArray) : setS l l.length = l := by simp [setS]
theorem setS_at {l : List ByteArray} {k : Nat} (h : k < l.length) : (setS l k)[k]? = some ⟨#[]⟩ := by
  unfold setS
  rw [List.getElem?_append_right (by rw [List.length_take]; omega), List.getElem?_replicate, List.length_take, if_pos (by omega)]
theorem setS_succ {l : List ByteArray} {k : Nat} (h : k < l.length) : setS l (k + 1) = (setS l k).set k (l[k]'h) := by
  apply List.ext_getElem?
  intro j
  by_cases e : j = k
  · subst e
    rw [List.getElem?_set_self (by rw [setS_len (by omega)]; exact h)]
    unfold setS
    rw [List.getElem?_append_left (by rw [List.length_take]; omega), List.getElem?_take, if_pos (by omega), List.getElem?_eq_getElem h]
  · rw [List.getElem?_set_ne (Ne.symm e)]
    unfold setS
    by_cases hj : j < k
    · rw [List.getElem?_append_left (by rw [List.length_take]; omega), List.getElem?_append_left (by rw [List.length_take]; omega), List.getElem?_take, List.getElem?_take, if_pos (by omega), if_pos (by omega)]
    · rw [List.getElem?_append_right (by rw [List.length_take]; omega), List.getElem?_append_right (by rw [List.length_take]; omega), List.getElem?_replicate, List.getElem?_replicate, List.length_take, List.length_take]
      by_cases h2 : j < l.length
      · rw [if_pos (by omega), if_pos (by omega)]
      · rw [if_neg (by omega), if_neg (by omega)]
set_option maxHeartbeats 400000 in
theorem tostrs_ret {v : Value} {l : List ByteArray} (w : World) (h : At w 1 v l.length (l.map (Value.string))) (hm : l.length ≤ 1048576) :
    Calls Try.prog 85 #[v] w fun e w' => ∃ u, e = .returned u ∧ Own w' w.heap.size 1 u l.length (l.map (Value.string)) ∧ Below w.heap.size w w' := by
  obtain ⟨ao, cap, rfl, hc⟩ := h.cellS
  go_enter Try.func85, Try.ntmps85
  go_wp2_with (with_reducible refine make_str (o := ⟨some 7, _, _, _, _, _⟩) _ rfl _ _ rfl w.heap.size l.length rfl rfl (by omega) (Nat.le_refl _) ?_)
  intro w1 hown hg
  have hbl : Below w.heap.size w w1 := (Below.refl _ _).grown hg (Nat.le_refl _) (fun k h => by cases h)
  replace hown : Own w1 w.heap.size 1 (.slice (some ⟨w.heap.size, 0, none⟩) l.length l.length) l.length ((setS l 0).map (Value.string)) := by rw [setS_0, List.map_replicate]; exact hown
  clear hg
  generalize hBe : w.heap.size = B at *
  have HB := Lib.hid hBe; clear hBe
  go_wp2
  go_loopw [4] (fun i wr => ∃ k : Nat, k ≤ l.length ∧ i = .int .i64 k ∧ Own wr B 1 (.slice (some ⟨B, 0, none⟩) l.length l.length) l.length ((setS l k).map (Value.string)) ∧ Below B w wr) (fun i _ => l.length - (intOf i).toNat)
  case atStart => exact ⟨0, Nat.zero_le _, rfl, hown, hbl⟩
  case round =>
    obtain ⟨k, hk, rfl, hown, hbl⟩ := hrel
    by_cases hlt : k < l.length
    · obtain ⟨g, off, rfl, hg, hcell⟩ := hc (by omega)
      clear hc
      have c1 : wr.cell? ⟨g, off + k, none⟩ = some (.string (l[k]'hlt)) := (hbl.cell hg).trans (hcell k hlt)
      have c2 : wr.cell? ⟨B, k, none⟩ = some (.string ⟨#[]⟩) := by
        rw [hown.cell (by omega), List.getElem?_map, setS_at hlt]
        rfl
      have hf := hown.free k (by omega)
      have HS := Lib.hid (setS_succ hlt)
      clear hcell
      go_wp2
      go_roundw
      case rel =>
        refine ⟨k + 1, by omega, by go_num, ?_, ?_⟩
        · rw [HS.out, List.map_set]
          exact (hown.stored k _ (by omega)).1
        · exact hbl.setCell (p := ⟨B, k, none⟩) (Nat.le_refl _) _
      case measure => simp [intOf]; omega
    · go_wp2
      go_ret
      refine ⟨_, rfl, ?_, by rw [HB.out]; exact hbl⟩
      rw [show k = l.length by omega, setS_end] at hown
      rw [HB.out]
      exact hown
set_option maxHeartbeats 400000 in
theorem tolevel_ret {u : Value} {l : List ByteArray} (w : World) (h : At w 1 u l.length (l.map (Value.string))) (hm : l.length ≤ 1048576) :
    Calls Try.prog 26 #[.agg #[u]] w fun e w' => ∃ x, e = .returned (.agg #[x]) ∧ Own w' w.heap.size 1 x l.length (l.map (Value.string)) ∧ Below w.heap.size w w' := by
  have h' := h
  obtain ⟨ao, cap, rfl, hc⟩ := h.cellS
  clear hc h
  go_enter Try.func26, Try.ntmps26
  go_wp2_with fail
  generalize hw3 : ((w.alloc _).alloc _).alloc _ = w3
  have hb3 : Below w.heap.size w w3 := by
    rw [← hw3]
    exact (((Below.refl _ _).alloc (Nat.le_refl _) _).alloc (by simp) _).alloc (by simp; omega) _
  have s3 : w3.heap.size = w.heap.size + 3 := by rw [← hw3]; simp
  have c3 : w3.cell? ⟨w.heap.size + 2, 0, none⟩ = some (.slice none 0 0) := by
    rw [← hw3]
    simp [World.cell?_alloc_at]
  have c2 : w3.cell? ⟨w.heap.size + 1, 0, none⟩ = some (.slice none 0 0) := by
    rw [← hw3]
    simp [World.cell?_alloc_at, World.cell?_alloc_past]
  have f3 : w3.frozen? ⟨w.heap.size + 2, 0, none⟩ = false := by
    rw [← hw3]
    simp [World.frozen?_alloc_at]
  have f2 : w3.frozen? ⟨w.heap.size + 1, 0, none⟩ = false := by
    rw [← hw3]
    simp [World.frozen?_alloc_at, World.frozen?_alloc_past]
  have HW := Lib.hid hw3; clear hw3
  refine (tostrs_ret _ (h'.below hb3) hm).mono ?_
  rintro e wa ⟨x, rfl, hx, ha⟩
  obtain ⟨xo, xc, rfl⟩ := hx.slice_
  have d3 : wa.cell? ⟨w.heap.size + 2, 0, none⟩ = some (.slice none 0 0) := (ha.cell (by show w.heap.size + 2 < _; omega)).trans c3
  have d2 : wa.cell? ⟨w.heap.size + 1, 0, none⟩ = some (.slice none 0 0) := (ha.cell (by show w.heap.size + 1 < _; omega)).trans c2
  have g3 : wa.frozen? ⟨w.heap.size + 2, 0, none⟩ = false := (ha.frozen (by show w.heap.size + 2 < _; omega)).trans f3
  have g2 : wa.frozen? ⟨w.heap.size + 1, 0, none⟩ = false := (ha.frozen (by show w.heap.size + 1 < _; omega)).trans f2
  obtain ⟨wn, hwn⟩ : ∃ wn, wn = (wa.setCell ⟨w.heap.size + 1 + 1, 0, none⟩ (.slice xo l.length xc)).setCell ⟨w.heap.size + 1, 0, none⟩ (.slice xo l.length xc) := ⟨_, rfl⟩
  have r1 : wn.cell? ⟨w.heap.size + 1, 0, none⟩ = some (.slice xo l.length xc) := by
    rw [hwn]
    refine World.cell?_setCell_same' _ _ _ ?_
    rw [World.cell?_setCell_other (h := by intro e; simp only [Addr.mk.injEq, and_true] at e; omega), d2]
    rfl
  have hba : Below w.heap.size w wa := hb3.trans (ha.mono hb3.size)
  have hsa := ha.size
  have hbn : Below w.heap.size wa wn := by
    rw [hwn]
    exact ((Below.refl _ _).setCell (by show w.heap.size ≤ w.heap.size + 1 + 1; omega) _).setCell (by show w.heap.size ≤ w.heap.size + 1; omega) _
  have hxn : Own wn w.heap.size 1 (.slice xo l.length xc) l.length (l.map (Value.string)) := by
    refine (hx.carry (w' := wn) (by rw [hwn]; simp) (fun g hg _ => ?_)).mono (by omega)
    have h3 := (hx.ge g hg).1
    rw [hwn, Below.heap_setCell _ _ _ _ (by show g ≠ w.heap.size + 1; omega), Below.heap_setCell _ _ _ _ (by show g ≠ w.heap.size + 1 + 1; omega)]
  have HWN := Lib.hid hwn; clear hwn
  go_wp2_with fail
  rw [← HWN.out]
  (try simp only [Exit.inBlock, Exit.then])
  refine bodyPost_ret (by simp [results, Try.results26, go_sem, r1]; try rfl) rfl ?_
  exact ⟨_, rfl, hxn, hba.trans hbn⟩
/-- what szStringS leaves of a measure -/
def szGo : List ByteArray → Int → Int
  | [], n => n
  | s :: r, n => if n - (s.size : Int) < 0 then -1 else szGo r (n - s.size)
def szS (l : List ByteArray) (n : Int) : Int := if n - (l.length : Int) < 0 then -1 else szGo l (n - l.length)
theorem szGo_bd : ∀ (l : List ByteArray) (n : Int), 0 ≤ n → szGo l n = -1 ∨ (0 ≤ szGo l n ∧ szGo l n ≤ n ∧ ∀ s ∈ l, (s.size : Int) ≤ n)
  | [], n, h => .inr ⟨h, Int.le_refl _, fun s hs => by simp at hs⟩
  | s :: r, n, h => by
    simp only [szGo]
    by_cases h1 : n - (s.size : Int) < 0
    · rw [if_pos h1]; exact .inl rfl
    · rw [if_neg h1]
      rcases szGo_bd r (n - s.size) (by omega) with h2 | ⟨h2, h3, h4⟩
      · exact .inl h2
      · refine .inr ⟨h2, by omega, fun x hx => ?_⟩
        rcases List.mem_cons.1 hx with rfl | hx
        · omega
        · have := h4 x hx; omega
theorem szS_bd (l : List ByteArray) (n : Int) (_h : 0 ≤ n) : szS l n = -1 ∨ (0 ≤ szS l n ∧ szS l n ≤ n ∧ (l.length : Int) ≤ n ∧ ∀ s ∈ l, (s.size : Int) ≤ n) := by
  unfold szS
  by_cases h1 : n - (l.length : Int) < 0
  · rw [if_pos h1]; exact .inl rfl
  · rw [if_neg h1]
    rcases szGo_bd l (n - l.length) (by omega) with h2 | ⟨h2, h3, h4⟩
    · exact .inl h2
    · exact .inr ⟨h2, by omega, by omega, fun s hs => by have := h4 s hs; omega⟩
theorem szGo_no {l : List ByteArray} {k : Nat} {n : Int} (h : k < l.length) (h1 : n - ((l[k]'h).size : Int) < 0) : szGo (l.drop k) n = -1 := by
  rw [List.drop_eq_getElem_cons h]; simp only [szGo]; rw [if_pos h1]
theorem szGo_more {l : List ByteArray} {k : Nat} {n : Int} (h : k < l.length) (h1 : ¬ n - ((l[k]'h).size : Int) < 0) : szGo (l.drop k) n = szGo (l.drop (k + 1)) (n - (l[k]'h).size) := by
  rw [List.drop_eq_getElem_cons h]; simp only [szGo]; rw [if_neg h1]
set_option maxHeartbeats 400000 in
theorem szstrs_ret {u : Value} {l : List ByteArray} (left : Int) (w : World) (h : At w 1 u l.length (l.map Value.string)) (hm : l.length ≤ 9223372036854775807) (hz : ∀ s ∈ l, s.size ≤ 9223372036854775807) (h0 : 0 ≤ left) (h1 : left ≤ 1048576) :
    Calls Try.prog 83 #[u, .int .i64 left] w fun e w' => e = .returned (.int .i64 (szS l left)) ∧ w = w' := by
  obtain ⟨ao, cap, rfl, hc⟩ := h.cellS
  by_cases hl : left - (l.length : Int) < 0
  · have HE : Hid (szS l left = -1) := Lib.hid (if_pos hl)
    clear hc
    go_enter Try.func83, Try.ntmps83
    go_wp2
    go_ret
    exact ⟨ret_int (by rw [HE.out]), rfl⟩
  · have HE : Hid (szS l left = szGo (l.drop 0) (left - l.length)) := Lib.hid (if_neg hl)
    go_enter Try.func83, Try.ntmps83
    go_wp2
    go_loop [1, 5] (fun q i => ∃ (k : Nat) (m : Int), k ≤ l.length ∧ i = .int .i64 k ∧ q = .int .i64 m ∧ 0 ≤ m ∧ m ≤ 1048576 ∧ Hid (szS l left = szGo (l.drop k) m)) (fun _ i => l.length - (intOf i).toNat)
    case atStart => exact ⟨0, _, Nat.zero_le _, rfl, rfl, by omega, by omega, HE⟩
    case round =>
      obtain ⟨k, m, hk, rfl, rfl, hm0, hm1, HR⟩ := hrel
      clear HE
      by_cases hlt : k < l.length
      · obtain ⟨g, off, rfl, hg, hcell⟩ := hc (by omega)
        have c1 := hcell k hlt
        have hsz := hz _ (List.getElem_mem hlt)
        clear hc hcell
        by_cases h2 : m - ((l[k]'hlt).size : Int) < 0
        · have HN := Lib.hid (HR.out.trans (szGo_no hlt h2))
          go_wp2_with fail
          go_ret
          exact ⟨ret_int (by rw [HN.out]), rfl⟩
        · have HN := Lib.hid (HR.out.trans (szGo_more hlt h2))
          go_wp2_with fail
          go_round
          case rel => exact ⟨k + 1, m - (l[k]'hlt).size, by omega, by go_num, by go_num, by omega, by omega, HN⟩
          case measure => simp [intOf]; omega
      · have HN : Hid (szS l left = m) := Lib.hid (HR.out.trans (by rw [List.drop_of_length_le (by omega)]; rfl))
        clear hc
        go_wp2_with fail
        go_ret
        exact ⟨ret_int (by rw [HN.out]), rfl⟩
theorem szlevel_ret {u : Value} {l : List ByteArray} (left : Int) (w : World) (h : At w 1 u l.length (l.map Value.string)) (hm : l.length ≤ 9223372036854775807) (hz : ∀ s ∈ l, s.size ≤ 9223372036854775807) (h0 : 0 ≤ left) (h1 : left ≤ 1048576) :
    Calls Try.prog 24 #[.agg #[u], .int .i64 left] w fun e w' => e = .returned (.int .i64 (szS l left)) ∧ Below w.heap.size w w' := by
  have h' := h
  obtain ⟨ao, cap, rfl, hc⟩ := h.cellS
  clear hc h
  have HS := fun wx hx => szstrs_ret (u := .slice ao l.length cap) (l := l) left wx hx hm hz h0 h1
  rcases szS_bd l left h0 with hn | ⟨hn, hn1, _⟩
  all_goals
    generalize szS l left = Z at *
    (try subst hn)
    go_enter Try.func24, Try.ntmps24
    go_wp2_with fail
    refine (HS _ (h'.below ((Below.refl _ _).alloc (Nat.le_refl _) _))).mono ?_
    rintro e w1 ⟨rfl, rfl⟩
    go_wp2_with fail
    go_ret
    exact ⟨rfl, (Below.refl _ _).alloc (Nat.le_refl _) _⟩
theorem eqlevel_ret {u v : Value} {l : List ByteArray} (w : World) (hu : At w 1 u l.length (l.map (Value.string))) (hv : At w 1 v l.length (l.map (Value.string))) (hm : l.length ≤ 1099511627776) :
    Calls Try.prog 28 #[.agg #[u], .agg #[v]] w fun e w' => e = .returned (.bool true) ∧ Below w.heap.size w w' := by
  have hu' := hu
  have hv' := hv
  obtain ⟨ao, cap, rfl, hc⟩ := hu.cellS
  obtain ⟨bo, cap2, rfl, hc2⟩ := hv.cellS
  clear hc hc2 hu hv
  have hb : ∀ (A B : Obj), Below w.heap.size w ((w.alloc A).alloc B) := fun A B => ((Below.refl _ _).alloc (Nat.le_refl _) _).alloc (by simp) _
  go_enter Try.func28, Try.ntmps28
  go_wp2_with fail
  refine (eqstrs_ret _ (hu'.below (hb _ _)) (hv'.below (hb _ _)) hm).mono ?_
  rintro e w1 ⟨rfl, k, rfl⟩
  go_wp2_with fail
  go_ret
  exact ⟨rfl, below_drewN (hb _ _) k⟩
end Go.Proofs.Ytkcknikaidbeoaa
