/- A track as an argument: one slice of whole numbers; its copy, its comparison. -/
import Derived.Test.YtmnddbgblhmlbaaScr
import Derived.Handy
import Derived.ChangeSame
namespace Go.Proofs.Ytmnddbgblhmlbaa
open Go.RowKit Go.ChangeShapes Go.WideShapes

theorem open_numS {P : Program} {t e : TypeId} {k : IntKind} {H : Type} {enc : TypeId × Value → H} {W : World} {b0 : Nat} {a : Option Addr} {len cap : Nat} {d : DataW H} {ps : List MemPlace}
    (ht : P.underlying t = some (.slice e)) (he : P.underlying e = some (.int k)) (hc : P.cellsOf e = 1) (hd : DataW.Trod enc P W b0 (fun _ => true) true t (.slice a len cap) d ps) : ArgNum k W (.slice a len cap) := by
  obtain ⟨fuel, hf⟩ := hd
  rcases Go.ChangeShapes.open_ints ht he hc hf with ⟨h1, _⟩ | ⟨a', len', cap', zs, h1, _, hlc, hcm, hzl, _, hcell, hwf⟩
  · simp [Value.cells] at h1
    obtain ⟨rfl, rfl, rfl⟩ := h1
    exact ⟨[], ⟨rfl, none, 0, rfl, Nat.le_refl _, Nat.zero_le _, fun h => absurd h (Nat.lt_irrefl _)⟩, fun n h => by simp at h⟩
  · simp [Value.cells] at h1
    obtain ⟨rfl, rfl, rfl⟩ := h1
    simp only [if_true] at hzl
    have hl : (zs.take len).length = len := by rw [List.length_take]; omega
    refine ⟨zs.take len, ⟨by rw [List.length_map, Nat.mul_one], some a', cap, by rw [hl], by omega, hcm, fun h0 => ?_⟩, fun n hn => hwf n (List.mem_of_mem_take hn)⟩
    have c0 := hcell 0 (by omega)
    have hspot : a'.spot = none := World.cell?_spot (a := a') (by simpa [Addr.add] using c0)
    obtain ⟨g, off, spot⟩ := a'
    simp only at hspot
    subst hspot
    refine ⟨g, off, rfl, World.block_lt_of_cell? W ⟨g, off, none⟩ (u := Value.int k (zs.getD 0 0)) (by simpa [Addr.add] using c0), fun j hj => ?_⟩
    have hj' : j < len := by rw [hl] at hj; omega
    have cj := hcell j (by omega)
    have ea : (⟨g, off, none⟩ : Addr).add j = ⟨g, off + j, none⟩ := by unfold Addr.add; split <;> simp_all
    rw [ea] at cj
    rw [cj, List.getElem?_map, List.getElem?_take, if_pos hj', List.getElem?_eq_getElem (by omega)]
    simp [List.getD, List.getElem?_eq_getElem (show j < zs.length by omega)]
def Arg_track (w : World) (v : Value) : Prop := ∃ u, v = .agg #[u] ∧ ArgNum .i64 w u
theorem cell_slice {P : Program} {w : World} {r : Reach} {base : Nat} {t e : TypeId} {v : Value} (ht : P.underlying t = some (.slice e)) (h : Cell.okWide P w r base t v) : ∃ a len cap, v = .slice a len cap := by
  simp only [ht, Cell.okWide] at h
  cases v <;> simp_all [Cell.ok]
set_option maxRecDepth 100000 in
theorem open_track {H : Type} {enc : TypeId × Value → H} {w W : World} {r : Reach} {base b0 : Nat} {v : Value} {d : DataW H} {ps : List MemPlace} (hval : Value.okWide Try.prog w r base 33 v) (hd : DataW.Trod enc Try.prog W b0 (fun _ => true) true 33 v d ps) : Arg_track W v := by
  have hu : ∃ fs, Try.prog.underlying 33 = some (.struct fs) := ⟨_, Try.underlying33⟩
  obtain ⟨fs, hu⟩ := hu
  simp only [Value.okWide, hu] at hval
  obtain ⟨cs, rfl, hsz, ts, hts, _, hc⟩ := hval
  have e1 : Try.prog.cellTypes Try.prog.depth 33 = some [27] := by kernel_rfl
  have e2 : Try.prog.cellsOf 33 = 1 := by kernel_rfl
  have e3 : Try.prog.cellsOf 27 = 1 := by kernel_rfl
  rw [e1] at hts
  obtain rfl := Option.some.inj hts
  rw [e2] at hsz
  clear e1 hu
  have hi : cs[0]? = some (cs[0]'(by omega)) := Array.getElem?_eq_getElem (by omega)
  obtain ⟨u, hu', hok⟩ := hc 0 _ hi
  obtain rfl : 27 = u := by simpa using hu'
  obtain ⟨a, len, cap, hs⟩ := cell_slice Try.underlying27 hok
  have hcs : cs = #[.slice a len cap] := by
    apply Array.ext_getElem?
    intro i
    match i with
    | 0 => rw [hi, hs]; rfl
    | i + 1 => rw [Array.getElem?_eq_none (by omega), Array.getElem?_eq_none (by simp)]
  subst hcs
  refine ⟨_, rfl, ?_⟩
  obtain ⟨fuel, hf⟩ := hd
  obtain ⟨y0, n, _, _, h0⟩ := trod_struct1 Try.underlying33 hf
  simp only [e3] at h0
  exact open_numS Try.underlying27 Try.underlying3 (by kernel_rfl) ⟨n, h0⟩

theorem Own.slice_ {w : World} {base sz : Nat} {v : Value} {n : Nat} {cs : List Value} (h : Own w base sz v n cs) : ∃ ao cap, v = .slice ao n cap := by
  rcases h.val with ⟨rfl, rfl⟩ | ⟨g, cap, rfl, _⟩
  · exact ⟨_, _, rfl⟩
  · exact ⟨_, _, rfl⟩
set_option maxHeartbeats 400000 in
theorem totrack_ret {u : Value} {l : List Int} (w : World) (h : At w 1 u l.length (l.map (Value.int .i64))) (hm : l.length ≤ 1048576) :
    Calls Try.prog 25 #[.agg #[u]] w fun e w' => ∃ x, e = .returned (.agg #[x]) ∧ Own w' w.heap.size 1 x l.length (l.map (Value.int .i64)) ∧ Below w.heap.size w w' := by
  have h' := h
  obtain ⟨ao, cap, rfl, hc⟩ := h.cell
  clear hc h
  go_enter Try.func25, Try.ntmps25
  go_wp2_with fail
  generalize hw3 : ((w.alloc _).alloc _).alloc _ = w3
  have hb3 : Below w.heap.size w w3 := by
    rw [← hw3]
    exact (((Below.refl _ _).alloc (Nat.le_refl _) _).alloc (by simp) _).alloc (by simp; omega) _
  have s3 : w3.heap.size = w.heap.size + 3 := by rw [← hw3]; simp
  have c3 : w3.cell? ⟨w.heap.size + 2, 0, none⟩ = some (.slice none 0 0) := by
    rw [← hw3]
    simp [World.cell?_alloc_at]
  have c2 : w3.cell? ⟨w.heap.size + 1, 0, none⟩ = some (.slice none 0 0) := by
    rw [← hw3]
    simp [World.cell?_alloc_at, World.cell?_alloc_past]
  have f3 : w3.frozen? ⟨w.heap.size + 2, 0, none⟩ = false := by
    rw [← hw3]
    simp [World.frozen?_alloc_at]
  have f2 : w3.frozen? ⟨w.heap.size + 1, 0, none⟩ = false := by
    rw [← hw3]
    simp [World.frozen?_alloc_at, World.frozen?_alloc_past]
  have HW := Lib.hid hw3; clear hw3
  refine (toints_ret _ (h'.below hb3) hm).mono ?_
  rintro e wa ⟨x, rfl, hx, ha⟩
  obtain ⟨xo, xc, rfl⟩ := hx.slice_
  have d3 : wa.cell? ⟨w.heap.size + 2, 0, none⟩ = some (.slice none 0 0) := (ha.cell (by show w.heap.size + 2 < _; omega)).trans c3
  have d2 : wa.cell? ⟨w.heap.size + 1, 0, none⟩ = some (.slice none 0 0) := (ha.cell (by show w.heap.size + 1 < _; omega)).trans c2
  have g3 : wa.frozen? ⟨w.heap.size + 2, 0, none⟩ = false := (ha.frozen (by show w.heap.size + 2 < _; omega)).trans f3
  have g2 : wa.frozen? ⟨w.heap.size + 1, 0, none⟩ = false := (ha.frozen (by show w.heap.size + 1 < _; omega)).trans f2
  obtain ⟨wn, hwn⟩ : ∃ wn, wn = (wa.setCell ⟨w.heap.size + 1 + 1, 0, none⟩ (.slice xo l.length xc)).setCell ⟨w.heap.size + 1, 0, none⟩ (.slice xo l.length xc) := ⟨_, rfl⟩
  have r1 : wn.cell? ⟨w.heap.size + 1, 0, none⟩ = some (.slice xo l.length xc) := by
    rw [hwn]
    refine World.cell?_setCell_same' _ _ _ ?_
    rw [World.cell?_setCell_other (h := by intro e; simp only [Addr.mk.injEq, and_true] at e; omega), d2]
    rfl
  have hba : Below w.heap.size w wa := hb3.trans (ha.mono hb3.size)
  have hsa := ha.size
  have hbn : Below w.heap.size wa wn := by
    rw [hwn]
    exact ((Below.refl _ _).setCell (by show w.heap.size ≤ w.heap.size + 1 + 1; omega) _).setCell (by show w.heap.size ≤ w.heap.size + 1; omega) _
  have hxn : Own wn w.heap.size 1 (.slice xo l.length xc) l.length (l.map (Value.int .i64)) := by
    refine (hx.carry (w' := wn) (by rw [hwn]; simp) (fun g hg _ => ?_)).mono (by omega)
    have h3 := (hx.ge g hg).1
    rw [hwn, Below.heap_setCell _ _ _ _ (by show g ≠ w.heap.size + 1; omega), Below.heap_setCell _ _ _ _ (by show g ≠ w.heap.size + 1 + 1; omega)]
  have HWN := Lib.hid hwn; clear hwn
  go_wp2_with fail
  rw [← HWN.out]
  (try simp only [Exit.inBlock, Exit.then])
  refine bodyPost_ret (by simp [results, Try.results25, go_sem, r1]; try rfl) rfl ?_
  exact ⟨_, rfl, hxn, hba.trans hbn⟩
def szR (n : Nat) (left : Int) : Int := if (n : Int) ≤ left then left - n else -1
theorem szR_yes {n : Nat} {left : Int} (h : (n : Int) ≤ left) : szR n left = left - n := if_pos h
theorem szR_no {n : Nat} {left : Int} (h : ¬ (n : Int) ≤ left) : szR n left = -1 := if_neg h
theorem szints_ret {u : Value} {l : List Int} (left : Int) (w : World) (h : At w 1 u l.length (l.map (Value.int .i64))) (hm : l.length ≤ 9223372036854775807) (h0 : 0 ≤ left) (h1 : left ≤ 1048576) :
    Calls Try.prog 70 #[u, .int .i64 left] w fun e w' => e = .returned (.int .i64 (szR l.length left)) ∧ w = w' := by
  obtain ⟨ao, cap, rfl, hc⟩ := h.cell
  clear hc
  by_cases hl : (l.length : Int) ≤ left
  · have HE := Lib.hid (szR_yes hl)
    go_enter Try.func70, Try.ntmps70
    go_wp2
    go_ret
    exact ⟨ret_int (by rw [HE.out]), rfl⟩
  · have HE := Lib.hid (szR_no hl)
    go_enter Try.func70, Try.ntmps70
    go_wp2
    go_ret
    exact ⟨ret_int (by rw [HE.out]), rfl⟩
theorem sztrack_ret {u : Value} {l : List Int} (left : Int) (w : World) (h : At w 1 u l.length (l.map (Value.int .i64))) (hm : l.length ≤ 9223372036854775807) (h0 : 0 ≤ left) (h1 : left ≤ 1048576) :
    Calls Try.prog 23 #[.agg #[u], .int .i64 left] w fun e w' => e = .returned (.int .i64 (szR l.length left)) ∧ Below w.heap.size w w' := by
  have h' := h
  obtain ⟨ao, cap, rfl, hc⟩ := h.cell
  clear hc h
  have HS := fun wx hx => szints_ret (u := .slice ao l.length cap) (l := l) left wx hx hm h0 h1
  by_cases hn : (l.length : Int) ≤ left
  · have HE := Lib.hid (szR_yes hn)
    rw [szR_yes hn] at HS
    have h9 : ¬ left - (l.length : Int) < 0 := by omega
    go_enter Try.func23, Try.ntmps23
    go_wp2_with fail
    refine (HS _ (h'.below ((Below.refl _ _).alloc (Nat.le_refl _) _))).mono ?_
    rintro e w1 ⟨rfl, rfl⟩
    go_wp2_with fail
    go_ret
    exact ⟨ret_int (by rw [HE.out]), (Below.refl _ _).alloc (Nat.le_refl _) _⟩
  · have HE := Lib.hid (szR_no hn)
    rw [szR_no hn] at HS
    go_enter Try.func23, Try.ntmps23
    go_wp2_with fail
    refine (HS _ (h'.below ((Below.refl _ _).alloc (Nat.le_refl _) _))).mono ?_
    rintro e w1 ⟨rfl, rfl⟩
    go_wp2_with fail
    go_ret
    exact ⟨ret_int (by rw [HE.out]), (Below.refl _ _).alloc (Nat.le_refl _) _⟩
theorem trackok_impl {u : Value} {l : List Int} (w : World) (h : At w 1 u l.length (l.map (Value.int .i64))) (hm : l.length ≤ 1099511627776) :
    Calls Try.prog 26 #[.agg #[u]] w fun e w' => e = .returned (.bool (okT l)) ∧ Below w.heap.size w w' := by
  have h' := h
  obtain ⟨ao, cap, rfl, hc⟩ := h.cell
  clear hc h
  by_cases h2 : l.length ≤ 400
  · have HO : Hid (okT l = okIn l) := Lib.hid (by unfold okT; rw [decide_eq_true h2]; rfl)
    go_enter Try.func26, Try.ntmps26
    go_wp2_with fail
    refine (inputs_impl _ (h'.below ((Below.refl _ _).alloc (Nat.le_refl _) _)) hm).mono ?_
    rintro e w1 ⟨rfl, rfl⟩
    go_wp2_with fail
    go_ret
    exact ⟨ret_bool (by rw [HO.out]), (Below.refl _ _).alloc (Nat.le_refl _) _⟩
  · have HO : Hid (okT l = false) := Lib.hid (by unfold okT; rw [decide_eq_false h2]; rfl)
    go_enter Try.func26, Try.ntmps26
    go_wp2_with fail
    go_ret
    exact ⟨ret_bool (by rw [HO.out]), (Below.refl _ _).alloc (Nat.le_refl _) _⟩
theorem trackok_spec {u : Value} {l : List Int} (w : World) (h : At w 1 u l.length (l.map (Value.int .i64))) (hm : l.length ≤ 1099511627776) :
    Calls Try.prog 24 #[.agg #[u]] w fun e w' => e = .returned (.bool (okT l)) ∧ Below w.heap.size w w' := by
  have h' := h
  obtain ⟨ao, cap, rfl, hc⟩ := h.cell
  clear hc h
  by_cases h2 : l.length ≤ 400
  · have HO : Hid (okT l = okIn l) := Lib.hid (by unfold okT; rw [decide_eq_true h2]; rfl)
    go_enter Try.func24, Try.ntmps24
    go_wp2_with fail
    refine (inputs_spec _ (h'.below ((Below.refl _ _).alloc (Nat.le_refl _) _)) hm).mono ?_
    rintro e w1 ⟨rfl, rfl⟩
    go_wp2_with fail
    go_ret
    exact ⟨ret_bool (by rw [HO.out]), (Below.refl _ _).alloc (Nat.le_refl _) _⟩
  · have HO : Hid (okT l = false) := Lib.hid (by unfold okT; rw [decide_eq_false h2]; rfl)
    go_enter Try.func24, Try.ntmps24
    go_wp2_with fail
    go_ret
    exact ⟨ret_bool (by rw [HO.out]), (Below.refl _ _).alloc (Nat.le_refl _) _⟩
theorem eqtrack_ret {u v : Value} {l : List Int} (w : World) (hu : At w 1 u l.length (l.map (Value.int .i64))) (hv : At w 1 v l.length (l.map (Value.int .i64))) (hm : l.length ≤ 1099511627776) :
    Calls Try.prog 27 #[.agg #[u], .agg #[v]] w fun e w' => e = .returned (.bool true) ∧ Below w.heap.size w w' := by
  have hu' := hu
  have hv' := hv
  obtain ⟨ao, cap, rfl, hc⟩ := hu.cell
  obtain ⟨bo, cap2, rfl, hc2⟩ := hv.cell
  clear hc hc2 hu hv
  have hb : ∀ (A B : Obj), Below w.heap.size w ((w.alloc A).alloc B) := fun A B => ((Below.refl _ _).alloc (Nat.le_refl _) _).alloc (by simp) _
  go_enter Try.func27, Try.ntmps27
  go_wp2_with fail
  refine (eqints_ret _ (hu'.below (hb _ _)) (hv'.below (hb _ _)) hm).mono ?_
  rintro e w1 ⟨rfl, k, rfl⟩
  go_wp2_with fail
  go_ret
  exact ⟨rfl, below_drewN (hb _ _) k⟩
end Go.Proofs.Ytmnddbgblhmlbaa
