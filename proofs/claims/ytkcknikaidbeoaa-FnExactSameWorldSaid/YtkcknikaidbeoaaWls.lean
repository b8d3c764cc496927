/- The laws' own functions on worlds: szIntS, szBodyS, szWorld, toWorld, eqBodyS, eqWorld. -/
import Derived.Test.YtkcknikaidbeoaaWlw
import Derived.Test.YtkcknikaidbeoaaLss
import Derived.Deep.RegionWith
import Derived.Deep.DeepCutAuto
import Derived.Deep.CutRange
namespace Go.Proofs.Ytkcknikaidbeoaa
open Go.RowKit

theorem szints_ret {v : Value} {n : Nat} {cs : List Value} (left : Int) (w : World) (h : At w 1 v n cs) (hm : n ≤ 9223372036854775807) (h0 : 0 ≤ left) (h1 : left ≤ 1048576) :
    Calls Try.prog 92 #[v, .int .i64 left] w fun e w' => e = .returned (.int .i64 (if left - (n : Int) < 0 then -1 else left - n)) ∧ w = w' := by
  obtain ⟨_, ao, cap, rfl, _⟩ := h
  by_cases hl : left - (n : Int) < 0
  all_goals
    first | rw [if_pos hl] | rw [if_neg hl]
    go_enter Try.func92, Try.ntmps92
    go_wp2
    go_ret
    exact ⟨rfl, rfl⟩
theorem szbods_ret {v : Value} {n : Nat} {cs : List Value} (left : Int) (w : World) (h : At w 9 v n cs) (hm : n ≤ 9223372036854775807) (h0 : 0 ≤ left) (h1 : left ≤ 1048576) :
    Calls Try.prog 93 #[v, .int .i64 left] w fun e w' => e = .returned (.int .i64 (if left - (n : Int) < 0 then -1 else left - n)) ∧ w = w' := by
  obtain ⟨_, ao, cap, rfl, _⟩ := h
  by_cases hl : left - (n : Int) < 0
  all_goals
    first | rw [if_pos hl] | rw [if_neg hl]
    go_enter Try.func93, Try.ntmps93
    go_wp2
    go_ret
    exact ⟨rfl, rfl⟩
/-- what a world may measure -/
structure WSmall (X : Wd) : Prop where
  r : X.rows.length ≤ 1048576
  rs : ∀ s ∈ X.rows, s.size ≤ 1048576
  s : X.scores.length ≤ 1048576
  b : X.bodies.length ≤ 1048576
theorem At.len63 {w : World} {sz : Nat} {v : Value} {n : Nat} {cs : List Value} (h : At w sz v n cs) : n ≤ 9223372036854775807 := by
  obtain ⟨_, ao, cap, _, hn, hm, _⟩ := h
  unfold maxLen at hm
  omega
set_option maxHeartbeats 4000000 in
theorem szworld_ret {u us ub : Value} {X : Wd} (left : Int) (w : World) (h : WAt w u us ub X) (hw : ∀ s ∈ X.rows, s.size ≤ maxLen) (h0 : 0 ≤ left) (h1 : left ≤ 1048576) :
    Calls Try.prog 41 #[.agg #[u, .int .i64 X.tick, .int .i64 X.seed, us, ub], .int .i64 left] w fun e w' => ∃ z : Int, e = .returned (.int .i64 z) ∧ (z = -1 ∨ (0 ≤ z ∧ z ≤ left ∧ WSmall X)) ∧ Below w.heap.size w w' := by
  obtain ⟨hr, hs, hb⟩ := h
  obtain ⟨rows, tk, sd, sc, bs⟩ := X
  simp only at hr hs hb hw ⊢
  have l0 := hr.len63
  have l1 := hs.len63
  have l2 := hb.len63
  unfold maxLen at hw
  have HZ := fun wx hx => szlevel_ret (u := u) (l := rows) left wx hx (by omega) (fun s hs => by have := hw s hs; omega) h0 h1
  have HW : Hid (szS rows left = -1 ∨ (0 ≤ szS rows left ∧ szS rows left ≤ left ∧ (rows.length : Int) ≤ left ∧ ∀ s ∈ rows, (s.size : Int) ≤ left)) := Lib.hid (szS_bd rows left h0)
  go_enter Try.func41, Try.ntmps41
  go_wp2_with fail
  generalize hw1 : w.alloc _ = w1
  have hb1 : Below w.heap.size w w1 := by rw [← hw1]; exact (Below.refl _ _).alloc (Nat.le_refl _) _
  have hB1 : WBlk w1 w.heap.size u tk sd us ub := by rw [← hw1]; exact WBlk.new w _ u tk sd us ub
  clear hw1
  refine (HZ _ (hr.below hb1)).mono ?_
  rintro e wa ⟨rfl, ha⟩
  have hba := hb1.trans (ha.mono hb1.size)
  have hBa := hB1.below ha hB1.lt
  clear hb1 hB1 ha HZ
  obtain ⟨_, c0, c1, c2, c3, c4, _⟩ := id hBa
  rcases HW.out with hn | ⟨hn0, hn1, hn2, hn3⟩
  · rw [hn]
    clear hn HW
    go_wp2_with fail
    go_ret
    exact ⟨_, rfl, .inl rfl, hba⟩
  generalize szS rows left = Z at *
  clear HW
  go_wp2_with fail
  refine (szints_ret Z _ (hs.below hba) l1 hn0 (by omega)).mono ?_
  rintro e wb ⟨rfl, rfl⟩
  by_cases hq : Z - (sc.length : Int) < 0
  · rw [if_pos hq]
    go_wp2_with fail
    go_ret
    exact ⟨_, rfl, .inl rfl, hba⟩
  rw [if_neg hq]
  go_wp2_with fail
  refine (szbods_ret (Z - (sc.length : Int)) _ (hb.below hba) l2 (by omega) (by omega)).mono ?_
  rintro e wb ⟨rfl, rfl⟩
  by_cases hq2 : Z - (sc.length : Int) - (bs.length : Int) < 0
  · rw [if_pos hq2]
    go_wp2_with fail
    go_ret
    exact ⟨_, rfl, .inl rfl, hba⟩
  rw [if_neg hq2]
  go_wp2_with fail
  go_ret
  exact ⟨_, rfl, .inr ⟨by omega, by omega, ⟨by simp only; omega, fun s hs => by have := hn3 s hs; omega, by simp only; omega, by simp only; omega⟩⟩, hba⟩
def wcells (u : Value) (tk sd : Int) (us ub : Value) : List Value := [u, .int .i64 tk, .int .i64 sd, us, ub]
theorem WBlk.range {w : World} {g : Nat} {u us ub : Value} {tk sd : Int} (h : WBlk w g u tk sd us ub) : w.rangeAt g 0 (wcells u tk sd us ub) := fun j v hv => by
  have hj : j < 5 := (List.getElem?_eq_some_iff.1 hv).1
  rw [Nat.zero_add]
  obtain ⟨_, c0, c1, c2, c3, c4, _⟩ := h
  match j, hj with
  | 0, _ => exact c0.trans hv
  | 1, _ => exact c1.trans hv
  | 2, _ => exact c2.trans hv
  | 3, _ => exact c3.trans hv
  | 4, _ => exact c4.trans hv
theorem WBlk.there {w : World} {g : Nat} {u us ub : Value} {tk sd : Int} (h : WBlk w g u tk sd us ub) : w.there g 0 5 := fun j hj => by
  rw [Nat.zero_add]
  obtain ⟨_, c0, c1, c2, c3, c4, f0, f1, f2, f3, f4⟩ := h
  match j, hj with
  | 0, _ => exact ⟨some_isSome c0, f0⟩
  | 1, _ => exact ⟨some_isSome c1, f1⟩
  | 2, _ => exact ⟨some_isSome c2, f2⟩
  | 3, _ => exact ⟨some_isSome c3, f3⟩
  | 4, _ => exact ⟨some_isSome c4, f4⟩
theorem WBlk.setAll {w : World} {g : Nat} {u us ub u' us' ub' : Value} {tk sd tk' sd' : Int} (h : WBlk w g u tk sd us ub) : WBlk (w.setCells g 0 (wcells u' tk' sd' us' ub')) g u' tk' sd' us' ub' := ((((h.set0 u').set1 tk').set2 sd').set3 us').set4 ub'
theorem slice_one {w : World} {sz : Nat} {v : Value} {n : Nat} {cs : List Value} (h : At w sz v n cs) : v.oneCell' = true := by
  obtain ⟨_, ao, cap, rfl, _⟩ := h
  rfl
theorem size_lwld : (Try.prog.info? 45).map (·.size) = some 5 := by kernel_rfl
theorem size_wld : (Try.prog.info? 50).map (·.size) = some 5 := by kernel_rfl
section
variable {ops : Array Oper} {rest : List Oper} {op : Oper} {a : Act} {w : World} {Q : Exit → Act → World → Prop}
theorem load_wld (hgd : op.guard = none) (x : Operand) (ho : op.op = .load 50 x) (g : Nat) (hx : a.eval x = .pointer (some ⟨g, 0, none⟩)) (u : Value) (tk sd : Int) (us ub : Value) (hc : w.rangeAt g 0 (wcells u tk sd us ub))
    (h : wpList Try.prog ops Q rest (a.put op.dst (.agg #[u, .int .i64 tk, .int .i64 sd, us, ub])) w) : wpList Try.prog ops Q (op :: rest) a w :=
  wpList_load_mid hgd _ x ho g 0 hx (wcells u tk sd us ub) _ hc Try.underlying50 rfl (by rw [size_wld]; rfl) h
theorem load_lwld (hgd : op.guard = none) (x : Operand) (ho : op.op = .load 45 x) (g : Nat) (hx : a.eval x = .pointer (some ⟨g, 0, none⟩)) (u : Value) (tk sd : Int) (us ub : Value) (hc : w.rangeAt g 0 (wcells u tk sd us ub))
    (h : wpList Try.prog ops Q rest (a.put op.dst (.agg #[u, .int .i64 tk, .int .i64 sd, us, ub])) w) : wpList Try.prog ops Q (op :: rest) a w :=
  wpList_load_mid hgd _ x ho g 0 hx (wcells u tk sd us ub) _ hc Try.underlying45 rfl (by rw [size_lwld]; rfl) h
theorem store_wld (hgd : op.guard = none) (x y : Operand) (ho : op.op = .store 50 x y) (g : Nat) (hx : a.eval x = .pointer (some ⟨g, 0, none⟩)) (u : Value) (tk sd : Int) (us ub : Value) (hy : a.eval y = .agg #[u, .int .i64 tk, .int .i64 sd, us, ub]) (ht : w.there g 0 5)
    (h0 : u.oneCell' = true) (h3 : us.oneCell' = true) (h4 : ub.oneCell' = true)
    (h : wpList Try.prog ops Q rest (a.put op.dst undef) (w.setCells g 0 (wcells u tk sd us ub))) : wpList Try.prog ops Q (op :: rest) a w :=
  wpList_store_mid hgd _ x y ho g 0 #[u, .int .i64 tk, .int .i64 sd, us, ub] hx hy (by exact ht) (by rw [size_wld]; rfl) (Array.all_eq_true_iff_forall_mem.2 fun v hv => by simp at hv; rcases hv with rfl | rfl | rfl | rfl | rfl <;> first | assumption | rfl) h
end
theorem zwthere (w : World) (t : TypeId) : (w.alloc (.cells #[.slice none 0 0, .int .i64 0, .int .i64 0, .slice none 0 0, .slice none 0 0] t)).there w.heap.size 0 5 := (WBlk.new w t nilV 0 0 nilV nilV).there
/-- a new variable that holds a world -/
theorem newW5 {B : Nat} {a wr : World} (h : Below B a wr) (hs : B ≤ wr.heap.size) (t : TypeId) (u : Value) (tk sd : Int) (us ub : Value) :
    WBlk ((wr.alloc (.cells #[.slice none 0 0, .int .i64 0, .int .i64 0, .slice none 0 0, .slice none 0 0] t)).setCells wr.heap.size 0 (wcells u tk sd us ub)) wr.heap.size u tk sd us ub ∧
    Below B a ((wr.alloc (.cells #[.slice none 0 0, .int .i64 0, .int .i64 0, .slice none 0 0, .slice none 0 0] t)).setCells wr.heap.size 0 (wcells u tk sd us ub)) ∧
    Below wr.heap.size wr ((wr.alloc (.cells #[.slice none 0 0, .int .i64 0, .int .i64 0, .slice none 0 0, .slice none 0 0] t)).setCells wr.heap.size 0 (wcells u tk sd us ub)) :=
  ⟨(WBlk.new wr t nilV 0 0 nilV nilV).setAll, setCells_below (h.alloc hs _) hs, setCells_below ((Below.refl _ _).alloc (Nat.le_refl _) _) (Nat.le_refl _)⟩
/-- the result of a function: a world out of its variable -/
theorem res_wld1 {fn : Func} {t1 : Tmp} {tmps : Array Value} {w : World} {g : Nat} {u us ub : Value} {tk sd : Int} (hr : fn.results = #[.cell t1 50]) (h1 : tmps.getD t1 undef = .pointer (some ⟨g, 0, none⟩))
    (hc : w.rangeAt g 0 (wcells u tk sd us ub)) : (results fn tmps).run Try.prog w = .ok (.agg #[u, .int .i64 tk, .int .i64 sd, us, ub]) w := by
  have hl := run_loadVar_mid w g 0 50 (wcells u tk sd us ub) _ hc Try.underlying50 rfl (by rw [size_wld]; rfl)
  have h1' : tmps[t1]?.getD undef = .pointer (some ⟨g, 0, none⟩) := by simpa using h1
  simp [results, hr, h1', hl, asAddr, wcells]
theorem res_wld2 {fn : Func} {t1 t2 : Tmp} {tmps : Array Value} {w : World} {g : Nat} {u us ub : Value} {tk sd : Int} {st : Bool} (hr : fn.results = #[.cell t1 50, .tmp t2]) (h1 : tmps.getD t1 undef = .pointer (some ⟨g, 0, none⟩)) (h2 : tmps.getD t2 undef = .bool st)
    (hc : w.rangeAt g 0 (wcells u tk sd us ub)) : (results fn tmps).run Try.prog w = .ok (.tuple #[.agg #[u, .int .i64 tk, .int .i64 sd, us, ub], .bool st]) w := by
  have hl := run_loadVar_mid w g 0 50 (wcells u tk sd us ub) _ hc Try.underlying50 rfl (by rw [size_wld]; rfl)
  have h1' : tmps[t1]?.getD undef = .pointer (some ⟨g, 0, none⟩) := by simpa using h1
  have h2' : tmps[t2]?.getD undef = .bool st := by simpa using h2
  simp [results, hr, h1', h2', hl, asAddr, wcells]
set_option maxRecDepth 100000 in
set_option maxHeartbeats 4000000 in
theorem toworld_ret {u us ub : Value} {X : Wd} (w : World) (h : WAt w u us ub X) (hm : WSmall X) :
    Calls Try.prog 43 #[.agg #[u, .int .i64 X.tick, .int .i64 X.seed, us, ub]] w fun e w' => ∃ x xs xb, e = .returned (.agg #[x, .int .i64 X.tick, .int .i64 X.seed, xs, xb]) ∧ WOwn w' w.heap.size x xs xb X ∧ Below w.heap.size w w' := by
  obtain ⟨hr, hs, hb⟩ := h
  obtain ⟨rows, tk, sd, sc, bs⟩ := X
  obtain ⟨m0, m1, m2, m3⟩ := hm
  simp only at hr hs hb m0 m1 m2 m3 ⊢
  go_enter Try.func43, Try.ntmps43
  go_wp2_with fail
  generalize hw1 : ((w.alloc _).alloc _).alloc _ = w1
  have hb1 : Below w.heap.size w w1 := by rw [← hw1]; exact (((Below.refl _ _).alloc (Nat.le_refl _) _).alloc (by simp) _).alloc (by simp; omega) _
  have s1 : w1.heap.size = w.heap.size + 3 := by rw [← hw1]; simp
  have hA1 : WBlk w1 w.heap.size u tk sd us ub := by rw [← hw1]; exact ((WBlk.new w _ u tk sd us ub).alloc _).alloc _
  have hR1 : WBlk w1 (w.heap.size + 1) nilV 0 0 nilV nilV := by
    rw [← hw1]
    have := (WBlk.new (w.alloc (.cells #[u, .int .i64 tk, .int .i64 sd, us, ub] 45)) 50 nilV 0 0 nilV nilV).alloc (.cells #[nilV, .int .i64 0, .int .i64 0, nilV, nilV] 50)
    rwa [show (w.alloc (.cells #[u, .int .i64 tk, .int .i64 sd, us, ub] 45)).heap.size = w.heap.size + 1 by simp] at this
  have hO1 : WBlk w1 (w.heap.size + 2) nilV 0 0 nilV nilV := by
    rw [← hw1]
    have := WBlk.new ((w.alloc (.cells #[u, .int .i64 tk, .int .i64 sd, us, ub] 45)).alloc (.cells #[nilV, .int .i64 0, .int .i64 0, nilV, nilV] 50)) 50 nilV 0 0 nilV nilV
    rwa [show ((w.alloc (.cells #[u, .int .i64 tk, .int .i64 sd, us, ub] 45)).alloc (.cells #[nilV, .int .i64 0, .int .i64 0, nilV, nilV] 50)).heap.size = w.heap.size + 2 by simp] at this
  clear hw1
  refine (tolevel_ret _ (hr.below hb1) m0).mono ?_
  rintro e wa ⟨x, rfl, hx, ha⟩
  obtain ⟨xo, xc, rfl⟩ := hx.slice_
  have hba := hb1.trans (ha.mono hb1.size)
  have hAa := hA1.below ha hA1.lt
  have hRa := hR1.below ha hR1.lt
  have hOa := hO1.below ha hO1.lt
  clear ha hA1 hR1 hO1 hb1
  obtain ⟨_, c0, c1, c2, c3, c4, _⟩ := id hAa
  obtain ⟨_, o0, o1, o2, o3, o4, p0, p1, p2, p3, p4⟩ := id hOa
  go_upto_region 5 with (fail)
  generalize hxv : Value.slice xo rows.length xc = x at *
  generalize hwn : World.setCell _ _ _ = wb
  have hO2 : WBlk wb (w.heap.size + 2) x tk sd nilV nilV := by rw [← hwn]; exact ((hOa.set0 x).set1 tk).set2 sd
  have hb2 : Below w.heap.size w wb := by rw [← hwn]; exact ((hba.setCell (by show w.heap.size ≤ w.heap.size + 2; omega) _).setCell (by show w.heap.size ≤ w.heap.size + 2; omega) _).setCell (by show w.heap.size ≤ w.heap.size + 2; omega) _
  have hA2 : WBlk wb w.heap.size u tk sd us ub := by rw [← hwn]; exact ((hAa.other (by show w.heap.size + 2 ≠ w.heap.size; omega) _).other (by show w.heap.size + 2 ≠ w.heap.size; omega) _).other (by show w.heap.size + 2 ≠ w.heap.size; omega) _
  have hR2 : WBlk wb (w.heap.size + 1) nilV 0 0 nilV nilV := by rw [← hwn]; exact ((hRa.other (by show w.heap.size + 2 ≠ w.heap.size + 1; omega) _).other (by show w.heap.size + 2 ≠ w.heap.size + 1; omega) _).other (by show w.heap.size + 2 ≠ w.heap.size + 1; omega) _
  have hx2 : Own wb (w.heap.size + 3) 1 x rows.length (rows.map Value.string) := by
    rw [← hwn]
    exact (((hx.mono (base' := w.heap.size + 3) (by omega)).other (by intro g hg; have := (hx.ge g hg).1; show g ≠ w.heap.size + 2; omega) _).other (by intro g hg; have := (hx.ge g hg).1; show g ≠ w.heap.size + 2; omega) _).other (by intro g hg; have := (hx.ge g hg).1; show g ≠ w.heap.size + 2; omega) _
  have hx2' : ∀ k, x.ownBlock = some k → k < wb.heap.size := fun k hk => (hx2.ge k hk).2
  clear hwn hx hOa hAa hRa hba c0 c1 c2 c3 c4 o0 o1 o2 o3 o4 p0 p1 p2 p3 p4
  have q1 := hO2.lt
  obtain ⟨_, c0, c1, c2, c3, c4, _⟩ := id hA2
  go_wp2_with fail
  refine (toints_ret _ (hs.below hb2) m2).mono ?_
  rintro e wc ⟨y, rfl, hy, hc⟩
  obtain ⟨yo, yc, rfl⟩ := hy.slice_
  have hb3 := hb2.trans (hc.mono hb2.size)
  have hA3 := hA2.below hc hA2.lt
  have hR3 := hR2.below hc hR2.lt
  have hO3 := hO2.below hc hO2.lt
  have hx3 := hx2.belowS hc
  have q2 := hc.size
  clear hc hA2 hR2 hO2 hx2 hb2 c0 c1 c2 c3 c4
  obtain ⟨_, c0, c1, c2, c3, c4, _⟩ := id hA3
  obtain ⟨_, o0, o1, o2, o3, o4, p0, p1, p2, p3, p4⟩ := id hO3
  go_upto_region 6 with (fail)
  generalize hyv : Value.slice yo sc.length yc = y at *
  generalize hwn : World.setCell _ _ _ = wd
  have hO4 : WBlk wd (w.heap.size + 2) x tk sd y nilV := by rw [← hwn]; exact hO3.set3 y
  have hb4 : Below w.heap.size w wd := by rw [← hwn]; exact hb3.setCell (by show w.heap.size ≤ w.heap.size + 2; omega) _
  have hA4 : WBlk wd w.heap.size u tk sd us ub := by rw [← hwn]; exact hA3.other (by show w.heap.size + 2 ≠ w.heap.size; omega) _
  have hR4 : WBlk wd (w.heap.size + 1) nilV 0 0 nilV nilV := by rw [← hwn]; exact hR3.other (by show w.heap.size + 2 ≠ w.heap.size + 1; omega) _
  have hx4 : Own wd (w.heap.size + 3) 1 x rows.length (rows.map Value.string) := by rw [← hwn]; exact hx3.other (by intro g hg; have := (hx3.ge g hg).1; show g ≠ w.heap.size + 2; omega) _
  have hy4 : Own wd wb.heap.size 1 y sc.length (sc.map (Value.int .i64)) := by rw [← hwn]; exact hy.other (by intro g hg; have := (hy.ge g hg).1; show g ≠ w.heap.size + 2; omega) _
  have hxl : ∀ k, x.ownBlock = some k → k < wb.heap.size := fun k hk => (hx2' k hk)
  have s4 : wd.heap.size = wc.heap.size := by rw [← hwn]; simp
  clear hwn hy hx3 hO3 hA3 hR3 hb3 c0 c1 c2 c3 c4 o0 o1 o2 o3 o4 p0 p1 p2 p3 p4
  obtain ⟨_, c0, c1, c2, c3, c4, _⟩ := id hA4
  go_wp2_with fail
  refine (tobods_ret _ (hb.below hb4) m3).mono ?_
  rintro e we ⟨z, rfl, hz, hd⟩
  obtain ⟨zo, zc, rfl⟩ := hz.slice_
  have hb5 := hb4.trans (hd.mono hb4.size)
  have hR5 := hR4.below hd hR4.lt
  have hO5 := hO4.below hd hO4.lt
  have hx5 := hx4.belowS hd
  have hy5 := hy4.belowS hd
  have hyl : ∀ k, y.ownBlock = some k → k < wd.heap.size := fun k hk => (hy4.ge k hk).2
  clear hd hA4 hR4 hO4 hx4 hy4 hb4 c0 c1 c2 c3 c4
  obtain ⟨_, o0, o1, o2, o3, o4, p0, p1, p2, p3, p4⟩ := id hO5
  go_upto_region 7 with (fail)
  generalize hzv : Value.slice zo bs.length zc = z at *
  generalize hwn : World.setCell _ _ _ = wf
  have hO6 : WBlk wf (w.heap.size + 2) x tk sd y z := by rw [← hwn]; exact hO5.set4 z
  have hb6 : Below w.heap.size w wf := by rw [← hwn]; exact hb5.setCell (by show w.heap.size ≤ w.heap.size + 2; omega) _
  have hR6 : WBlk wf (w.heap.size + 1) nilV 0 0 nilV nilV := by rw [← hwn]; exact hR5.other (by show w.heap.size + 2 ≠ w.heap.size + 1; omega) _
  have hx6 : Own wf (w.heap.size + 3) 1 x rows.length (rows.map Value.string) := by rw [← hwn]; exact hx5.other (by intro g hg; have := (hx5.ge g hg).1; show g ≠ w.heap.size + 2; omega) _
  have hy6 : Own wf wb.heap.size 1 y sc.length (sc.map (Value.int .i64)) := by rw [← hwn]; exact hy5.other (by intro g hg; have := (hy5.ge g hg).1; show g ≠ w.heap.size + 2; omega) _
  have hz6 : Own wf wd.heap.size 9 z bs.length (cellsB bs) := by rw [← hwn]; exact hz.other (by intro g hg; have := (hz.ge g hg).1; show g ≠ w.heap.size + 2; omega) _
  clear hwn hO5 hb5 hR5 hx5 hy5 hz o0 o1 o2 o3 o4 p0 p1 p2 p3 p4
  go_wp2_with (first | (with_reducible refine load_wld (op := ⟨some 22, _, _, _, _, _⟩) rfl _ rfl _ rfl x tk sd y z hO6.range ?_) | (with_reducible refine store_wld (op := ⟨none, _, _, _, _, _⟩) rfl _ _ rfl _ rfl x tk sd y z rfl hR6.there (slice_one hx6.at_) (slice_one hy6.at_) (slice_one hz6.at_) ?_))
  have hR7 := hR6.setAll (u' := x) (us' := y) (ub' := z) (tk' := tk) (sd' := sd)
  refine bodyPost_ret (res_wld1 rfl rfl hR7.range) rfl ?_
  refine ⟨x, y, z, rfl, ⟨?_, ?_, ?_, ?_, ?_, ?_⟩, setCells_below hb6 (by omega)⟩
  · exact (hx6.mono (by omega)).apart (by intro g hg; have := (hx6.ge g hg).1; omega) _ _
  · exact (hy6.mono (by omega)).apart (by intro g hg; have := (hy6.ge g hg).1; omega) _ _
  · exact (hz6.mono (by omega)).apart (by intro g hg; have := (hz6.ge g hg).1; omega) _ _
  · exact dj_ge fun i j hi hj e => by have := hxl i hi; have := (hy6.ge j hj).1; omega
  · exact dj_ge fun i j hi hj e => by have := hxl i hi; have := (hz6.ge j hj).1; omega
  · exact dj_ge fun i j hi hj e => by have := hyl i hi; have := (hz6.ge j hj).1; omega
end Go.Proofs.Ytkcknikaidbeoaa
