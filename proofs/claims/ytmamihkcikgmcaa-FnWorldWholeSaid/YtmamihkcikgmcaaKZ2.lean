/- Texts EqM, Swd, Swe, Wsm, Wha in one. -/
import Derived.Test.YtmamihkcikgmcaaKA
import Derived.Test.YtmamihkcikgmcaaKB
import Derived.Test.YtmamihkcikgmcaaKC
import Derived.Test.YtmamihkcikgmcaaKD
import Derived.Test.YtmamihkcikgmcaaKH
import Derived.Test.YtmamihkcikgmcaaKR
import Derived.Test.YtmamihkcikgmcaaKZ1
import Derived.Test.YtmamihkcikgmcaaKY
/- Two slices of whole numbers compared (slices.Equal, l02Ints). -/
namespace Go.Proofs.Ytmamihkcikgmcaa
open Go.RowKit

def sameL (a b : List Int) : Bool := a == b
theorem sameL_len {a b : List Int} (h : a.length ≠ b.length) : sameL a b = false := beq_eq_false_iff_ne.2 (fun e => h (by rw [e]))
theorem sameL_ne {a b : List Int} {k : Nat} {h1 : k < a.length} {h2 : k < b.length} (h : a[k]'h1 ≠ b[k]'h2) : sameL a b = false := beq_eq_false_iff_ne.2 (fun e => h (by subst e; rfl))
theorem sameL_yes {a b : List Int} (hl : a.length = b.length) (h : ∀ j (h1 : j < a.length) (h2 : j < b.length), a[j]'h1 = b[j]'h2) : sameL a b = true := beq_iff_eq.2 (List.ext_getElem hl h)

set_option maxHeartbeats 800000 in
theorem slequal_ret {va vb : Value} {la lb : List Int} (w : World) (ha : At w 1 va la.length (la.map (Value.int .i64))) (hb : At w 1 vb lb.length (lb.map (Value.int .i64))) (hm : la.length ≤ 1099511627776) :
    Calls Try.prog 97 #[va, vb] w fun e w' => e = .returned (.bool (sameL la lb)) ∧ ∃ k, w' = w.drewN k := by
  obtain ⟨ao, cap, rfl, hca⟩ := ha.cell
  obtain ⟨bo, cap2, rfl, hcb⟩ := hb.cell
  by_cases hl : la.length = lb.length
  · have HL := Lib.hid hl
    rw [← hl]
    go_enter Try.func97, Try.ntmps97
    go_wp2
    go_loopw [13] (fun i wr => ∃ k : Nat, k ≤ la.length ∧ i = .int .i64 k ∧ Hid (∀ j (h1 : j < la.length) (h2 : j < lb.length), j < k → la[j]'h1 = lb[j]'h2) ∧ ∃ d, wr = w.drewN d) (fun i _ => la.length - (intOf i).toNat)
    case atStart => exact ⟨0, Nat.zero_le _, rfl, Lib.hid fun j _ _ h => by omega, 0, rfl⟩
    case round =>
      obtain ⟨k, hk, rfl, HE, d, rfl⟩ := hrel
      by_cases hlt : k < la.length
      · have hlt2 : k < lb.length := by have := HL.out; omega
        obtain ⟨g, off, rfl, hg, hcell⟩ := hca (by omega)
        obtain ⟨g2, off2, rfl, hg2, hcell2⟩ := hcb (by omega)
        clear hca hcb
        have c1 := hcell k hlt
        have c2 := hcell2 k hlt2
        clear hcell hcell2
        by_cases he : la[k]'hlt = lb[k]'hlt2
        · have HE' : Hid (∀ j (h1 : j < la.length) (h2 : j < lb.length), j < k + 1 → la[j]'h1 = lb[j]'h2) := Lib.hid fun j h1 h2 h3 => by
            by_cases e : j = k
            · subst e; exact he
            · exact HE.out j h1 h2 (by omega)
          rw [← he] at c2
          clear he hl
          go_wp2
          go_region
          go_wp2
          go_roundw
          case rel => exact ⟨k + 1, by omega, by go_num, HE', d + 1, rfl⟩
          case measure => simp [intOf]; omega
        · have HN := Lib.hid (sameL_ne he)
          have hb' : (la[k]'hlt == lb[k]'hlt2) = false := beq_eq_false_iff_ne.2 he
          clear hl
          go_wp2
          go_region
          go_wp2
          go_ret
          exact ⟨ret_bool (by rw [HN.out]), d + 1, rfl⟩
      · have HN := Lib.hid (sameL_yes hl fun j h1 h2 => HE.out j h1 h2 (by omega))
        go_wp2
        go_ret
        exact ⟨ret_bool (by rw [HN.out]), d, rfl⟩
  · have HN := Lib.hid (sameL_len hl)
    have hb' : ((la.length : Int) == (lb.length : Int)) = false := beq_eq_false_iff_ne.2 (by omega)
    go_enter Try.func97, Try.ntmps97
    go_wp2
    go_ret
    exact ⟨ret_bool (by rw [HN.out]), 0, rfl⟩

end Go.Proofs.Ytmamihkcikgmcaa
/- SameWorld, the program's and the reference's. -/
namespace Go.Proofs.Ytmamihkcikgmcaa
open Go.RowKit

theorem sameBs_len {a b : List Bd} (h : a.length ≠ b.length) : sameBs a b = false := decide_eq_false (fun e => h (by rw [e]))
theorem sameBs_ne {a b : List Bd} {k : Nat} (h : bAt a k ≠ bAt b k) : sameBs a b = false := decide_eq_false (fun e => h (by subst e; rfl))
theorem sameBs_yes {a b : List Bd} (hl : a.length = b.length) (h : ∀ j, j < a.length → bAt a j = bAt b j) : sameBs a b = true := decide_eq_true (List.ext_getElem hl fun j h1 h2 => by have := h j h1; rwa [bAt_eq h1, bAt_eq h2] at this)
theorem bd_diff {x0 x1 x2 x3 x4 x5 x6 x7 x8 y0 y1 y2 y3 y4 y5 y6 y7 y8 : Int} (h : (⟨x0, x1, x2, x3, x4, x5, x6, x7, x8⟩ : Bd) ≠ ⟨y0, y1, y2, y3, y4, y5, y6, y7, y8⟩) :
    x0 ≠ y0 ∨ (x0 = y0 ∧ x1 ≠ y1) ∨ (x0 = y0 ∧ x1 = y1 ∧ x2 ≠ y2) ∨ (x0 = y0 ∧ x1 = y1 ∧ x2 = y2 ∧ x3 ≠ y3) ∨ (x0 = y0 ∧ x1 = y1 ∧ x2 = y2 ∧ x3 = y3 ∧ x4 ≠ y4) ∨ (x0 = y0 ∧ x1 = y1 ∧ x2 = y2 ∧ x3 = y3 ∧ x4 = y4 ∧ x5 ≠ y5) ∨ (x0 = y0 ∧ x1 = y1 ∧ x2 = y2 ∧ x3 = y3 ∧ x4 = y4 ∧ x5 = y5 ∧ x6 ≠ y6) ∨ (x0 = y0 ∧ x1 = y1 ∧ x2 = y2 ∧ x3 = y3 ∧ x4 = y4 ∧ x5 = y5 ∧ x6 = y6 ∧ x7 ≠ y7) ∨ (x0 = y0 ∧ x1 = y1 ∧ x2 = y2 ∧ x3 = y3 ∧ x4 = y4 ∧ x5 = y5 ∧ x6 = y6 ∧ x7 = y7 ∧ x8 ≠ y8) := by
  by_cases e0 : x0 = y0
  · by_cases e1 : x1 = y1
    · by_cases e2 : x2 = y2
      · by_cases e3 : x3 = y3
        · by_cases e4 : x4 = y4
          · by_cases e5 : x5 = y5
            · by_cases e6 : x6 = y6
              · by_cases e7 : x7 = y7
                · refine .inr (.inr (.inr (.inr (.inr (.inr (.inr (.inr ⟨e0, e1, e2, e3, e4, e5, e6, e7, fun e8 => h ?_⟩)))))))
                  subst e0; subst e1; subst e2; subst e3; subst e4; subst e5; subst e6; subst e7; subst e8; rfl
                · exact .inr (.inr (.inr (.inr (.inr (.inr (.inr (.inl ⟨e0, e1, e2, e3, e4, e5, e6, e7⟩)))))))
              · exact .inr (.inr (.inr (.inr (.inr (.inr (.inl ⟨e0, e1, e2, e3, e4, e5, e6⟩))))))
            · exact .inr (.inr (.inr (.inr (.inr (.inl ⟨e0, e1, e2, e3, e4, e5⟩)))))
          · exact .inr (.inr (.inr (.inr (.inl ⟨e0, e1, e2, e3, e4⟩))))
        · exact .inr (.inr (.inr (.inl ⟨e0, e1, e2, e3⟩)))
      · exact .inr (.inr (.inl ⟨e0, e1, e2⟩))
    · exact .inr (.inl ⟨e0, e1⟩)
  · exact .inl e0
set_option maxRecDepth 100000 in
set_option maxHeartbeats 4000000 in
theorem slbods_ret {va vb : Value} {la lb : List Bd} (w : World) (ha : At w 9 va la.length (cellsB la)) (hb : At w 9 vb lb.length (cellsB lb)) (hm : la.length ≤ 1048576) (_ : lb.length ≤ 1048576) :
    Calls Try.prog 98 #[va, vb] w fun e w' => e = .returned (.bool (sameBs la lb)) ∧ Below w.heap.size w w' := by
  have ha0 := ha
  have hb0 := hb
  obtain ⟨ao, cap, rfl, hca⟩ := ha.cellB
  obtain ⟨bo, cap2, rfl, hcb⟩ := hb.cellB
  by_cases hl : la.length = lb.length
  · have HL := Lib.hid hl
    rw [← hl] at hb0 hb ⊢
    clear hl ha hb
    go_enter Try.func98, Try.ntmps98
    go_wp2_with fail
    go_loopw [13] (fun i wr => ∃ k : Nat, k ≤ la.length ∧ i = .int .i64 k ∧ Hid (∀ j, j < k → bAt la j = bAt lb j) ∧ Below w.heap.size w wr) (fun i _ => la.length - (intOf i).toNat)
    case atStart => exact ⟨0, Nat.zero_le _, rfl, Lib.hid fun _ h => absurd h (Nat.not_lt_zero _), Below.refl _ _⟩
    case round =>
      obtain ⟨k, hk, rfl, HK, hbl⟩ := hrel
      by_cases hlt : k < la.length
      · obtain ⟨g, off, rfl, hg, _⟩ := hca (by omega)
        obtain ⟨g2, off2, rfl, hg2, hcell2⟩ := hcb (by have := HL.out; omega)
        have HR := ((ha0.elem hlt).below hbl.drew hg).range
        have HR2 := (Elem.below (elem_mk (g := g2) (off := off2) (k := k) (b := bAt lb k) fun j hj => hcell2 k j (by have := HL.out; omega) hj) hbl.drew hg2).range
        have HNE := Lib.hid (sameBs_ne (a := la) (b := lb) (k := k))
        have hbld := hbl.drew
        obtain ⟨x, hx⟩ : ∃ x, bAt la k = x := ⟨_, rfl⟩
        obtain ⟨y, hy⟩ : ∃ x, bAt lb k = x := ⟨_, rfl⟩
        rw [hx] at HR HNE
        rw [hy] at HR2 HNE
        have HX := Lib.hid hx
        have HY := Lib.hid hy
        clear hca hcb hcell2 hx hy ha0
        go_wp2_with fail
        refine wp_region_tailV 8 (by kernel_rfl) (by kernel_rfl) ?_
        intro OPS HOPS
        simp only [List.take_succ_cons, List.take_zero, List.drop_succ_cons, List.drop_zero]
        still_step
        still_step
        still_step
        refine still_bodS (op := ⟨some 19, _, _, _, _, _⟩) rfl _ rfl g (off + k * 9) rfl x HR ?_
        simp only [Act.put, List.setIfInBounds_toArray, List.set_cons_zero, List.set_cons_succ]
        still_step
        still_step
        still_step
        refine still_bodS (op := ⟨some 23, _, _, _, _, _⟩) rfl _ rfl g2 (off2 + k * 9) rfl y HR2 ?_
        simp only [Act.put, List.setIfInBounds_toArray, List.set_cons_zero, List.set_cons_succ]
        refine wpStill_nil ?_
        change wpList _ _ _ _ _ wr.drew
        by_cases hxy : x = y
        · subst hxy
          obtain ⟨x0, x1, x2, x3, x4, x5, x6, x7, x8⟩ := x
          rw [show (Bd.mk x0 x1 x2 x3 x4 x5 x6 x7 x8).val = .agg #[.int .i64 x0, .int .i64 x1, .int .i64 x2, .int .i64 x3, .int .i64 x4, .int .i64 x5, .int .i64 x6, .int .i64 x7, .int .i64 x8] from rfl]
          have HK2 : Hid (∀ j, j < k + 1 → bAt la j = bAt lb j) := Lib.hid fun j hj => by
            by_cases e : j = k
            · subst e; exact HX.out.trans HY.out.symm
            · exact HK.out j (by omega)
          clear HR HR2 HNE HX HY
          go_wp2_with fail
          go_roundw
          case rel => exact ⟨k + 1, by omega, by go_num, HK2, hbld⟩
          case measure => simp [intOf]; omega
        · have HN := Lib.hid (HNE.out hxy)
          obtain ⟨x0, x1, x2, x3, x4, x5, x6, x7, x8⟩ := x
          obtain ⟨y0, y1, y2, y3, y4, y5, y6, y7, y8⟩ := y
          rw [show (Bd.mk x0 x1 x2 x3 x4 x5 x6 x7 x8).val = .agg #[.int .i64 x0, .int .i64 x1, .int .i64 x2, .int .i64 x3, .int .i64 x4, .int .i64 x5, .int .i64 x6, .int .i64 x7, .int .i64 x8] from rfl, show (Bd.mk y0 y1 y2 y3 y4 y5 y6 y7 y8).val = .agg #[.int .i64 y0, .int .i64 y1, .int .i64 y2, .int .i64 y3, .int .i64 y4, .int .i64 y5, .int .i64 y6, .int .i64 y7, .int .i64 y8] from rfl]
          clear HR HR2 HNE HX HY
          rcases bd_diff hxy with hd | ⟨rfl, hd⟩ | ⟨rfl, rfl, hd⟩ | ⟨rfl, rfl, rfl, hd⟩ | ⟨rfl, rfl, rfl, rfl, hd⟩ | ⟨rfl, rfl, rfl, rfl, rfl, hd⟩ | ⟨rfl, rfl, rfl, rfl, rfl, rfl, hd⟩ | ⟨rfl, rfl, rfl, rfl, rfl, rfl, rfl, hd⟩ | ⟨rfl, rfl, rfl, rfl, rfl, rfl, rfl, rfl, hd⟩
          all_goals
            have hdb := beq_eq_false_iff_ne.2 hd
            clear hxy
            go_wp2_with fail
            go_ret
            exact ⟨ret_bool (by rw [HN.out]), hbld⟩
      · have HN := Lib.hid (sameBs_yes HL.out fun j hj => HK.out j (by omega))
        go_wp2_with fail
        go_ret
        exact ⟨ret_bool (by rw [HN.out]), hbl⟩
  · have HN := Lib.hid (sameBs_len hl)
    have hb' : ((la.length : Int) == (lb.length : Int)) = false := beq_eq_false_iff_ne.2 (by omega)
    go_enter Try.func98, Try.ntmps98
    go_wp2_with fail
    go_ret
    exact ⟨ret_bool (by rw [HN.out]), Below.refl _ _⟩
end Go.Proofs.Ytmamihkcikgmcaa
/- SameWorld: levels compared, the program's SameWorld. -/
namespace Go.Proofs.Ytmamihkcikgmcaa
open Go.RowKit

theorem toList_inj {a b : ByteArray} (h : a.toList = b.toList) : a = b := by
  rw [ByteArray.toList_eq, ByteArray.toList_eq] at h
  obtain ⟨⟨x⟩⟩ := a
  obtain ⟨⟨y⟩⟩ := b
  simp only at h
  subst h; rfl
theorem sameS_len {a b : List ByteArray} (h : a.length ≠ b.length) : sameS a b = false := decide_eq_false (fun e => h (by rw [e]))
theorem sameS_ne {a b : List ByteArray} {k : Nat} {h1 : k < a.length} {h2 : k < b.length} (h : a[k]'h1 ≠ b[k]'h2) : sameS a b = false := decide_eq_false (fun e => h (by subst e; rfl))
theorem sameS_yes {a b : List ByteArray} (hl : a.length = b.length) (h : ∀ j (h1 : j < a.length) (h2 : j < b.length), a[j]'h1 = b[j]'h2) : sameS a b = true := decide_eq_true (List.ext_getElem hl h)
set_option maxHeartbeats 800000 in
theorem slstrs_ret {va vb : Value} {la lb : List ByteArray} (w : World) (ha : At w 1 va la.length (la.map Value.string)) (hb : At w 1 vb lb.length (lb.map Value.string)) (hm : la.length ≤ 1099511627776) :
    Calls Try.prog 127 #[va, vb] w fun e w' => e = .returned (.bool (sameS la lb)) ∧ ∃ k, w' = w.drewN k := by
  obtain ⟨ao, cap, rfl, hca⟩ := ha.cellS
  obtain ⟨bo, cap2, rfl, hcb⟩ := hb.cellS
  by_cases hl : la.length = lb.length
  · have HL := Lib.hid hl
    rw [← hl]
    go_enter Try.func127, Try.ntmps127
    go_wp2
    go_loopw [13] (fun i wr => ∃ k : Nat, k ≤ la.length ∧ i = .int .i64 k ∧ Hid (∀ j (h1 : j < la.length) (h2 : j < lb.length), j < k → la[j]'h1 = lb[j]'h2) ∧ ∃ d, wr = w.drewN d) (fun i _ => la.length - (intOf i).toNat)
    case atStart => exact ⟨0, Nat.zero_le _, rfl, Lib.hid fun j _ _ h => by omega, 0, rfl⟩
    case round =>
      obtain ⟨k, hk, rfl, HE, d, rfl⟩ := hrel
      by_cases hlt : k < la.length
      · have hlt2 : k < lb.length := by have := HL.out; omega
        obtain ⟨g, off, rfl, hg, hcell⟩ := hca (by omega)
        obtain ⟨g2, off2, rfl, hg2, hcell2⟩ := hcb (by omega)
        clear hca hcb
        have c1 := hcell k hlt
        have c2 := hcell2 k hlt2
        clear hcell hcell2
        by_cases he : la[k]'hlt = lb[k]'hlt2
        · have HE' : Hid (∀ j (h1 : j < la.length) (h2 : j < lb.length), j < k + 1 → la[j]'h1 = lb[j]'h2) := Lib.hid fun j h1 h2 h3 => by
            by_cases e : j = k
            · subst e; exact he
            · exact HE.out j h1 h2 (by omega)
          rw [← he] at c2
          clear he hl
          go_wp2
          go_region
          go_wp2
          go_roundw
          case rel => exact ⟨k + 1, by omega, by go_num, HE', d + 1, rfl⟩
          case measure => simp [intOf]; omega
        · have HN := Lib.hid (sameS_ne he)
          have hb' : ((la[k]'hlt).toList == (lb[k]'hlt2).toList) = false := beq_eq_false_iff_ne.2 (fun e => he (toList_inj e))
          clear hl
          go_wp2
          go_region
          go_wp2
          go_ret
          exact ⟨ret_bool (by rw [HN.out]), d + 1, rfl⟩
      · have HN := Lib.hid (sameS_yes hl fun j h1 h2 => HE.out j h1 h2 (by omega))
        go_wp2
        go_ret
        exact ⟨ret_bool (by rw [HN.out]), d, rfl⟩
  · have HN := Lib.hid (sameS_len hl)
    have hb' : ((la.length : Int) == (lb.length : Int)) = false := beq_eq_false_iff_ne.2 (by omega)
    go_enter Try.func127, Try.ntmps127
    go_wp2
    go_ret
    exact ⟨ret_bool (by rw [HN.out]), 0, rfl⟩

theorem samelev_impl {u v : Value} {la lb : List ByteArray} (w : World) (ha : At w 1 u la.length (la.map Value.string)) (hb : At w 1 v lb.length (lb.map Value.string)) (hm : la.length ≤ 1048576) :
    Calls Try.prog 96 #[.agg #[u], .agg #[v]] w fun e w' => e = .returned (.bool (sameS la lb)) ∧ Below w.heap.size w w' := by
  have hu' := ha
  have hv' := hb
  obtain ⟨ao, cap, rfl, hc⟩ := ha.cellS
  obtain ⟨bo, cap2, rfl, hc2⟩ := hb.cellS
  clear hc hc2 ha hb
  have hbl : ∀ (A B : Obj), Below w.heap.size w ((w.alloc A).alloc B) := fun A B => ((Below.refl _ _).alloc (Nat.le_refl _) _).alloc (by simp) _
  go_enter Try.func96, Try.ntmps96
  go_wp2_with fail
  refine (slstrs_ret _ (hu'.below (hbl _ _)) (hv'.below (hbl _ _)) (by omega)).mono ?_
  rintro e w1 ⟨rfl, k, rfl⟩
  go_wp2_with fail
  go_ret
  exact ⟨rfl, below_drewN (hbl _ _) k⟩
theorem sameL_eq (a b : List Int) : sameL a b = decide (a = b) := by
  unfold sameL
  by_cases h : a = b
  · subst h; simp
  · rw [beq_eq_false_iff_ne.2 h, decide_eq_false h]
set_option maxRecDepth 100000 in
set_option maxHeartbeats 4000000 in
theorem sameworld_impl {u us ub v vs vb : Value} {X Y : Wd} (w : World) (h : WAt w u us ub X) (k : WAt w v vs vb Y) (hm : WSmall X) (hm2 : WSmall Y) :
    Calls Try.prog 40 #[.agg #[u, .int .i64 X.tick, .int .i64 X.seed, us, ub], .agg #[v, .int .i64 Y.tick, .int .i64 Y.seed, vs, vb]] w fun e w' => e = .returned (.bool (sameW X Y)) ∧ Below w.heap.size w w' := by
  obtain ⟨hr, hs, hb⟩ := h
  obtain ⟨kr, ks, kb⟩ := k
  have HW : Hid (sameW X Y = (sameS X.rows Y.rows && (decide (X.tick = Y.tick) && (decide (X.seed = Y.seed) && (sameL X.scores Y.scores && sameBs X.bodies Y.bodies))))) := Lib.hid (by rw [sameL_eq]; rfl)
  generalize sameW X Y = R at *
  obtain ⟨rows, tk, sd, sc, bs⟩ := X
  obtain ⟨rows2, tk2, sd2, sc2, bs2⟩ := Y
  obtain ⟨m0, _, m2, m3⟩ := hm
  obtain ⟨_, _, _, n3⟩ := hm2
  simp only at hr hs hb kr ks kb m0 m2 m3 n3 HW ⊢
  go_enter Try.func40, Try.ntmps40
  go_upto_region 1 with (fail)
  generalize hw1 : (w.alloc _).alloc _ = w1
  have hb1 : Below w.heap.size w w1 := by rw [← hw1]; exact ((Below.refl _ _).alloc (Nat.le_refl _) _).alloc (by simp) _
  have hA1 : WBlk w1 w.heap.size u tk sd us ub := by rw [← hw1]; exact (WBlk.new w _ u tk sd us ub).alloc _
  have hC1 : WBlk w1 (w.heap.size + 1) v tk2 sd2 vs vb := by
    rw [← hw1]
    have := WBlk.new (w.alloc (.cells #[u, .int .i64 tk, .int .i64 sd, us, ub] 36)) 36 v tk2 sd2 vs vb
    rwa [show (w.alloc (.cells #[u, .int .i64 tk, .int .i64 sd, us, ub] 36)).heap.size = w.heap.size + 1 by simp] at this
  clear hw1
  obtain ⟨_, c0, c1, c2, c3, c4, _⟩ := id hA1
  obtain ⟨_, d0, d1, d2, d3, d4, _⟩ := id hC1
  go_wp2_with fail
  refine (samelev_impl _ (hr.below hb1) (kr.below hb1) m0).mono ?_
  rintro e wa ⟨rfl, ha⟩
  have hb2 := hb1.trans (ha.mono hb1.size)
  have hA2 := hA1.below ha hA1.lt
  have hC2 := hC1.below ha hC1.lt
  clear ha hA1 hC1 hb1 c0 c1 c2 c3 c4 d0 d1 d2 d3 d4
  obtain ⟨_, c0, c1, c2, c3, c4, _⟩ := id hA2
  obtain ⟨_, d0, d1, d2, d3, d4, _⟩ := id hC2
  cases hss : sameS rows rows2 with
  | false =>
    have HN : Hid (R = false) := Lib.hid (by rw [HW.out, hss]; rfl)
    clear hss
    go_wp2_with fail
    go_ret
    exact ⟨by rw [HN.out]; rfl, hb2⟩
  | true =>
  have HSS := Lib.hid hss
  clear hss
  by_cases ht : ¬ tk = tk2
  · have HN : Hid (R = false) := Lib.hid (by rw [HW.out, decide_eq_false ht]; simp)
    have x1 : (tk == tk2) = false := beq_eq_false_iff_ne.2 ht
    go_wp2_with fail
    go_ret
    exact ⟨by rw [HN.out]; rfl, hb2⟩
  replace ht := Classical.not_not.1 ht
  subst ht
  by_cases hq : ¬ sd = sd2
  · have HN : Hid (R = false) := Lib.hid (by rw [HW.out, decide_eq_false hq]; simp)
    have x1 : (sd == sd2) = false := beq_eq_false_iff_ne.2 hq
    go_wp2_with fail
    go_ret
    exact ⟨by rw [HN.out]; rfl, hb2⟩
  replace hq := Classical.not_not.1 hq
  subst hq
  go_wp2_with fail
  refine (slequal_ret _ (hs.below hb2) (ks.below hb2) (by omega)).mono ?_
  rintro e wb ⟨rfl, n, hwb⟩
  have hb3 : Below w.heap.size w wb := by rw [hwb]; exact below_drewN hb2 n
  have hA3 : WBlk wb w.heap.size u tk sd us ub := by rw [hwb]; exact hA2.drewN n
  have hC3 : WBlk wb (w.heap.size + 1) v tk sd vs vb := by rw [hwb]; exact hC2.drewN n
  clear hwb hA2 hC2 hb2 c0 c1 c2 c3 c4 d0 d1 d2 d3 d4
  obtain ⟨_, c0, c1, c2, c3, c4, _⟩ := id hA3
  obtain ⟨_, d0, d1, d2, d3, d4, _⟩ := id hC3
  cases hsl : sameL sc sc2 with
  | false =>
    have HN : Hid (R = false) := Lib.hid (by rw [HW.out, hsl]; simp)
    clear hsl
    go_wp2_with fail
    go_ret
    exact ⟨by rw [HN.out]; rfl, hb3⟩
  | true =>
  have HN : Hid (R = sameBs bs bs2) := Lib.hid (by rw [HW.out, hsl, HSS.out]; simp)
  clear hsl
  go_wp2_with fail
  refine (slbods_ret _ (hb.below hb3) (kb.below hb3) m3 n3).mono ?_
  rintro e wc ⟨rfl, hc⟩
  go_wp2_with fail
  go_ret
  exact ⟨by rw [HN.out]; rfl, hb3.trans (hc.mono hb3.size)⟩
end Go.Proofs.Ytmamihkcikgmcaa
/- WorldSum, the program's and the reference's. -/
namespace Go.Proofs.Ytmamihkcikgmcaa
open Go.RowKit

def sumW (X : Wd) : Int := cksum (bytesW X)
theorem bytesW_size (X : Wd) : (bytesW X).size ≤ 10000 := by
  unfold bytesW
  by_cases h : okW X = true
  · rw [if_pos h]
    obtain ⟨h1, h2⟩ := okW_sizes h
    unfold packI pkI
    by_cases h3 : okS (listW X) = true
    · rw [if_pos h3]
      have a1 := encV_len ((listW X).length : Nat)
      have a2 := encsL_len (listW X)
      have a3 := listW_len X
      show (List.toArray _).size ≤ _
      rw [List.size_toArray, List.length_append]
      omega
    · rw [if_neg h3]
      show (0 : Nat) ≤ _
      omega
  · rw [if_neg h]
    show (0 : Nat) ≤ _
    omega
set_option maxHeartbeats 1000000 in
theorem wsum_impl {u us ub : Value} {X : Wd} (w : World) (h : WAt w u us ub X) (hm : WSmall X) (hw : ∀ b ∈ X.bodies, BWf b) :
    Calls Try.prog 41 #[.agg #[u, .int .i64 X.tick, .int .i64 X.seed, us, ub]] w fun e w' => e = .returned (.int .i64 (sumW X)) ∧ Below w.heap.size w w' := by
  have HB : ∀ wx, Below w.heap.size w wx → Calls Try.prog 39 #[.agg #[u, .int .i64 X.tick, .int .i64 X.seed, us, ub]] wx fun e w' => e = .returned (.string (bytesW X)) ∧ Below wx.heap.size wx w' := fun wx hx => wbytes_impl wx (h.below hx) hm hw
  have hz := bytesW_size X
  have HE : Hid (sumW X = cksum (bytesW X)) := Lib.hid rfl
  generalize bytesW X = WB at *
  clear h
  go_enter Try.func41, Try.ntmps41
  go_upto_region 1 with (fail)
  generalize hw1 : w.alloc _ = w1
  have hb1 : Below w.heap.size w w1 := by rw [← hw1]; exact (Below.refl _ _).alloc (Nat.le_refl _) _
  have hA1 : WBlk w1 w.heap.size u X.tick X.seed us ub := by rw [← hw1]; exact WBlk.new w _ u X.tick X.seed us ub
  clear hw1
  go_wp2_with (with_reducible refine load_wld (op := ⟨some 3, _, _, _, _, _⟩) rfl _ rfl w.heap.size rfl u X.tick X.seed us ub hA1.range ?_)
  refine (HB _ hb1).mono ?_
  rintro e wa ⟨rfl, ha⟩
  have hba := hb1.trans (ha.mono hb1.size)
  go_wp2_with fail
  refine (ck_impl _ _ (by unfold maxLen; omega)).mono ?_
  rintro e wx ⟨rfl, rfl⟩
  go_wp2_with fail
  go_ret
  exact ⟨ret_int (by rw [HE.out]), hba⟩
end Go.Proofs.Ytmamihkcikgmcaa
/- For FnWorldWhole: slices of rows, calls under a guard, plain lemmas. -/
namespace Go.Proofs.Ytmamihkcikgmcaa
open Go.RowKit

theorem lAt_sub {L : List (List Int)} {lo n k : Nat} (h : k < n) : lAt ((L.drop lo).take n) k = lAt L (lo + k) := by unfold lAt List.getD; rw [List.getElem?_take, if_pos h, List.getElem?_drop]
theorem vAt_sub {us : List Value} {lo n k : Nat} (h : k < n) : vAt ((us.drop lo).take n) k = vAt us (lo + k) := by unfold vAt List.getD; rw [List.getElem?_take, if_pos h, List.getElem?_drop]
/-- a slice of rows -/
theorem AtSS.sub {w : World} {ao : Option Addr} {n cap lo hi : Nat} {us : List Value} {L : List (List Int)} (h : AtSS w (.slice ao n cap) us L) (h1 : lo ≤ hi) (h2 : hi ≤ L.length) :
    AtSS w (sliced ao lo hi cap 1) ((us.drop lo).take (hi - lo)) ((L.drop lo).take (hi - lo)) := by
  have hn := h.n
  obtain ⟨_, ao', cap', he, hnc, hm, hc⟩ := h.o
  simp only [Value.slice.injEq] at he
  obtain ⟨rfl, rfl, rfl⟩ := he
  have hl1 : ((us.drop lo).take (hi - lo)).length = hi - lo := by rw [List.length_take, List.length_drop]; omega
  have hl2 : ((L.drop lo).take (hi - lo)).length = hi - lo := by rw [List.length_take, List.length_drop]; omega
  refine ⟨⟨by simp, _, _, by rw [hl1]; rfl, by rw [hl1]; omega, by omega, fun h0 => ?_⟩, by rw [hl1, hl2], fun k hk => ?_⟩
  · obtain ⟨g, off, rfl, hg, hcell⟩ := hc (by omega)
    refine ⟨g, off + lo, by rw [if_neg (by omega)]; simp [addr_add1], hg, fun j hj => ?_⟩
    rw [hl1] at hj
    have := hcell (lo + j) (by omega)
    rw [Nat.add_assoc, this, List.getElem?_take, if_pos (by omega), List.getElem?_drop]
  · rw [hl2] at hk
    rw [lAt_sub hk, vAt_sub hk]
    exact h.r _ (by omega)
section
variable {P : Program} {ops : Array Oper} {rest : List Oper} {o : Oper} {a : Act} {w : World} {Q : Exit → Act → World → Prop}
theorem wpList_wanted (hw : Region.wanted o (yielded ops a.tmps) = true) (h : ∀ K : Act → World → Prop, (∀ a w, wpList P ops Q rest a w → K a w) → o.wp P a w K Q) : wpList P ops Q (o :: rest) a w :=
  wpList_step fun K hK => by simp only [hw, if_true]; exact h K hK
theorem wpList_callG {R : Ending → World → Prop} (hw : Region.wanted o (yielded ops a.tmps) = true) (f : FuncId) (xs : Array Operand) (ts : Array TypeId) (ho : o.op = .call { callee := .value (.func f), args := xs, argTypes := ts }) {fn : Func} (hf : P.funcs[f]? = some fn)
    (hn : (fn.name == "runtime.NumGoroutine") = false) (hb : fn.body.isNone = false) (args : Array Value) (hx : xs.map a.eval = args)
    (hc : Calls P f args w R) (h : ∀ e w', R e w' → ∃ v, e = .returned v ∧ wpList P ops Q rest (a.put o.dst v) w') : wpList P ops Q (o :: rest) a w := by
  refine wpList_wanted hw fun K hK => ?_
  unfold Oper.wp
  have e1 : execOp a.eval o = callFunc f args := by
    obtain ⟨d, op, ty, pos, after, g⟩ := o
    simp only at ho
    subst ho
    rw [execOp_call_go, hx]
    simp
  rw [e1, run_callFunc_go hf hn hb, Oper.upon_enter]
  refine hc.mono fun e w' he => ?_
  obtain ⟨v, rfl, hv⟩ := h e w' he
  exact hK _ _ hv
end
section
variable {o : Oper} {a : Act} {w : World}
theorem elem_ss : Try.prog.elem 37 = 33 := by kernel_rfl
theorem und_ss : Try.prog.underlying 37 = some (.slice (Try.prog.elem 37)) := by rw [elem_ss]; exact Try.underlying37
theorem run_sizeInts (w : World) : (sizeOf 33).run Try.prog w = .ok 1 w := by
  obtain ⟨i, hi, hs⟩ := Option.map_eq_some_iff.1 size_ints
  simp [sizeOf, typeInfo, hi, hs]
/-- 'rows[:hi]' -/
theorem still_ss_h (x z : Operand) (ho : o.op = .slice 37 x none (some z) none) {ao : Option Addr} {n cap hi : Nat} {q : Int} (hx : a.eval x = .slice ao n cap) (hz : a.eval z = .int .i64 q) (hq : q = (hi : Int)) (h2 : hi ≤ cap) :
    (execOp a.eval o).run Try.prog w = .ok (.value (sliced ao 0 hi cap 1)) w := by
  subst hq
  unfold execOp
  simp only [ho, hx, hz, Option.map_some, Option.map_none, run_sliceAt_slice w _ _ _ _ _ und_ss, run_slice_h w 37 ao n cap und_ss .i64 (hi : Int) (by omega) (by omega), elem_ss, run_sizeInts, Result.andThen_ok, Int.toNat_natCast, Sem.run_bind, Sem.run_pure]
/-- 'rows[lo:]' -/
theorem still_ss_l (x y : Operand) (ho : o.op = .slice 37 x (some y) none none) {ao : Option Addr} {n cap lo : Nat} {p : Int} (hx : a.eval x = .slice ao n cap) (hy : a.eval y = .int .i64 p) (hp : p = (lo : Int)) (h1 : lo ≤ n) :
    (execOp a.eval o).run Try.prog w = .ok (.value (sliced ao lo n cap 1)) w := by
  subst hp
  unfold execOp
  simp only [ho, hx, hy, Option.map_some, Option.map_none, run_sliceAt_slice w _ _ _ _ _ und_ss, run_slice_l w 37 ao n cap und_ss .i64 (lo : Int) (by omega) (by omega), elem_ss, run_sizeInts, Result.andThen_ok, Int.toNat_natCast, Sem.run_bind, Sem.run_pure]
end
theorem run_split (X : Wd) (L : List (List Int)) (k : Nat) : runT (runT X (L.take k)) (L.drop k) = runT X L := by
  unfold runT
  rw [← List.foldl_append, List.take_append_drop]
theorem run_tick : ∀ (L : List (List Int)) {X : Wd}, WOk X → (∀ q ∈ L, rowOk q X.scores.length = true) → X.tick + (L.length : Int) ≤ 99999 → (runT X L).tick = X.tick + (L.length : Int)
  | [], _, _, _, _ => by simp [runT]
  | q :: L, X, h, hr, ht => by
    have h1 := stepT_ok (row := q) h
    rw [List.length_cons] at ht ⊢
    have e : stepT X q = stepU X q := if_pos ⟨ok_okW h, by omega, hr q (List.mem_cons_self ..)⟩
    have e2 : (stepT X q).tick = X.tick + 1 := by rw [e]; exact (stepU_sc X q).2.2
    have ih := run_tick L h1.1 (fun p hp => by rw [h1.2.1]; exact hr p (List.mem_cons_of_mem _ hp)) (by rw [e2]; omega)
    show (runT (stepT X q) L).tick = _
    rw [ih, e2]
    omega
end Go.Proofs.Ytmamihkcikgmcaa
