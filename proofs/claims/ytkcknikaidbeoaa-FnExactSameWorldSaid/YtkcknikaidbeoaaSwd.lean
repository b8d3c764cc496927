/- SameWorld, the program's and the reference's. -/
import Derived.Test.YtkcknikaidbeoaaWos
import Derived.Test.YtkcknikaidbeoaaWbLaw
import Derived.Test.YtkcknikaidbeoaaEqL
namespace Go.Proofs.Ytkcknikaidbeoaa
open Go.RowKit

theorem sameBs_len {a b : List Bd} (h : a.length ≠ b.length) : sameBs a b = false := decide_eq_false (fun e => h (by rw [e]))
theorem sameBs_ne {a b : List Bd} {k : Nat} (h : bAt a k ≠ bAt b k) : sameBs a b = false := decide_eq_false (fun e => h (by subst e; rfl))
theorem sameBs_yes {a b : List Bd} (hl : a.length = b.length) (h : ∀ j, j < a.length → bAt a j = bAt b j) : sameBs a b = true := decide_eq_true (List.ext_getElem hl fun j h1 h2 => by have := h j h1; rwa [bAt_eq h1, bAt_eq h2] at this)
theorem bd_diff {x0 x1 x2 x3 x4 x5 x6 x7 x8 y0 y1 y2 y3 y4 y5 y6 y7 y8 : Int} (h : (⟨x0, x1, x2, x3, x4, x5, x6, x7, x8⟩ : Bd) ≠ ⟨y0, y1, y2, y3, y4, y5, y6, y7, y8⟩) :
    x0 ≠ y0 ∨ (x0 = y0 ∧ x1 ≠ y1) ∨ (x0 = y0 ∧ x1 = y1 ∧ x2 ≠ y2) ∨ (x0 = y0 ∧ x1 = y1 ∧ x2 = y2 ∧ x3 ≠ y3) ∨ (x0 = y0 ∧ x1 = y1 ∧ x2 = y2 ∧ x3 = y3 ∧ x4 ≠ y4) ∨ (x0 = y0 ∧ x1 = y1 ∧ x2 = y2 ∧ x3 = y3 ∧ x4 = y4 ∧ x5 ≠ y5) ∨ (x0 = y0 ∧ x1 = y1 ∧ x2 = y2 ∧ x3 = y3 ∧ x4 = y4 ∧ x5 = y5 ∧ x6 ≠ y6) ∨ (x0 = y0 ∧ x1 = y1 ∧ x2 = y2 ∧ x3 = y3 ∧ x4 = y4 ∧ x5 = y5 ∧ x6 = y6 ∧ x7 ≠ y7) ∨ (x0 = y0 ∧ x1 = y1 ∧ x2 = y2 ∧ x3 = y3 ∧ x4 = y4 ∧ x5 = y5 ∧ x6 = y6 ∧ x7 = y7 ∧ x8 ≠ y8) := by
  by_cases e0 : x0 = y0
  · by_cases e1 : x1 = y1
    · by_cases e2 : x2 = y2
      · by_cases e3 : x3 = y3
        · by_cases e4 : x4 = y4
          · by_cases e5 : x5 = y5
            · by_cases e6 : x6 = y6
              · by_cases e7 : x7 = y7
                · refine .inr (.inr (.inr (.inr (.inr (.inr (.inr (.inr ⟨e0, e1, e2, e3, e4, e5, e6, e7, fun e8 => h ?_⟩)))))))
                  subst e0; subst e1; subst e2; subst e3; subst e4; subst e5; subst e6; subst e7; subst e8; rfl
                · exact .inr (.inr (.inr (.inr (.inr (.inr (.inr (.inl ⟨e0, e1, e2, e3, e4, e5, e6, e7⟩)))))))
              · exact .inr (.inr (.inr (.inr (.inr (.inr (.inl ⟨e0, e1, e2, e3, e4, e5, e6⟩))))))
            · exact .inr (.inr (.inr (.inr (.inr (.inl ⟨e0, e1, e2, e3, e4, e5⟩)))))
          · exact .inr (.inr (.inr (.inr (.inl ⟨e0, e1, e2, e3, e4⟩))))
        · exact .inr (.inr (.inr (.inl ⟨e0, e1, e2, e3⟩)))
      · exact .inr (.inr (.inl ⟨e0, e1, e2⟩))
    · exact .inr (.inl ⟨e0, e1⟩)
  · exact .inl e0
set_option maxRecDepth 100000 in
set_option maxHeartbeats 4000000 in
theorem slbods_ret {va vb : Value} {la lb : List Bd} (w : World) (ha : At w 9 va la.length (cellsB la)) (hb : At w 9 vb lb.length (cellsB lb)) (hm : la.length ≤ 1048576) (_ : lb.length ≤ 1048576) :
    Calls Try.prog 99 #[va, vb] w fun e w' => e = .returned (.bool (sameBs la lb)) ∧ Below w.heap.size w w' := by
  have ha0 := ha
  have hb0 := hb
  obtain ⟨ao, cap, rfl, hca⟩ := ha.cellB
  obtain ⟨bo, cap2, rfl, hcb⟩ := hb.cellB
  by_cases hl : la.length = lb.length
  · have HL := Lib.hid hl
    rw [← hl] at hb0 hb ⊢
    clear hl ha hb
    go_enter Try.func99, Try.ntmps99
    go_wp2_with fail
    go_loopw [13] (fun i wr => ∃ k : Nat, k ≤ la.length ∧ i = .int .i64 k ∧ Hid (∀ j, j < k → bAt la j = bAt lb j) ∧ Below w.heap.size w wr) (fun i _ => la.length - (intOf i).toNat)
    case atStart => exact ⟨0, Nat.zero_le _, rfl, Lib.hid fun _ h => absurd h (Nat.not_lt_zero _), Below.refl _ _⟩
    case round =>
      obtain ⟨k, hk, rfl, HK, hbl⟩ := hrel
      by_cases hlt : k < la.length
      · obtain ⟨g, off, rfl, hg, _⟩ := hca (by omega)
        obtain ⟨g2, off2, rfl, hg2, hcell2⟩ := hcb (by have := HL.out; omega)
        have HR := ((ha0.elem hlt).below hbl.drew hg).range
        have HR2 := (Elem.below (elem_mk (g := g2) (off := off2) (k := k) (b := bAt lb k) fun j hj => hcell2 k j (by have := HL.out; omega) hj) hbl.drew hg2).range
        have HNE := Lib.hid (sameBs_ne (a := la) (b := lb) (k := k))
        have hbld := hbl.drew
        obtain ⟨x, hx⟩ : ∃ x, bAt la k = x := ⟨_, rfl⟩
        obtain ⟨y, hy⟩ : ∃ x, bAt lb k = x := ⟨_, rfl⟩
        rw [hx] at HR HNE
        rw [hy] at HR2 HNE
        have HX := Lib.hid hx
        have HY := Lib.hid hy
        clear hca hcb hcell2 hx hy ha0
        go_wp2_with fail
        refine wp_region_tailV 8 (by kernel_rfl) (by kernel_rfl) ?_
        intro OPS HOPS
        simp only [List.take_succ_cons, List.take_zero, List.drop_succ_cons, List.drop_zero]
        still_step
        still_step
        still_step
        refine still_bodS (op := ⟨some 19, _, _, _, _, _⟩) rfl _ rfl g (off + k * 9) rfl x HR ?_
        simp only [Act.put, List.setIfInBounds_toArray, List.set_cons_zero, List.set_cons_succ]
        still_step
        still_step
        still_step
        refine still_bodS (op := ⟨some 23, _, _, _, _, _⟩) rfl _ rfl g2 (off2 + k * 9) rfl y HR2 ?_
        simp only [Act.put, List.setIfInBounds_toArray, List.set_cons_zero, List.set_cons_succ]
        refine wpStill_nil ?_
        change wpList _ _ _ _ _ wr.drew
        by_cases hxy : x = y
        · subst hxy
          obtain ⟨x0, x1, x2, x3, x4, x5, x6, x7, x8⟩ := x
          rw [show (Bd.mk x0 x1 x2 x3 x4 x5 x6 x7 x8).val = .agg #[.int .i64 x0, .int .i64 x1, .int .i64 x2, .int .i64 x3, .int .i64 x4, .int .i64 x5, .int .i64 x6, .int .i64 x7, .int .i64 x8] from rfl]
          have HK2 : Hid (∀ j, j < k + 1 → bAt la j = bAt lb j) := Lib.hid fun j hj => by
            by_cases e : j = k
            · subst e; exact HX.out.trans HY.out.symm
            · exact HK.out j (by omega)
          clear HR HR2 HNE HX HY
          go_wp2_with fail
          go_roundw
          case rel => exact ⟨k + 1, by omega, by go_num, HK2, hbld⟩
          case measure => simp [intOf]; omega
        · have HN := Lib.hid (HNE.out hxy)
          obtain ⟨x0, x1, x2, x3, x4, x5, x6, x7, x8⟩ := x
          obtain ⟨y0, y1, y2, y3, y4, y5, y6, y7, y8⟩ := y
          rw [show (Bd.mk x0 x1 x2 x3 x4 x5 x6 x7 x8).val = .agg #[.int .i64 x0, .int .i64 x1, .int .i64 x2, .int .i64 x3, .int .i64 x4, .int .i64 x5, .int .i64 x6, .int .i64 x7, .int .i64 x8] from rfl, show (Bd.mk y0 y1 y2 y3 y4 y5 y6 y7 y8).val = .agg #[.int .i64 y0, .int .i64 y1, .int .i64 y2, .int .i64 y3, .int .i64 y4, .int .i64 y5, .int .i64 y6, .int .i64 y7, .int .i64 y8] from rfl]
          clear HR HR2 HNE HX HY
          rcases bd_diff hxy with hd | ⟨rfl, hd⟩ | ⟨rfl, rfl, hd⟩ | ⟨rfl, rfl, rfl, hd⟩ | ⟨rfl, rfl, rfl, rfl, hd⟩ | ⟨rfl, rfl, rfl, rfl, rfl, hd⟩ | ⟨rfl, rfl, rfl, rfl, rfl, rfl, hd⟩ | ⟨rfl, rfl, rfl, rfl, rfl, rfl, rfl, hd⟩ | ⟨rfl, rfl, rfl, rfl, rfl, rfl, rfl, rfl, hd⟩
          all_goals
            have hdb := beq_eq_false_iff_ne.2 hd
            clear hxy
            go_wp2_with fail
            go_ret
            exact ⟨ret_bool (by rw [HN.out]), hbld⟩
      · have HN := Lib.hid (sameBs_yes HL.out fun j hj => HK.out j (by omega))
        go_wp2_with fail
        go_ret
        exact ⟨ret_bool (by rw [HN.out]), hbl⟩
  · have HN := Lib.hid (sameBs_len hl)
    have hb' : ((la.length : Int) == (lb.length : Int)) = false := beq_eq_false_iff_ne.2 (by omega)
    go_enter Try.func99, Try.ntmps99
    go_wp2_with fail
    go_ret
    exact ⟨ret_bool (by rw [HN.out]), Below.refl _ _⟩
end Go.Proofs.Ytkcknikaidbeoaa
