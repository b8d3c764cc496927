/- For every input the law FnExactBodiesMeet returns true and leaves what was in memory as it was. No condition. -/
import Derived.Test.YtgkfldogjhegjaaMee
import Derived.Deep.RegionWith
import Derived.Test.YtgkfldogjhegjaaFrame
import Derived.Test.YtgkfldogjhegjaaOrd
namespace Go.Proofs.Ytgkfldogjhegjaa.fnExactBodiesMeet
open Go.ChangeShapes Go.WideShapes Go.ChangeAt Go.RowKit
open Go.ChangeMaps (open_string shut_string)
set_option linter.unusedVariables false

theorem two_cells {w wx : World} {k0 k1 k2 k3 k4 k5 k6 k7 k8 j0 j1 j2 j3 j4 j5 j6 j7 j8 : Int} {t : TypeId}
    (h : Below ((w.alloc (.cells #[.int .i64 k0, .int .i64 k1, .int .i64 k2, .int .i64 k3, .int .i64 k4, .int .i64 k5, .int .i64 k6, .int .i64 k7, .int .i64 k8] t)).alloc (.cells #[.int .i64 j0, .int .i64 j1, .int .i64 j2, .int .i64 j3, .int .i64 j4, .int .i64 j5, .int .i64 j6, .int .i64 j7, .int .i64 j8] t)).heap.size ((w.alloc (.cells #[.int .i64 k0, .int .i64 k1, .int .i64 k2, .int .i64 k3, .int .i64 k4, .int .i64 k5, .int .i64 k6, .int .i64 k7, .int .i64 k8] t)).alloc (.cells #[.int .i64 j0, .int .i64 j1, .int .i64 j2, .int .i64 j3, .int .i64 j4, .int .i64 j5, .int .i64 j6, .int .i64 j7, .int .i64 j8] t)) wx) :
    (wx.cell? ⟨w.heap.size, 0, none⟩ = some (.int .i64 k0) ∧ wx.cell? ⟨w.heap.size, 1, none⟩ = some (.int .i64 k1) ∧ wx.cell? ⟨w.heap.size, 2, none⟩ = some (.int .i64 k2) ∧ wx.cell? ⟨w.heap.size, 3, none⟩ = some (.int .i64 k3) ∧ wx.cell? ⟨w.heap.size, 4, none⟩ = some (.int .i64 k4) ∧ wx.cell? ⟨w.heap.size, 5, none⟩ = some (.int .i64 k5) ∧ wx.cell? ⟨w.heap.size, 6, none⟩ = some (.int .i64 k6) ∧ wx.cell? ⟨w.heap.size, 7, none⟩ = some (.int .i64 k7) ∧ wx.cell? ⟨w.heap.size, 8, none⟩ = some (.int .i64 k8) ∧ wx.cell? ⟨w.heap.size + 1, 0, none⟩ = some (.int .i64 j0) ∧ wx.cell? ⟨w.heap.size + 1, 1, none⟩ = some (.int .i64 j1) ∧ wx.cell? ⟨w.heap.size + 1, 2, none⟩ = some (.int .i64 j2) ∧ wx.cell? ⟨w.heap.size + 1, 3, none⟩ = some (.int .i64 j3) ∧ wx.cell? ⟨w.heap.size + 1, 4, none⟩ = some (.int .i64 j4) ∧ wx.cell? ⟨w.heap.size + 1, 5, none⟩ = some (.int .i64 j5) ∧ wx.cell? ⟨w.heap.size + 1, 6, none⟩ = some (.int .i64 j6) ∧ wx.cell? ⟨w.heap.size + 1, 7, none⟩ = some (.int .i64 j7) ∧ wx.cell? ⟨w.heap.size + 1, 8, none⟩ = some (.int .i64 j8)) := by
  have eA : ∀ i, ((w.alloc (.cells #[.int .i64 k0, .int .i64 k1, .int .i64 k2, .int .i64 k3, .int .i64 k4, .int .i64 k5, .int .i64 k6, .int .i64 k7, .int .i64 k8] t)).alloc (.cells #[.int .i64 j0, .int .i64 j1, .int .i64 j2, .int .i64 j3, .int .i64 j4, .int .i64 j5, .int .i64 j6, .int .i64 j7, .int .i64 j8] t)).cell? ⟨w.heap.size, i, none⟩ = #[Value.int .i64 k0, .int .i64 k1, .int .i64 k2, .int .i64 k3, .int .i64 k4, .int .i64 k5, .int .i64 k6, .int .i64 k7, .int .i64 k8][i]? := fun i => (World.cell?_of_block (Below.heap_alloc _ _ w.heap.size (by simp))).trans (World.cell?_alloc_new w _ _ i)
  have eB : ∀ i, ((w.alloc (.cells #[.int .i64 k0, .int .i64 k1, .int .i64 k2, .int .i64 k3, .int .i64 k4, .int .i64 k5, .int .i64 k6, .int .i64 k7, .int .i64 k8] t)).alloc (.cells #[.int .i64 j0, .int .i64 j1, .int .i64 j2, .int .i64 j3, .int .i64 j4, .int .i64 j5, .int .i64 j6, .int .i64 j7, .int .i64 j8] t)).cell? ⟨w.heap.size + 1, i, none⟩ = #[Value.int .i64 j0, .int .i64 j1, .int .i64 j2, .int .i64 j3, .int .i64 j4, .int .i64 j5, .int .i64 j6, .int .i64 j7, .int .i64 j8][i]? := fun i => by
    have e : w.heap.size + 1 = (w.alloc (.cells #[.int .i64 k0, .int .i64 k1, .int .i64 k2, .int .i64 k3, .int .i64 k4, .int .i64 k5, .int .i64 k6, .int .i64 k7, .int .i64 k8] t)).heap.size := by simp
    rw [e]
    exact World.cell?_alloc_new _ _ _ i
  exact ⟨(h.cell (by simp; omega)).trans (eA 0), (h.cell (by simp; omega)).trans (eA 1), (h.cell (by simp; omega)).trans (eA 2), (h.cell (by simp; omega)).trans (eA 3), (h.cell (by simp; omega)).trans (eA 4), (h.cell (by simp; omega)).trans (eA 5), (h.cell (by simp; omega)).trans (eA 6), (h.cell (by simp; omega)).trans (eA 7), (h.cell (by simp; omega)).trans (eA 8), (h.cell (by simp)).trans (eB 0), (h.cell (by simp)).trans (eB 1), (h.cell (by simp)).trans (eB 2), (h.cell (by simp)).trans (eB 3), (h.cell (by simp)).trans (eB 4), (h.cell (by simp)).trans (eB 5), (h.cell (by simp)).trans (eB 6), (h.cell (by simp)).trans (eB 7), (h.cell (by simp)).trans (eB 8)⟩
set_option maxHeartbeats 8000000 in
theorem walk (w : World) (a0 : Value) (w0 : Arg_body w a0) (a1 : Value) (w1 : Arg_body w a1) :
    Calls Try.prog 4 #[a0, a1] w fun e w' => e = .returned (.bool true) ∧ Below w.heap.size w w' := by
  obtain ⟨k0, k1, k2, k3, k4, k5, k6, k7, k8, rfl⟩ := w0
  obtain ⟨j0, j1, j2, j3, j4, j5, j6, j7, j8, rfl⟩ := w1
  unfold bod
  go_enter Try.func4, Try.ntmps4
  go_wp2_with fail
  have H := (Below.refl ((w.alloc (.cells #[.int .i64 k0, .int .i64 k1, .int .i64 k2, .int .i64 k3, .int .i64 k4, .int .i64 k5, .int .i64 k6, .int .i64 k7, .int .i64 k8] 25)).alloc (.cells #[.int .i64 j0, .int .i64 j1, .int .i64 j2, .int .i64 j3, .int .i64 j4, .int .i64 j5, .int .i64 j6, .int .i64 j7, .int .i64 j8] 25)).heap.size ((w.alloc (.cells #[.int .i64 k0, .int .i64 k1, .int .i64 k2, .int .i64 k3, .int .i64 k4, .int .i64 k5, .int .i64 k6, .int .i64 k7, .int .i64 k8] 25)).alloc (.cells #[.int .i64 j0, .int .i64 j1, .int .i64 j2, .int .i64 j3, .int .i64 j4, .int .i64 j5, .int .i64 j6, .int .i64 j7, .int .i64 j8] 25))).drew
  obtain ⟨a0, a1, a2, a3, a4, a5, a6, a7, a8, b0, b1, b2, b3, b4, b5, b6, b7, b8⟩ := two_cells H
  go_region_with (first | (go_at_call 30; refine (tobody_ret _ _ _ _ _ _ _ _ _ _).mono ?_; rintro e wx ⟨rfl, hx⟩; replace H := H.trans (hx.mono H.size); obtain ⟨a0, a1, a2, a3, a4, a5, a6, a7, a8, b0, b1, b2, b3, b4, b5, b6, b7, b8⟩ := two_cells H) | (go_at_call 29; refine (meet_spec _ _ _ _ _ _ _ _ _ _ _ _ _ _ _ _ _ _ _).mono ?_; rintro e wx ⟨rfl, hx⟩; replace H := H.trans (hx.mono H.size); obtain ⟨a0, a1, a2, a3, a4, a5, a6, a7, a8, b0, b1, b2, b3, b4, b5, b6, b7, b8⟩ := two_cells H))
  all_goals
    go_wp2_with fail
    replace H := H.drew
    obtain ⟨a0, a1, a2, a3, a4, a5, a6, a7, a8, b0, b1, b2, b3, b4, b5, b6, b7, b8⟩ := two_cells H
    go_region_with (first | (go_at_call 30; refine (tobody_ret _ _ _ _ _ _ _ _ _ _).mono ?_; rintro e wx ⟨rfl, hx⟩; replace H := H.trans (hx.mono H.size); obtain ⟨a0, a1, a2, a3, a4, a5, a6, a7, a8, b0, b1, b2, b3, b4, b5, b6, b7, b8⟩ := two_cells H) | (go_at_call 31; refine (meet_impl _ _ _ _ _ _ _ _ _ _ _ _ _ _ _ _ _ _ _).mono ?_; rintro e wx ⟨rfl, hx⟩; replace H := H.trans (hx.mono H.size); obtain ⟨a0, a1, a2, a3, a4, a5, a6, a7, a8, b0, b1, b2, b3, b4, b5, b6, b7, b8⟩ := two_cells H))
  all_goals
    go_wp2_with fail
    go_ret
    exact ⟨rfl, (((Below.refl _ _).alloc (Nat.le_refl _) _).alloc (by simp) _).trans (H.mono (by simp; omega))⟩

set_option maxRecDepth 100000 in
theorem lifted (os : Os) (started : os.Started) (H : Type) (enc : TypeId × Value → H) :
    ReturnsInHanded {} Try.checked os 4 .any (Rows.fnExactBodiesMeetSpec.pre6 enc Try.prog Try.f4 Rows.fnExactBodiesMeetRow.domain false) (Rows.fnExactBodiesMeetSpec.post enc Try.prog Try.f4 false true false false) := by
  refine returnsInHanded_of_change (C := Try.checked) own_ started (by kernel_rfl) Try.func4
    (ChangeSpec.witness6 (enc := enc) (C := Try.checked) false ⟨#[], #[.agg #[.int .i64 0, .int .i64 0, .int .i64 0, .int .i64 0, .int .i64 0, .int .i64 0, .int .i64 0, .int .i64 0, .int .i64 0], .agg #[.int .i64 0, .int .i64 0, .int .i64 0, .int .i64 0, .int .i64 0, .int .i64 0, .int .i64 0, .int .i64 0, .int .i64 0]], []⟩ 8 (by kernel_rfl) (by kernel_rfl) (by kernel_rfl) (by kernel_rfl)) ?_
  intro W base args ds gs before hval0 hW hcnd _
  have hval : ∀ (j : Nat) t v, Try.f4.params[j]? = some t → args[j]? = some v → Value.okWide Try.prog W .any base t v := hval0
  have hW' := hW
  obtain ⟨p, q, hA0, hV, rfl, hfz, hnd⟩ := hW
  have hA : DataW.TrodAll enc Try.prog W 0 (fun _ => true) true Try.f4.params.toList args.toList ds p := hA0
  rw [Try.params4] at hA hval
  obtain ⟨v0, vs0, d0, ds0, p0, q0, hargs, rfl, rfl, h0, r0⟩ := trodAll_cons hA
  obtain ⟨v1, vs1, d1, ds1, p1, q1, rfl, rfl, rfl, h1, r1⟩ := trodAll_cons r0
  obtain ⟨rfl, rfl, rfl⟩ := trodAll_nil r1
  obtain rfl : args = #[v0, v1] := by cases args; simp_all
  have w0 := open_body (hval 0 25 v0 rfl rfl) h0
  have w1 := open_body (hval 1 25 v1 rfl rfl) h1
  refine (walk W v0 w0 v1 w1).mono fun e W' ⟨he, hb⟩ => ?_
  subst he
  exact ⟨_, rfl, law_post laidOut (by kernel_rfl) rfl rfl Try.underlying4 (fun gs' h => by subst h; rfl) hW' hb⟩

theorem closed_ : joinedFacts Try.prog 4 Try.f4 Rows.fnExactBodiesMeetSpec Rows.fnExactBodiesMeetRow = true := by
  unfold joinedFacts
  rw [mayEnter_, liftsFinal_, make_, laidOut_, mapsRowed_, stopsHeard_]
  kernel_rfl

theorem proved : Rows.FnExactBodiesMeetSaid :=
  OpenClaim.holds_of_wide 4 Try.f4 rfl rfl rfl rfl rfl rfl rfl ⟨rfl, rfl, rfl, rfl, rfl⟩ rfl rfl rfl rfl rfl (by kernel_rfl) Try.func4 closed_
    (of_decide_eq_true (by kernel_rfl)) (by unfold Func.isWrapper; first | (rw [if_pos (by decide +kernel)]; kernel_rfl) | (rw [if_neg (by decide +kernel)]; exact ⟨rfl, rfl⟩))
    (fun os started H enc _ => lifted os started H enc)
end Go.Proofs.Ytgkfldogjhegjaa.fnExactBodiesMeet
