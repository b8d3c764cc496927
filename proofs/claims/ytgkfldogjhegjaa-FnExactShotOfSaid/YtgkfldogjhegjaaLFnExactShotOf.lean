/- For every input the law FnExactShotOf returns true and leaves what was in memory as it was. No condition. -/
import Derived.Test.YtgkfldogjhegjaaSho
import Derived.Test.YtgkfldogjhegjaaFrame
import Derived.Test.YtgkfldogjhegjaaOrd
namespace Go.Proofs.Ytgkfldogjhegjaa.fnExactShotOf
open Go.ChangeShapes Go.WideShapes Go.ChangeAt Go.RowKit
open Go.ChangeMaps (open_string shut_string)
set_option linter.unusedVariables false

set_option maxHeartbeats 1000000 in
theorem walk (w : World) (a0 : Value) (w0 : Arg_body w a0) :
    Calls Try.prog 5 #[a0] w fun e w' => e = .returned (.bool true) ∧ Below w.heap.size w w' := by
  obtain ⟨k0, k1, k2, k3, k4, k5, k6, k7, k8, rfl⟩ := w0
  have hS : ∃ s0 s1 s2 s3 s4 s5 s6 s7 s8 : Int, shotT k1 k2 k3 k6 = bod s0 s1 s2 s3 s4 s5 s6 s7 s8 := by
    unfold shotT
    split
    · exact ⟨_, _, _, _, _, _, _, _, _, rfl⟩
    · exact ⟨_, _, _, _, _, _, _, _, _, rfl⟩
  obtain ⟨s0, s1, s2, s3, s4, s5, s6, s7, s8, hS⟩ := hS
  unfold bod
  go_enter Try.func5, Try.ntmps5
  go_wp2_with fail
  refine (tobody_ret _ _ _ _ _ _ _ _ _ _).mono ?_
  rintro e wa ⟨rfl, ha⟩
  go_wp2_with fail
  refine (shot_spec _ _ _ _ _ _ _ _ _ _).mono ?_
  rintro e wb ⟨rfl, hb⟩
  rw [hS]
  unfold bod
  have hab := ha.trans (hb.mono ha.size)
  have c0 : wb.cell? ⟨w.heap.size, 0, none⟩ = some (.int .i64 k0) := (hab.cell (by simp)).trans (World.cell?_alloc_new w _ _ 0)
  have c1 : wb.cell? ⟨w.heap.size, 1, none⟩ = some (.int .i64 k1) := (hab.cell (by simp)).trans (World.cell?_alloc_new w _ _ 1)
  have c2 : wb.cell? ⟨w.heap.size, 2, none⟩ = some (.int .i64 k2) := (hab.cell (by simp)).trans (World.cell?_alloc_new w _ _ 2)
  have c3 : wb.cell? ⟨w.heap.size, 3, none⟩ = some (.int .i64 k3) := (hab.cell (by simp)).trans (World.cell?_alloc_new w _ _ 3)
  have c4 : wb.cell? ⟨w.heap.size, 4, none⟩ = some (.int .i64 k4) := (hab.cell (by simp)).trans (World.cell?_alloc_new w _ _ 4)
  have c5 : wb.cell? ⟨w.heap.size, 5, none⟩ = some (.int .i64 k5) := (hab.cell (by simp)).trans (World.cell?_alloc_new w _ _ 5)
  have c6 : wb.cell? ⟨w.heap.size, 6, none⟩ = some (.int .i64 k6) := (hab.cell (by simp)).trans (World.cell?_alloc_new w _ _ 6)
  have c7 : wb.cell? ⟨w.heap.size, 7, none⟩ = some (.int .i64 k7) := (hab.cell (by simp)).trans (World.cell?_alloc_new w _ _ 7)
  have c8 : wb.cell? ⟨w.heap.size, 8, none⟩ = some (.int .i64 k8) := (hab.cell (by simp)).trans (World.cell?_alloc_new w _ _ 8)
  have g1 : Below w.heap.size w wb := ((Below.refl _ _).alloc (Nat.le_refl _) _).trans (hab.mono (by simp))
  have z1 := g1.size
  have hlt : w.heap.size < wb.heap.size := by
    have := hab.size
    simp at this
    omega
  go_wp2_with fail
  refine (tobody_ret _ _ _ _ _ _ _ _ _ _).mono ?_
  rintro e wc ⟨rfl, hc⟩
  go_wp2_with fail
  refine (shot_impl _ _ _ _ _ _ _ _ _ _).mono ?_
  rintro e wd ⟨rfl, hd⟩
  rw [hS]
  unfold bod
  have hcd := hc.trans (hd.mono hc.size)
  have t0 : wd.cell? ⟨wb.heap.size, 0, none⟩ = some (.int .i64 s0) := (hcd.cell (by simp)).trans (World.cell?_alloc_new wb _ _ 0)
  have t1 : wd.cell? ⟨wb.heap.size, 1, none⟩ = some (.int .i64 s1) := (hcd.cell (by simp)).trans (World.cell?_alloc_new wb _ _ 1)
  have t2 : wd.cell? ⟨wb.heap.size, 2, none⟩ = some (.int .i64 s2) := (hcd.cell (by simp)).trans (World.cell?_alloc_new wb _ _ 2)
  have t3 : wd.cell? ⟨wb.heap.size, 3, none⟩ = some (.int .i64 s3) := (hcd.cell (by simp)).trans (World.cell?_alloc_new wb _ _ 3)
  have t4 : wd.cell? ⟨wb.heap.size, 4, none⟩ = some (.int .i64 s4) := (hcd.cell (by simp)).trans (World.cell?_alloc_new wb _ _ 4)
  have t5 : wd.cell? ⟨wb.heap.size, 5, none⟩ = some (.int .i64 s5) := (hcd.cell (by simp)).trans (World.cell?_alloc_new wb _ _ 5)
  have t6 : wd.cell? ⟨wb.heap.size, 6, none⟩ = some (.int .i64 s6) := (hcd.cell (by simp)).trans (World.cell?_alloc_new wb _ _ 6)
  have t7 : wd.cell? ⟨wb.heap.size, 7, none⟩ = some (.int .i64 s7) := (hcd.cell (by simp)).trans (World.cell?_alloc_new wb _ _ 7)
  have t8 : wd.cell? ⟨wb.heap.size, 8, none⟩ = some (.int .i64 s8) := (hcd.cell (by simp)).trans (World.cell?_alloc_new wb _ _ 8)
  have g3 : Below w.heap.size w wd := (g1.alloc g1.size _).trans (hcd.mono (by simp; omega))
  have z3 := g3.size
  have hlt2 : wb.heap.size < wd.heap.size := by
    have := hcd.size
    simp at this
    omega
  go_wp2_with fail
  refine (eqbody_ret _ _ _ _ _ _ _ _ _ _).mono ?_
  rintro e we ⟨rfl, he⟩
  go_wp2_with fail
  go_ret
  exact ⟨rfl, (g3.alloc g3.size _).trans (he.mono (by simp; omega))⟩

set_option maxRecDepth 100000 in
theorem lifted (os : Os) (started : os.Started) (H : Type) (enc : TypeId × Value → H) :
    ReturnsInHanded {} Try.checked os 5 .any (Rows.fnExactShotOfSpec.pre6 enc Try.prog Try.f5 Rows.fnExactShotOfRow.domain false) (Rows.fnExactShotOfSpec.post enc Try.prog Try.f5 false true false false) := by
  refine returnsInHanded_of_change (C := Try.checked) own_ started (by kernel_rfl) Try.func5
    (ChangeSpec.witness6 (enc := enc) (C := Try.checked) false ⟨#[], #[.agg #[.int .i64 0, .int .i64 0, .int .i64 0, .int .i64 0, .int .i64 0, .int .i64 0, .int .i64 0, .int .i64 0, .int .i64 0]], []⟩ 8 (by kernel_rfl) (by kernel_rfl) (by kernel_rfl) (by kernel_rfl)) ?_
  intro W base args ds gs before hval0 hW hcnd _
  have hval : ∀ (j : Nat) t v, Try.f5.params[j]? = some t → args[j]? = some v → Value.okWide Try.prog W .any base t v := hval0
  have hW' := hW
  obtain ⟨p, q, hA0, hV, rfl, hfz, hnd⟩ := hW
  have hA : DataW.TrodAll enc Try.prog W 0 (fun _ => true) true Try.f5.params.toList args.toList ds p := hA0
  rw [Try.params5] at hA hval
  obtain ⟨v0, vs0, d0, ds0, p0, q0, hargs, rfl, rfl, h0, r0⟩ := trodAll_cons hA
  obtain ⟨rfl, rfl, rfl⟩ := trodAll_nil r0
  obtain rfl : args = #[v0] := by cases args; simp_all
  have w0 := open_body (hval 0 25 v0 rfl rfl) h0
  refine (walk W v0 w0).mono fun e W' ⟨he, hb⟩ => ?_
  subst he
  exact ⟨_, rfl, law_post laidOut (by kernel_rfl) rfl rfl Try.underlying4 (fun gs' h => by subst h; rfl) hW' hb⟩

theorem closed_ : joinedFacts Try.prog 5 Try.f5 Rows.fnExactShotOfSpec Rows.fnExactShotOfRow = true := by
  unfold joinedFacts
  rw [mayEnter_, liftsFinal_, make_, laidOut_, mapsRowed_, stopsHeard_]
  kernel_rfl

theorem proved : Rows.FnExactShotOfSaid :=
  OpenClaim.holds_of_wide 5 Try.f5 rfl rfl rfl rfl rfl rfl rfl ⟨rfl, rfl, rfl, rfl, rfl⟩ rfl rfl rfl rfl rfl (by kernel_rfl) Try.func5 closed_
    (of_decide_eq_true (by kernel_rfl)) (by unfold Func.isWrapper; first | (rw [if_pos (by decide +kernel)]; kernel_rfl) | (rw [if_neg (by decide +kernel)]; exact ⟨rfl, rfl⟩))
    (fun os started H enc _ => lifted os started H enc)
end Go.Proofs.Ytgkfldogjhegjaa.fnExactShotOf
