/- For every input the law FnExactBodyOk returns true and leaves what was in memory as it was. No condition. -/
import Derived.Test.YtkcknikaidbeoaaBos
import Derived.Test.YtkcknikaidbeoaaArb
import Derived.Test.YtkcknikaidbeoaaWor
import Derived.Deep.RegionWith
import Derived.Deep.DeepCutAuto
import Derived.Deep.CutRange
import Derived.Test.YtkcknikaidbeoaaFrame
import Derived.Test.YtkcknikaidbeoaaOrd
namespace Go.Proofs.Ytkcknikaidbeoaa.fnExactBodyOk
open Go.ChangeShapes Go.WideShapes Go.ChangeAt Go.RowKit
open Go.ChangeMaps (open_string shut_string)
set_option linter.unusedVariables false

set_option maxRecDepth 100000 in
set_option maxHeartbeats 16000000 in
theorem walk (w : World) (a0 : Value) (w0 : Arg_level w a0) (a1 : Int) (w1 : (Lit.int .i64 a1).wf = true) (a2 : Value) (w2 : Arg_bodyW w a2) :
    Calls Try.prog 9 #[a0, .int .i64 a1, a2] w fun e w' => e = .returned (.bool true) ∧ Below w.heap.size w w' := by
  obtain ⟨u, rfl, l, hat, hwf⟩ := w0
  obtain ⟨b, rfl, hbw⟩ := w2
  have hat0 := hat
  have hmx : l.length ≤ maxLen := by
    obtain ⟨_, ao, cap, _, hn, hmx, _⟩ := hat
    omega
  unfold maxLen at hmx hwf
  have hn2 := (Go.bounds_i64 w1).2
  have HZ : ∀ wx, At wx 1 u l.length (l.map Value.string) → Calls Try.prog 24 #[.agg #[u], .int .i64 1048576] wx fun e w' => e = .returned (.int .i64 (szS l 1048576)) ∧ Below wx.heap.size wx w' := fun wx hx =>
    szlevel_ret (u := u) (l := l) 1048576 wx hx (by omega) (fun s hs => by have := hwf s hs; omega) (by omega) (by omega)
  obtain ⟨R, hR⟩ : ∃ R, okBd l a1 b = R := ⟨_, rfl⟩
  have HS0 : (l.length ≤ 1048576) → (∀ s ∈ l, s.size ≤ 1048576) → ∀ (v : Value) (wx : World), At wx 1 v l.length (l.map Value.string) → Calls Try.prog 46 #[.agg #[v], .int .i64 a1, b.val] wx fun e w' => e = .returned (.bool R) ∧ Below wx.heap.size wx w' := fun hm hz v wx hx => by rw [← hR]; exact bok_spec a1 b wx hx hm hz hn2
  have HI0 : (l.length ≤ 1048576) → (∀ s ∈ l, s.size ≤ 1048576) → ∀ (v : Value) (wx : World), At wx 1 v l.length (l.map Value.string) → Calls Try.prog 48 #[.agg #[v], .int .i64 a1, b.val] wx fun e w' => e = .returned (.bool R) ∧ Below wx.heap.size wx w' := fun hm hz v wx hx => by rw [← hR]; exact bok_impl a1 b wx hx hm hz hbw
  clear hR
  obtain ⟨k0, k1, k2, k3, k4, k5, k6, k7, k8⟩ := b
  unfold Bd.val bod at HS0 HI0 ⊢
  simp only at HS0 HI0 ⊢
  obtain ⟨ao, cap, rfl, hc⟩ := hat.cellS
  clear hc hat
  go_enter Try.func9, Try.ntmps9
  go_wp2_with fail
  generalize hw1 : (w.alloc _).alloc _ = wz
  have hb1 : Below w.heap.size w wz := by rw [← hw1]; exact ((Below.refl _ _).alloc (Nat.le_refl _) _).alloc (by simp) _
  have hL1 : wz.cell? ⟨w.heap.size, 0, none⟩ = some (.slice ao l.length cap) := by rw [← hw1]; exact cell_alloc_lt (World.cell?_alloc_new w _ _ 0) _ (by simp)
  have hB1 : Blk wz (w.heap.size + 1) ⟨k0, k1, k2, k3, k4, k5, k6, k7, k8⟩ := by
    rw [← hw1]
    have := Blk.new (w.alloc (.cells #[.slice ao l.length cap] 24)) 54 ⟨k0, k1, k2, k3, k4, k5, k6, k7, k8⟩
    rwa [show (w.alloc (.cells #[.slice ao l.length cap] 24)).heap.size = w.heap.size + 1 by simp] at this
  clear hw1
  refine (HZ _ (hat0.below hb1)).mono ?_
  rintro e wa ⟨rfl, ha⟩
  have hba := hb1.trans (ha.mono hb1.size)
  have hBa := hB1.below ha hB1.lt
  have hLa : wa.cell? ⟨w.heap.size, 0, none⟩ = some (.slice ao l.length cap) := (ha.cell (by have := hB1.lt; show w.heap.size < _; omega)).trans hL1
  clear ha hb1 hB1 hL1 HZ
  rcases szS_bd l 1048576 (by omega) with hneg | ⟨hneg, _, hm, hz⟩
  · rw [hneg]
    clear hneg HS0 HI0
    go_wp2_with fail
    go_ret
    exact ⟨rfl, hba⟩
  replace hneg : ¬ (szS l 1048576 < 0) := by omega
  generalize szS l 1048576 = Z at *
  replace hm : l.length ≤ 1048576 := by omega
  have HS := HS0 hm (fun s hs => by have := hz s hs; omega)
  have HI := HI0 hm (fun s hs => by have := hz s hs; omega)
  clear HS0 HI0 hz
  have HTB : ∀ wx : World, Calls Try.prog 47 #[.agg #[.int .i64 k0, .int .i64 k1, .int .i64 k2, .int .i64 k3, .int .i64 k4, .int .i64 k5, .int .i64 k6, .int .i64 k7, .int .i64 k8]] wx fun e w' => e = .returned (.agg #[.int .i64 k0, .int .i64 k1, .int .i64 k2, .int .i64 k3, .int .i64 k4, .int .i64 k5, .int .i64 k6, .int .i64 k7, .int .i64 k8]) ∧ Below wx.heap.size wx w' := fun wx => tobody_ret k0 k1 k2 k3 k4 k5 k6 k7 k8 wx
  -- the first region
  have hlt := hBa.lt
  go_upto_region 5 with (fail)
  go_cut [8] (fun g wx => g = .bool R ∧ Below wa.heap.size wa wx)
  case first =>
    have H := (Below.refl wa.heap.size wa).drew
    have cL : wa.drew.cell? ⟨w.heap.size, 0, none⟩ = some (.slice ao l.length cap) := hLa
    obtain ⟨_, c0, c1, c2, c3, c4, c5, c6, c7, c8, _⟩ := hBa.drew
    simp only at c0 c1 c2 c3 c4 c5 c6 c7 c8
    have HY : True := trivial
    go_region_with (first
      | (go_at_call 26; (with_reducible refine (tolevel_ret _ (hat0.below (hba.trans (H.mono hba.size))) hm).mono ?_); rintro e wg ⟨y, rfl, hy, hg⟩; obtain ⟨yo, yc, rfl⟩ := hy.slice_; replace H := H.trans (hg.mono H.size); replace HY := hy.at_; clear hg hy; obtain ⟨_, c0, c1, c2, c3, c4, c5, c6, c7, c8, _⟩ := hBa.below H hBa.lt; simp only at c0 c1 c2 c3 c4 c5 c6 c7 c8)
      | (go_at_call 47; (with_reducible refine (HTB _).mono ?_); rintro e wg ⟨rfl, hg⟩; (try replace HY := HY.below hg); replace H := H.trans (hg.mono H.size); have cL := (H.cell (p := ⟨w.heap.size, 0, none⟩) (by show w.heap.size < _; omega)).trans hLa; clear hg)
      | (go_at_call 46; (with_reducible refine (HS _ _ HY).mono ?_); rintro e wg ⟨rfl, hg⟩; replace H := H.trans (hg.mono H.size); clear hg))
    all_goals
      go_wp2_with fail
      go_meet
      case rel => exact ⟨rfl, H⟩
  case rest =>
    obtain ⟨wq, rfl⟩ : ∃ wq : World, wq = wc := ⟨_, rfl⟩
    obtain ⟨rfl, hz1⟩ := hcut


    have hbb := hba.trans (hz1.mono hba.size)
    have hLb : wq.cell? ⟨w.heap.size, 0, none⟩ = some (.slice ao l.length cap) := (hz1.cell (p := ⟨w.heap.size, 0, none⟩) (by show w.heap.size < _; omega)).trans hLa
    have hBb := hBa.below hz1 hBa.lt
    clear hLa hBa hba HS
    have hz1s := hz1.size
    clear hz1
    go_wp2_with fail
    refine (tolevel_ret _ (hat0.below hbb) hm).mono ?_
    rintro e wd ⟨x, rfl, hx, hd⟩
    obtain ⟨xo, xc, rfl⟩ := hx.slice_
    have hbd := hbb.trans (hd.mono hbb.size)
    have hLd : wd.cell? ⟨w.heap.size, 0, none⟩ = some (.slice ao l.length cap) := (hd.cell (p := ⟨w.heap.size, 0, none⟩) (by show w.heap.size < _; omega)).trans hLb
    have hBd := hBb.below hd hBb.lt
    have hds := hd.size
    clear hLb hBb hbb hd
    go_upto_region 7 with (fail)
    generalize hwe : wd.alloc _ = we
    have hbe : Below w.heap.size w we := by rw [← hwe]; exact hbd.alloc hbd.size _
    have hLe : we.cell? ⟨w.heap.size, 0, none⟩ = some (.slice ao l.length cap) := by rw [← hwe]; exact cell_alloc_lt hLd _ (by show w.heap.size < _; omega)
    have hBe : Blk we (w.heap.size + 1) ⟨k0, k1, k2, k3, k4, k5, k6, k7, k8⟩ := by rw [← hwe]; exact hBd.alloc _
    have hXe : we.cell? ⟨wd.heap.size, 0, none⟩ = some (.slice xo l.length xc) := by rw [← hwe]; exact World.cell?_alloc_new _ _ _ 0
    have hxe : Own we wq.heap.size 1 (.slice xo l.length xc) l.length (l.map Value.string) := by rw [← hwe]; exact hx.alloc _
    have hes : wd.heap.size < we.heap.size := by rw [← hwe]; simp
    clear hwe hbd hLd hBd hx
    go_cut [10] (fun g wx => g = .bool R ∧ Below we.heap.size we wx)
    case first =>
      have H := (Below.refl we.heap.size we).drew
      have cX : we.drew.cell? ⟨wd.heap.size, 0, none⟩ = some (.slice xo l.length xc) := hXe
      obtain ⟨_, c0, c1, c2, c3, c4, c5, c6, c7, c8, _⟩ := hBe.drew
      simp only at c0 c1 c2 c3 c4 c5 c6 c7 c8
      go_region_with (first
        | (go_at_call 47; (with_reducible refine (HTB _).mono ?_); rintro e wg ⟨rfl, hg⟩; replace H := H.trans (hg.mono H.size); have cX := (H.cell (p := ⟨wd.heap.size, 0, none⟩) hes).trans hXe; clear hg)
        | (go_at_call 48; (with_reducible refine (HI _ _ (hxe.at_.below H)).mono ?_); rintro e wg ⟨rfl, hg⟩; replace H := H.trans (hg.mono H.size); clear hg))
      all_goals
        go_wp2_with fail
        go_meet
        case rel => exact ⟨rfl, H⟩
    case rest =>
      obtain ⟨rfl, hz2⟩ := hcut
      have hbf := hbe.trans (hz2.mono hbe.size)
      have hLf : wc.cell? ⟨w.heap.size, 0, none⟩ = some (.slice ao l.length cap) := (hz2.cell (p := ⟨w.heap.size, 0, none⟩) (by show w.heap.size < _; omega)).trans hLe
      have hXf : wc.cell? ⟨wd.heap.size, 0, none⟩ = some (.slice xo l.length xc) := (hz2.cell (p := ⟨wd.heap.size, 0, none⟩) hes).trans hXe
      have hxf := hxe.belowS hz2
      have hfs := hz2.size
      clear hLe hXe hBe hbe hxe hz2 HI HTB
      have hblD : Below w.heap.size w wc.drew := hbf.drew
      have hxD := hxf.drew
      go_wp2_with fail
      go_region_with (first
        | (go_at_call 26; (with_reducible refine (tolevel_ret _ (hat0.below hblD) hm).mono ?_); rintro e wg ⟨y, rfl, hy, hg⟩; obtain ⟨yo, yc, rfl⟩ := hy.slice_; have hblg := hblD.trans (hg.mono hblD.size); have cX : wg.cell? ⟨wd.heap.size, 0, none⟩ = some (.slice xo l.length xc) := (hg.cell (p := ⟨wd.heap.size, 0, none⟩) (by show wd.heap.size < wc.heap.size; omega)).trans hXf; have hxg := hxD.belowS hg)
        | (go_at_call 28; (with_reducible refine (eqlevel_ret _ hxg.at_ hy.at_ (by omega)).mono ?_); rintro e wh ⟨rfl, hh⟩; have hblh := hblg.trans (hh.mono hblg.size)))
      all_goals
        go_wp2_with fail
        go_ret
        exact ⟨rfl, hblh⟩

set_option maxRecDepth 100000 in
theorem lifted (os : Os) (started : os.Started) (H : Type) (enc : TypeId × Value → H) :
    ReturnsInHanded {} Try.checked os 9 .any (Rows.fnExactBodyOkSpec.pre6 enc Try.prog Try.f9 Rows.fnExactBodyOkRow.domain false) (Rows.fnExactBodyOkSpec.post enc Try.prog Try.f9 false true false false) := by
  refine returnsInHanded_of_change (C := Try.checked) own_ started (by kernel_rfl) Try.func9
    (ChangeSpec.witness6 (enc := enc) (C := Try.checked) false ⟨#[], #[.agg #[.slice none 0 0], .int .i64 0, .agg #[.int .i64 0, .int .i64 0, .int .i64 0, .int .i64 0, .int .i64 0, .int .i64 0, .int .i64 0, .int .i64 0, .int .i64 0]], []⟩ 8 (by kernel_rfl) (by kernel_rfl) (by kernel_rfl) (by kernel_rfl)) ?_
  intro W base args ds gs before hval0 hW hcnd _
  have hval : ∀ (j : Nat) t v, Try.f9.params[j]? = some t → args[j]? = some v → Value.okWide Try.prog W .any base t v := hval0
  have hW' := hW
  obtain ⟨p, q, hA0, hV, rfl, hfz, hnd⟩ := hW
  have hA : DataW.TrodAll enc Try.prog W 0 (fun _ => true) true Try.f9.params.toList args.toList ds p := hA0
  rw [Try.params9] at hA hval
  obtain ⟨v0, vs0, d0, ds0, p0, q0, hargs, rfl, rfl, h0, r0⟩ := trodAll_cons hA
  obtain ⟨v1, vs1, d1, ds1, p1, q1, rfl, rfl, rfl, h1, r1⟩ := trodAll_cons r0
  obtain ⟨v2, vs2, d2, ds2, p2, q2, rfl, rfl, rfl, h2, r2⟩ := trodAll_cons r1
  obtain ⟨rfl, rfl, rfl⟩ := trodAll_nil r2
  obtain rfl : args = #[v0, v1, v2] := by cases args; simp_all
  have w0 := open_level (hval 0 24 v0 rfl rfl) h0
  obtain ⟨a1, rfl, rfl, rfl, w1⟩ := open_int Try.underlying3 (hval 1 3 v1 rfl rfl) h1
  have w2 := open_bodyW (hval 2 54 v2 rfl rfl) h2
  refine (walk W v0 w0 a1 w1 v2 w2).mono fun e W' ⟨he, hb⟩ => ?_
  subst he
  exact ⟨_, rfl, law_post laidOut (by kernel_rfl) rfl rfl Try.underlying4 (fun gs' h => by subst h; rfl) hW' hb⟩

theorem closed_ : joinedFacts Try.prog 9 Try.f9 Rows.fnExactBodyOkSpec Rows.fnExactBodyOkRow = true := by
  unfold joinedFacts
  rw [mayEnter_, liftsFinal_, make_, laidOut_, mapsRowed_, stopsHeard_]
  kernel_rfl

theorem proved : Rows.FnExactBodyOkSaid :=
  OpenClaim.holds_of_wide 9 Try.f9 rfl rfl rfl rfl rfl rfl rfl ⟨rfl, rfl, rfl, rfl, rfl⟩ rfl rfl rfl rfl rfl (by kernel_rfl) Try.func9 closed_
    (of_decide_eq_true (by kernel_rfl)) (by unfold Func.isWrapper; first | (rw [if_pos (by decide +kernel)]; kernel_rfl) | (rw [if_neg (by decide +kernel)]; exact ⟨rfl, rfl⟩))
    (fun os started H enc _ => lifted os started H enc)
end Go.Proofs.Ytkcknikaidbeoaa.fnExactBodyOk
