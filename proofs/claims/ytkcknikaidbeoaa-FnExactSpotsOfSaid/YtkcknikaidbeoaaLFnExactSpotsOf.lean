/- For every input the law FnExactSpotsOf returns true and leaves what was in memory as it was. No condition. -/
import Derived.Test.YtkcknikaidbeoaaSps2
import Derived.Test.YtkcknikaidbeoaaSse
import Derived.Deep.RegionWith
import Derived.Deep.DeepCutAuto
import Derived.Deep.CutRange
import Derived.Test.YtkcknikaidbeoaaFrame
import Derived.Test.YtkcknikaidbeoaaOrd
namespace Go.Proofs.Ytkcknikaidbeoaa.fnExactSpotsOf
open Go.ChangeShapes Go.WideShapes Go.ChangeAt Go.RowKit
open Go.ChangeMaps (open_string shut_string)
set_option linter.unusedVariables false

theorem sum_two {L : List (List Int)} (h : ∀ k, (lAt L k).length ≤ 2) : ∀ k, sumL L k ≤ 2 * k
  | 0 => Nat.le_refl _
  | k + 1 => by have := sum_two h k; have := h k; simp only [sumL]; omega
theorem spL_two (s : List (Int × Int)) (k : Nat) : (lAt (spL s) k).length ≤ 2 := by
  unfold lAt spL List.getD
  rw [List.getElem?_map]
  cases s[k]? <;> simp
set_option maxRecDepth 100000 in
set_option maxHeartbeats 8000000 in
theorem walk (w : World) (a0 : Value) (w0 : Arg_level w a0) :
    Calls Try.prog 7 #[a0] w fun e w' => e = .returned (.bool true) ∧ Below w.heap.size w w' := by
  obtain ⟨u, rfl, l, hat, hwf⟩ := w0
  have hat0 := hat
  have hmx : l.length ≤ maxLen := by
    obtain ⟨_, ao, cap, _, hn, hmx, _⟩ := hat
    omega
  unfold maxLen at hmx hwf
  have hb1 : ∀ A : Obj, Below w.heap.size w (w.alloc A) := fun A => (Below.refl _ _).alloc (Nat.le_refl _) _
  have hs1 : ∀ A : Obj, (w.alloc A).heap.size = w.heap.size + 1 := fun A => by simp
  have HZ : ∀ wx, At wx 1 u l.length (l.map Value.string) → Calls Try.prog 24 #[.agg #[u], .int .i64 1048576] wx fun e w' => e = .returned (.int .i64 (szS l 1048576)) ∧ Below wx.heap.size wx w' := fun wx hx =>
    szlevel_ret (u := u) (l := l) 1048576 wx hx (by omega) (fun s hs => by have := hwf s hs; omega) (by omega) (by omega)
  rcases szS_bd l 1048576 (by omega) with hneg | ⟨hneg, _, hm, hz⟩
  · simp only [hneg] at HZ
    obtain ⟨ao, cap, rfl, hc⟩ := hat.cellS
    clear hc hat
    go_enter Try.func7, Try.ntmps7
    go_wp2_with fail
    refine (HZ _ (hat0.below (hb1 _))).mono ?_
    rintro e wa ⟨rfl, ha⟩
    go_wp2_with fail
    go_ret
    exact ⟨rfl, (hb1 _).trans (ha.mono (by simp))⟩
  replace hneg : ¬ (szS l 1048576 < 0) := by omega
  generalize szS l 1048576 = Z at *
  replace hm : l.length ≤ 1048576 := by omega
  replace hz : ∀ s ∈ l, s.size ≤ 1048576 := fun s hs => by have := hz s hs; omega
  obtain ⟨L, hL⟩ : ∃ L, spL (spotsT l) = L := ⟨_, rfl⟩
  have hL2 : ∀ k, (lAt L k).length ≤ 2 := fun k => by rw [← hL]; exact spL_two _ k
  have hLn : L.length ≤ 240 := by rw [← hL, spL_len]; exact spots_len l
  have hLs : sumL L L.length ≤ 480 := by have := sum_two hL2 L.length; omega
  have HS : ∀ (v : Value) (wx : World), At wx 1 v l.length (l.map Value.string) → Calls Try.prog 35 #[.agg #[v]] wx fun e w' => ∃ v us, e = .returned v ∧ OwnSS w' wx.heap.size v us L ∧ Below wx.heap.size wx w' := fun v wx hx => by rw [← hL]; exact spots_spec wx hx hm hz
  have HI : ∀ (v : Value) (wx : World), At wx 1 v l.length (l.map Value.string) → Calls Try.prog 36 #[.agg #[v]] wx fun e w' => ∃ v us, e = .returned v ∧ OwnSS w' wx.heap.size v us L ∧ Below wx.heap.size wx w' := fun v wx hx => by rw [← hL]; exact spots_impl wx hx hm hz
  have HEQ : ∀ (va vb : Value) (ua ub : List Value) (wx : World), AtSS wx va ua L → AtSS wx vb ub L → Calls Try.prog 37 #[va, vb] wx fun e w' => e = .returned (.bool true) ∧ Below wx.heap.size wx w' := fun va vb ua ub wx h1 h2 => eqss_ret wx h1 h2 (by omega) (fun k _ => by have := hL2 k; omega)
  have HMK : ∀ (v : Value) (us : List Value) (B : Nat) (wx : World), OwnSS wx B v us L → Calls Try.prog 39 #[v, .int .i64 1] wx fun e w' => e = .returned (.int .i64 (1 + sumL L L.length)) ∧ OwnSS w' B v us (mkSS 1 L L.length) ∧ Tch (blkSS v us) wx w' := fun v us B wx h1 => markss_ret 1 wx h1 (by omega) (by omega) (by omega)
  have HHD : ∀ (v : Value) (us : List Value) (wx : World), AtSS wx v us (mkSS 1 L L.length) → Calls Try.prog 40 #[v, .int .i64 1] wx fun e w' => e = .returned (.int .i64 (1 + sumL L L.length)) ∧ wx = w' := fun v us wx h1 => heldss_ret 1 wx h1 (by omega) (by omega) (by omega)
  generalize sumL L L.length = Q at *
  generalize mkSS 1 L L.length = LM at *
  clear hL hL2 hz hwf
  obtain ⟨ao, cap, rfl, hc⟩ := hat.cellS
  clear hc hat
  go_enter Try.func7, Try.ntmps7
  go_wp2_with fail
  generalize hw1 : w.alloc _ = w1
  have hbl1 : Below w.heap.size w w1 := by rw [← hw1]; exact hb1 _
  have hz1 : w1.heap.size = w.heap.size + 1 := by rw [← hw1]; exact hs1 _
  have c1 : w1.cell? ⟨w.heap.size, 0, none⟩ = some (.slice ao l.length cap) := by rw [← hw1]; exact World.cell?_alloc_new _ _ _ 0
  clear hw1
  refine (HZ _ (hat0.below hbl1)).mono ?_
  rintro e wa ⟨rfl, ha⟩
  have hbla := hbl1.trans (ha.mono hbl1.size)
  have hza := ha.size
  have ca : wa.cell? ⟨w.heap.size, 0, none⟩ = some (.slice ao l.length cap) := (ha.cell (by show w.heap.size < _; omega)).trans c1
  clear c1 ha HZ hb1 hs1 hbl1
  go_wp2_with fail
  refine (tolevel_ret _ (hat0.below hbla) hm).mono ?_
  rintro e wb ⟨x0, rfl, hx0, hb⟩
  have hblb := hbla.trans (hb.mono hbla.size)
  have hzb := hb.size
  have cb : wb.cell? ⟨w.heap.size, 0, none⟩ = some (.slice ao l.length cap) := (hb.cell (by show w.heap.size < _; omega)).trans ca
  clear ca hb hbla
  go_wp2_with fail
  refine (HS _ _ hx0.at_).mono ?_
  rintro e wS ⟨vs, uss, rfl, hS, hcw⟩
  have hblc := hblb.trans (hcw.mono hblb.size)
  have hzc := hcw.size
  have cc : wS.cell? ⟨w.heap.size, 0, none⟩ = some (.slice ao l.length cap) := (hcw.cell (by show w.heap.size < _; omega)).trans cb
  have hSl : ∀ i, blkSS vs uss i → i < wS.heap.size := fun i hi => (hS.ge i hi).2
  clear cb hcw hblb hx0
  go_wp2_with fail
  refine (tolevel_ret _ (hat0.below hblc) hm).mono ?_
  rintro e wd ⟨x, rfl, hx, hd⟩
  obtain ⟨xo, xc, rfl⟩ := hx.slice_
  have hbld := hblc.trans (hd.mono hblc.size)
  have hzd := hd.size
  have cd : wd.cell? ⟨w.heap.size, 0, none⟩ = some (.slice ao l.length cap) := (hd.cell (by show w.heap.size < _; omega)).trans cc
  have hSd := hS.belowS hd
  have hxl : ∀ i, (Value.slice xo l.length xc).ownBlock = some i → wS.heap.size ≤ i ∧ i < wd.heap.size := fun i hi => hx.ge i hi
  clear cc hd hblc hS
  go_wp2_with fail
  generalize hwe : wd.alloc _ = we
  have hble : Below w.heap.size w we := by rw [← hwe]; exact hbld.alloc hbld.size _
  have hze : we.heap.size = wd.heap.size + 1 := by rw [← hwe]; simp
  have ce : we.cell? ⟨w.heap.size, 0, none⟩ = some (.slice ao l.length cap) := by
    rw [← hwe, World.cell?_alloc_past _ _ _ (by omega)]
    exact cd
  have c5 : we.cell? ⟨wd.heap.size, 0, none⟩ = some (.slice xo l.length xc) := by rw [← hwe]; exact World.cell?_alloc_new _ _ _ 0
  have hxe : Own we wS.heap.size 1 (.slice xo l.length xc) l.length (l.map Value.string) := by rw [← hwe]; exact hx.alloc _
  have hSe : OwnSS we wb.heap.size vs uss L := by rw [← hwe]; exact hSd.belowS ((Below.refl _ _).alloc (Nat.le_refl _) _)
  clear hwe cd hSd hbld hx
  refine (HI _ _ hxe.at_).mono ?_
  rintro e wf ⟨vi, usi, rfl, hI, hf⟩
  have hblf := hble.trans (hf.mono hble.size)
  have hzf := hf.size
  have cf : wf.cell? ⟨w.heap.size, 0, none⟩ = some (.slice ao l.length cap) := (hf.cell (by show w.heap.size < _; omega)).trans ce
  have c5f : wf.cell? ⟨wd.heap.size, 0, none⟩ = some (.slice xo l.length xc) := (hf.cell (by show wd.heap.size < _; omega)).trans c5
  have hxf := hxe.belowS hf
  have hSf := hSe.belowS hf
  have hIg : ∀ i, blkSS vi usi i → we.heap.size ≤ i := fun i hi => (hI.ge i hi).1
  clear ce c5 hf hble hxe hSe
  go_wp2_with fail
  refine (HEQ _ _ _ _ _ hI.at_ hSf.at_).mono ?_
  rintro e wg ⟨rfl, hg⟩
  have hblg := hblf.trans (hg.mono hblf.size)
  have hzg := hg.size
  have cg : wg.cell? ⟨w.heap.size, 0, none⟩ = some (.slice ao l.length cap) := (hg.cell (by show w.heap.size < _; omega)).trans cf
  have c5g : wg.cell? ⟨wd.heap.size, 0, none⟩ = some (.slice xo l.length xc) := (hg.cell (by show wd.heap.size < _; omega)).trans c5f
  have hxg := hxf.belowS hg
  have hSg := hSf.belowS hg
  have hIG := hI.belowS hg
  clear cf c5f hg hblf hxf hSf hI
  go_upto_region 10 with (fail)
  go_cut [31] (fun st wx => st = .bool false ∧ Below wg.heap.size wg wx)
  case first =>
    have hblD := (Below.refl wg.heap.size wg).drew
    have hbwD := hblg.drew
    have hxD := hxg.drew
    go_region_with (first | (go_at_call 26; (with_reducible refine (tolevel_ret _ (hat0.below hbwD) hm).mono ?_); rintro e wh ⟨y, rfl, hy, hh⟩; obtain ⟨yo, yc, rfl⟩ := hy.slice_; have hblh := hblD.trans (hh.mono (Nat.le_refl _)); have c5h : wh.cell? ⟨wd.heap.size, 0, none⟩ = some (.slice xo l.length xc) := (hh.cell (by show wd.heap.size < wg.heap.size; omega)).trans c5g; have hxh := hxD.belowS hh) | (go_at_call 28; (with_reducible refine (eqlevel_ret _ hxh.at_ hy.at_ (by omega)).mono ?_); rintro e wi ⟨rfl, hi⟩; have hbli := hblh.trans (hi.mono hblh.size)))
    all_goals
      go_wp2_with fail
      go_meet
      case rel => exact ⟨rfl, hbli⟩
  case rest =>
  obtain ⟨wh, rfl⟩ : ∃ wh : World, wh = wc := ⟨_, rfl⟩
  obtain ⟨rfl, hh⟩ := hcut
  have hblh := hblg.trans (hh.mono hblg.size)
  have hzh := hh.size
  have ch : wh.cell? ⟨w.heap.size, 0, none⟩ = some (.slice ao l.length cap) := (hh.cell (by show w.heap.size < _; omega)).trans cg
  have c5h : wh.cell? ⟨wd.heap.size, 0, none⟩ = some (.slice xo l.length xc) := (hh.cell (by show wd.heap.size < _; omega)).trans c5g
  have hxh := hxg.belowS hh
  have hSh := hSg.belowS hh
  have hIh := hIG.belowS hh
  clear cg c5g hh hblg hxg hSg hIG
  go_wp2_with fail
  refine (marklevel_ret _ hxh hm).mono ?_
  rintro e wi ⟨rfl, _, ti⟩
  have hbli : Below w.heap.size w wi := hblh.trans (ti.below (by omega) fun i hi => by have := hxl i hi; omega)
  have hzi := ti.size
  have ci : wi.cell? ⟨w.heap.size, 0, none⟩ = some (.slice ao l.length cap) := (World.cell?_of_block (ti.block w.heap.size (by omega) fun e => by have := hxl _ e; omega)).trans ch
  have hSi := hSh.tch ti fun i hi e => by have := hSl i hi; have := hxl i e; omega
  have hIi := hIh.tch ti fun i hi e => by have := hIg i hi; have := hxl i e; omega
  clear ch c5h hblh hxh hSh hIh ti hxl
  have n1 : decide (1 + (l.length : Int) < 0) = false := decide_eq_false (by omega)
  go_wp2_with fail
  refine (HEQ _ _ _ _ _ hIi.at_ hSi.at_).mono ?_
  rintro e wj ⟨rfl, hj⟩
  have hblj := hbli.trans (hj.mono hbli.size)
  have hzj := hj.size
  have cj : wj.cell? ⟨w.heap.size, 0, none⟩ = some (.slice ao l.length cap) := (hj.cell (by show w.heap.size < _; omega)).trans ci
  have hSj := hSi.belowS hj
  have hIj := hIi.belowS hj
  clear ci hj hbli hSi hIi n1
  go_wp2_with fail
  refine (HMK _ _ _ _ hIj).mono ?_
  rintro e wk ⟨rfl, hIk, tk⟩
  have hblk : Below w.heap.size w wk := hblj.trans (tk.below (by omega) fun i hi => by have := hIg i hi; omega)
  have hzk := tk.size
  have ck : wk.cell? ⟨w.heap.size, 0, none⟩ = some (.slice ao l.length cap) := (World.cell?_of_block (tk.block w.heap.size (by omega) fun e => by have := hIg _ e; omega)).trans cj
  have hSk := hSj.tch tk fun i hi e => by have := hSl i hi; have := hIg i e; omega
  clear cj hblj hSj hIj tk
  go_wp2_with fail
  refine (HHD _ _ _ hIk.at_).mono ?_
  rintro e wx ⟨rfl, rfl⟩
  have n2 : decide (1 + (Q : Int) < 0) = false := decide_eq_false (by omega)
  go_wp2_with fail
  refine (tolevel_ret _ (hat0.below hblk) hm).mono ?_
  rintro e wl ⟨y, rfl, hy, hl⟩
  have hbll := hblk.trans (hl.mono hblk.size)
  have hSl2 := hSk.belowS hl
  have hIl := hIk.belowS hl
  clear hl hblk hSk hIk ck
  go_wp2_with fail
  refine (HI _ _ hy.at_).mono ?_
  rintro e wm ⟨vh, ush, rfl, hH, hm2⟩
  have hblm := hbll.trans (hm2.mono hbll.size)
  have hSm := hSl2.belowS hm2
  have hIm := hIl.belowS hm2
  clear hm2 hbll hSl2 hIl hy
  go_wp2_with fail
  refine (HEQ _ _ _ _ _ hH.at_ hSm.at_).mono ?_
  rintro e wn ⟨rfl, hn⟩
  have hbln := hblm.trans (hn.mono hblm.size)
  have hIn := hIm.belowS hn
  clear hn hblm hSm hIm hH
  go_wp2_with fail
  refine (HHD _ _ _ hIn.at_).mono ?_
  rintro e wx ⟨rfl, rfl⟩
  go_wp2_with fail
  go_ret
  exact ⟨rfl, hbln⟩

set_option maxRecDepth 100000 in
theorem lifted (os : Os) (started : os.Started) (H : Type) (enc : TypeId × Value → H) :
    ReturnsInHanded {} Try.checked os 7 .any (Rows.fnExactSpotsOfSpec.pre6 enc Try.prog Try.f7 Rows.fnExactSpotsOfRow.domain false) (Rows.fnExactSpotsOfSpec.post enc Try.prog Try.f7 false true false false) := by
  refine returnsInHanded_of_change (C := Try.checked) own_ started (by kernel_rfl) Try.func7
    (ChangeSpec.witness6 (enc := enc) (C := Try.checked) false ⟨#[], #[.agg #[.slice none 0 0]], []⟩ 8 (by kernel_rfl) (by kernel_rfl) (by kernel_rfl) (by kernel_rfl)) ?_
  intro W base args ds gs before hval0 hW hcnd _
  have hval : ∀ (j : Nat) t v, Try.f7.params[j]? = some t → args[j]? = some v → Value.okWide Try.prog W .any base t v := hval0
  have hW' := hW
  obtain ⟨p, q, hA0, hV, rfl, hfz, hnd⟩ := hW
  have hA : DataW.TrodAll enc Try.prog W 0 (fun _ => true) true Try.f7.params.toList args.toList ds p := hA0
  rw [Try.params7] at hA hval
  obtain ⟨v0, vs0, d0, ds0, p0, q0, hargs, rfl, rfl, h0, r0⟩ := trodAll_cons hA
  obtain ⟨rfl, rfl, rfl⟩ := trodAll_nil r0
  obtain rfl : args = #[v0] := by cases args; simp_all
  have w0 := open_level (hval 0 24 v0 rfl rfl) h0
  refine (walk W v0 w0).mono fun e W' ⟨he, hb⟩ => ?_
  subst he
  exact ⟨_, rfl, law_post laidOut (by kernel_rfl) rfl rfl Try.underlying4 (fun gs' h => by subst h; rfl) hW' hb⟩

theorem closed_ : joinedFacts Try.prog 7 Try.f7 Rows.fnExactSpotsOfSpec Rows.fnExactSpotsOfRow = true := by
  unfold joinedFacts
  rw [mayEnter_, liftsFinal_, make_, laidOut_, mapsRowed_, stopsHeard_]
  kernel_rfl

theorem proved : Rows.FnExactSpotsOfSaid :=
  OpenClaim.holds_of_wide 7 Try.f7 rfl rfl rfl rfl rfl rfl rfl ⟨rfl, rfl, rfl, rfl, rfl⟩ rfl rfl rfl rfl rfl (by kernel_rfl) Try.func7 closed_
    (of_decide_eq_true (by kernel_rfl)) (by unfold Func.isWrapper; first | (rw [if_pos (by decide +kernel)]; kernel_rfl) | (rw [if_neg (by decide +kernel)]; exact ⟨rfl, rfl⟩))
    (fun os started H enc _ => lifted os started H enc)
end Go.Proofs.Ytkcknikaidbeoaa.fnExactSpotsOf
