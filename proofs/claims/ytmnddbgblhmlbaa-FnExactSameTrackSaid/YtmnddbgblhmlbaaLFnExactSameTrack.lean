/- For every input the law FnExactSameTrack returns true and leaves what was in memory as it was. No condition. -/
import Derived.Test.YtmnddbgblhmlbaaEqL
import Derived.Deep.RegionWith
import Derived.Deep.DeepCutAuto
import Derived.Deep.CutBlock
import Derived.Test.YtmnddbgblhmlbaaFrame
import Derived.Test.YtmnddbgblhmlbaaOrd
namespace Go.Proofs.Ytmnddbgblhmlbaa.fnExactSameTrack
open Go.ChangeShapes Go.WideShapes Go.ChangeAt Go.RowKit
open Go.ChangeMaps (open_string shut_string)
set_option linter.unusedVariables false

structure Inv (w wx : World) (A B : Value) : Prop where
  bl : Below w.heap.size w wx
  sz : w.heap.size + 2 ≤ wx.heap.size
  ca : wx.cell? ⟨w.heap.size, 0, none⟩ = some A
  cb : wx.cell? ⟨w.heap.size + 1, 0, none⟩ = some B
theorem Inv.below {w wx wy : World} {A B : Value} (h : Inv w wx A B) (hb : Below wx.heap.size wx wy) : Inv w wy A B :=
  have hs := h.sz
  ⟨h.bl.trans (hb.mono h.bl.size), Nat.le_trans h.sz hb.size, (hb.cell (by show w.heap.size < _; omega)).trans h.ca, (hb.cell (by show w.heap.size + 1 < _; omega)).trans h.cb⟩
theorem Inv.drew {w wx : World} {A B : Value} (h : Inv w wx A B) : Inv w wx.drew A B := ⟨h.bl.drew, h.sz, h.ca, h.cb⟩
structure Inv2 (w wx : World) (A B X Y : Value) (b7 b8 : Nat) (la lb : List Int) : Prop where
  inv : Inv w wx A B
  h7 : b7 < wx.heap.size
  c7 : wx.cell? ⟨b7, 0, none⟩ = some X
  h8 : b8 < wx.heap.size
  c8 : wx.cell? ⟨b8, 0, none⟩ = some Y
  ox : Own wx 0 1 X la.length (la.map (Value.int .i64))
  oy : Own wx 0 1 Y lb.length (lb.map (Value.int .i64))
theorem Inv2.below {w wx wy : World} {A B X Y : Value} {b7 b8 : Nat} {la lb : List Int} (h : Inv2 w wx A B X Y b7 b8 la lb) (hb : Below wx.heap.size wx wy) : Inv2 w wy A B X Y b7 b8 la lb :=
  ⟨h.inv.below hb, Nat.lt_of_lt_of_le h.h7 hb.size, (hb.cell h.h7).trans h.c7, Nat.lt_of_lt_of_le h.h8 hb.size, (hb.cell h.h8).trans h.c8, h.ox.below hb (fun g hg => (h.ox.ge g hg).2), h.oy.below hb (fun g hg => (h.oy.ge g hg).2)⟩
theorem Inv2.drew {w wx : World} {A B X Y : Value} {b7 b8 : Nat} {la lb : List Int} (h : Inv2 w wx A B X Y b7 b8 la lb) : Inv2 w wx.drew A B X Y b7 b8 la lb :=
  ⟨h.inv.drew, h.h7, h.c7, h.h8, h.c8, h.ox.drew, h.oy.drew⟩
theorem sz_yes {u : Value} {l : List Int} (left : Int) (w : World) (h : At w 1 u l.length (l.map (Value.int .i64))) (h0 : 0 ≤ left) (h1 : left ≤ 1048576) (hl : (l.length : Int) ≤ left) :
    Calls Try.prog 23 #[.agg #[u], .int .i64 left] w fun e w' => e = .returned (.int .i64 (left - (l.length : Int))) ∧ Below w.heap.size w w' :=
  (sztrack_ret left w h (by omega) h0 h1).mono fun e w' ⟨h1, h2⟩ => ⟨by rw [h1, szR_yes hl], h2⟩
theorem sz_no {u : Value} {l : List Int} (left : Int) (w : World) (h : At w 1 u l.length (l.map (Value.int .i64))) (h0 : 0 ≤ left) (h1 : left ≤ 1048576) (hl : ¬ (l.length : Int) ≤ left) :
    Calls Try.prog 23 #[.agg #[u], .int .i64 left] w fun e w' => e = .returned (.int .i64 (-1)) ∧ Below w.heap.size w w' := by
  have hm : l.length ≤ 9223372036854775807 := by
    obtain ⟨_, ao, cap, _, hn, hmx, _⟩ := h
    unfold maxLen at hmx
    omega
  exact (sztrack_ret left w h hm h0 h1).mono fun e w' ⟨h1, h2⟩ => ⟨by rw [h1, szR_no hl], h2⟩
set_option maxRecDepth 100000 in
set_option maxHeartbeats 8000000 in
theorem walk (w : World) (a0 : Value) (w0 : Arg_track w a0) (a1 : Value) (w1 : Arg_track w a1) :
    Calls Try.prog 6 #[a0, a1] w fun e w' => e = .returned (.bool true) ∧ Below w.heap.size w w' := by
  obtain ⟨ua, rfl, la, hatA, _⟩ := w0
  obtain ⟨ub, rfl, lb, hatB, _⟩ := w1
  have hatA0 := hatA
  have hatB0 := hatB
  obtain ⟨ao, cap, rfl, hc⟩ := hatA.cell
  obtain ⟨bo, cap2, rfl, hc2⟩ := hatB.cell
  clear hc hc2 hatA hatB
  have hI0 : ∀ T : TypeId, Inv w ((w.alloc (.cells #[.slice ao la.length cap] T)).alloc (.cells #[.slice bo lb.length cap2] T)) (.slice ao la.length cap) (.slice bo lb.length cap2) := fun T =>
    ⟨((Below.refl _ _).alloc (Nat.le_refl _) _).alloc (by simp) _, by simp, by simp [World.cell?_alloc_at, World.cell?_alloc_past], by simp [World.cell?_alloc_at]⟩
  go_enter Try.func6, Try.ntmps6
  go_wp2_with fail
  generalize hw1 : (w.alloc _).alloc _ = w1
  have hI : Inv w w1 (.slice ao la.length cap) (.slice bo lb.length cap2) := by rw [← hw1]; exact hI0 _
  clear hw1
  by_cases hbig : ¬ (la.length : Int) ≤ 1048576
  · refine (sz_no (l := la) _ _ (hatA0.below hI.bl) (by omega) (by omega) hbig).mono ?_
    rintro e wa ⟨rfl, ha⟩
    have hI := hI.below ha
    go_wp2_with fail
    go_ret
    exact ⟨rfl, hI.bl⟩
  refine (sz_yes (l := la) _ _ (hatA0.below hI.bl) (by omega) (by omega) (by omega)).mono ?_
  rintro e wa ⟨rfl, ha⟩
  have hI := hI.below ha
  have cA := hI.ca
  have cB := hI.cb
  have hneg : ¬ (1048576 - (la.length : Int) < 0) := by omega
  have hsz0 := hI.sz
  go_wp2_with fail
  by_cases hbig2 : ¬ (lb.length : Int) ≤ 1048576 - (la.length : Int)
  · refine (sz_no (l := lb) _ _ (hatB0.below hI.bl) (by omega) (by omega) hbig2).mono ?_
    rintro e wb ⟨rfl, hb⟩
    have hI := hI.below hb
    go_wp2_with fail
    go_ret
    exact ⟨rfl, hI.bl⟩
  refine (sz_yes (l := lb) _ _ (hatB0.below hI.bl) (by omega) (by omega) (by omega)).mono ?_
  rintro e wb ⟨rfl, hb⟩
  have hI := hI.below hb
  have cA := hI.ca
  have cB := hI.cb
  have hsz0 := hI.sz
  have hneg2 : ¬ (1048576 - (la.length : Int) - (lb.length : Int) < 0) := by omega
  have hma : la.length ≤ 1048576 := by omega
  have hmb : lb.length ≤ 1048576 := by omega
  have hma2 : la.length ≤ 1099511627776 := by omega
  have hmb2 : lb.length ≤ 1099511627776 := by omega
  go_upto_region 8 with (fail)
  go_cut [6] (fun v wx => v = .bool (sameL la lb) ∧ Inv w wx (.slice ao la.length cap) (.slice bo lb.length cap2))
  case first =>
    have hI := hI.drew
    go_region_with (first
      | (go_at_call 25; refine (totrack_ret (l := la) _ (hatA0.below hI.bl) hma).mono ?_; rintro e wg ⟨xa, rfl, hxa, hg⟩; obtain ⟨_, _, rfl⟩ := hxa.slice_; (try replace hxb := hxb.below hg (fun g hg => (hxb.ge g hg).2)); replace hI := hI.below hg; replace cA := hI.ca; replace cB := hI.cb; replace hsz0 := hI.sz)
      | (go_at_call 25; refine (totrack_ret (l := lb) _ (hatB0.below hI.bl) hmb).mono ?_; rintro e wg ⟨xb, rfl, hxb, hg⟩; obtain ⟨_, _, rfl⟩ := hxb.slice_; (try replace hxa := hxa.below hg (fun g hg => (hxa.ge g hg).2)); replace hI := hI.below hg; replace cA := hI.ca; replace cB := hI.cb; replace hsz0 := hI.sz)
      | (go_at_call 28; refine (sametrack_spec _ hxa.at_ hxb.at_ hma2).mono ?_; rintro e wh ⟨rfl, hh⟩; replace hI := hI.below hh))
    all_goals
      go_wp2_with fail
      go_meet
      exact ⟨rfl, hI⟩
  case rest =>
    obtain ⟨rfl, hI⟩ := hcut
    have cA := hI.ca
    have cB := hI.cb
    have hsz0 := hI.sz
    go_wp2_with fail
    refine (totrack_ret (l := la) _ (hatA0.below hI.bl) hma).mono ?_
    rintro e wd ⟨x, rfl, hx, hd⟩
    obtain ⟨xo, xc, rfl⟩ := hx.slice_
    replace hI := hI.below hd
    replace cA := hI.ca
    replace cB := hI.cb
    replace hsz0 := hI.sz
    have hltA : w.heap.size < wd.heap.size := by omega
    have hltB : w.heap.size + 1 < wd.heap.size := by omega
    go_wp2_with fail
    generalize hwe : wd.alloc _ = we
    have hze : we.heap.size = wd.heap.size + 1 := by rw [← hwe]; simp
    replace hI : Inv w we (.slice ao la.length cap) (.slice bo lb.length cap2) := by rw [← hwe]; exact hI.below ((Below.refl _ _).alloc (Nat.le_refl _) _)
    have c7 : we.cell? ⟨wd.heap.size, 0, none⟩ = some (.slice xo la.length xc) := by rw [← hwe]; exact World.cell?_alloc_new _ _ _ 0
    have hx7 : Own we 0 1 (.slice xo la.length xc) la.length (la.map (Value.int .i64)) := by rw [← hwe]; exact (hx.mono (Nat.zero_le _)).alloc _
    clear hwe
    replace cA := hI.ca
    replace cB := hI.cb
    refine (totrack_ret (l := lb) _ (hatB0.below hI.bl) hmb).mono ?_
    rintro e wf ⟨y, rfl, hy, hf⟩
    obtain ⟨yo, yc, rfl⟩ := hy.slice_
    replace hI := hI.below hf
    have hzf := hf.size
    replace c7 : wf.cell? ⟨wd.heap.size, 0, none⟩ = some (.slice xo la.length xc) := (hf.cell (by show wd.heap.size < _; omega)).trans c7
    replace hx7 : Own wf 0 1 (.slice xo la.length xc) la.length (la.map (Value.int .i64)) := hx7.below hf (fun g hg => (hx7.ge g hg).2)
    replace cA := hI.ca
    replace cB := hI.cb
    have hlt7 : wd.heap.size < wf.heap.size := by omega
    have hltA2 : w.heap.size < wf.heap.size := by omega
    have hltB2 : w.heap.size + 1 < wf.heap.size := by omega
    go_wp2_with fail
    generalize hwg : wf.alloc _ = wg
    have h2 : Inv2 w wg (.slice ao la.length cap) (.slice bo lb.length cap2) (.slice xo la.length xc) (.slice yo lb.length yc) wd.heap.size wf.heap.size la lb := by
      rw [← hwg]
      exact ⟨hI.below ((Below.refl _ _).alloc (Nat.le_refl _) _), by simp; omega, (World.cell?_alloc_past _ _ _ (by omega)).trans c7, by simp, World.cell?_alloc_new _ _ _ 0, hx7.alloc _, (hy.mono (Nat.zero_le _)).alloc _⟩
    clear hwg hI hx7 hy hx c7 cA cB
    have cA := h2.inv.ca
    have cB := h2.inv.cb
    have hsz0 := h2.inv.sz
    have c7 := h2.c7
    have c8 := h2.c8
    have z7 := h2.h7
    have z8 := h2.h8
    refine (sametrack_impl _ h2.ox.at_ h2.oy.at_ hma2).mono ?_
    rintro e wh ⟨rfl, hh⟩
    replace h2 := h2.below hh
    replace cA := h2.inv.ca; replace cB := h2.inv.cb; replace hsz0 := h2.inv.sz; replace c7 := h2.c7; replace c8 := h2.c8; replace z7 := h2.h7; replace z8 := h2.h8
    go_wp2_with fail
    replace h2 := h2.drew
    go_region_with (first
      | (go_at_call 25; refine (totrack_ret (l := la) _ (hatA0.below h2.inv.bl) hma).mono ?_; rintro e wi ⟨z, rfl, hz, hi⟩; obtain ⟨_, _, rfl⟩ := hz.slice_; replace h2 := h2.below hi; replace cA := h2.inv.ca; replace cB := h2.inv.cb; replace hsz0 := h2.inv.sz; replace c7 := h2.c7; replace c8 := h2.c8; replace z7 := h2.h7; replace z8 := h2.h8)
      | (go_at_call 27; refine (eqtrack_ret _ h2.ox.at_ hz.at_ hma2).mono ?_; rintro e wj ⟨rfl, hj⟩; replace h2 := h2.below hj; replace cA := h2.inv.ca; replace cB := h2.inv.cb; replace hsz0 := h2.inv.sz; replace c7 := h2.c7; replace c8 := h2.c8; replace z7 := h2.h7; replace z8 := h2.h8))
    all_goals
      clear hz
      go_wp2_with fail
      replace h2 := h2.drew
      go_region_with (first
        | (go_at_call 25; refine (totrack_ret (l := lb) _ (hatB0.below h2.inv.bl) hmb).mono ?_; rintro e wi ⟨z, rfl, hz, hi⟩; obtain ⟨_, _, rfl⟩ := hz.slice_; replace h2 := h2.below hi; replace cA := h2.inv.ca; replace cB := h2.inv.cb; replace hsz0 := h2.inv.sz; replace c7 := h2.c7; replace c8 := h2.c8; replace z7 := h2.h7; replace z8 := h2.h8)
        | (go_at_call 27; refine (eqtrack_ret _ h2.oy.at_ hz.at_ hmb2).mono ?_; rintro e wj ⟨rfl, hj⟩; replace h2 := h2.below hj; replace cA := h2.inv.ca; replace cB := h2.inv.cb; replace hsz0 := h2.inv.sz; replace c7 := h2.c7; replace c8 := h2.c8; replace z7 := h2.h7; replace z8 := h2.h8))
    all_goals
      go_wp2_with fail
      go_ret
      exact ⟨rfl, h2.inv.bl⟩

set_option maxRecDepth 100000 in
theorem lifted (os : Os) (started : os.Started) (H : Type) (enc : TypeId × Value → H) :
    ReturnsInHanded {} Try.checked os 6 .any (Rows.fnExactSameTrackSpec.pre6 enc Try.prog Try.f6 Rows.fnExactSameTrackRow.domain false) (Rows.fnExactSameTrackSpec.post enc Try.prog Try.f6 false true false false) := by
  refine returnsInHanded_of_change (C := Try.checked) own_ started (by kernel_rfl) Try.func6
    (ChangeSpec.witness6 (enc := enc) (C := Try.checked) false ⟨#[], #[.agg #[.slice none 0 0], .agg #[.slice none 0 0]], []⟩ 8 (by kernel_rfl) (by kernel_rfl) (by kernel_rfl) (by kernel_rfl)) ?_
  intro W base args ds gs before hval0 hW hcnd _
  have hval : ∀ (j : Nat) t v, Try.f6.params[j]? = some t → args[j]? = some v → Value.okWide Try.prog W .any base t v := hval0
  have hW' := hW
  obtain ⟨p, q, hA0, hV, rfl, hfz, hnd⟩ := hW
  have hA : DataW.TrodAll enc Try.prog W 0 (fun _ => true) true Try.f6.params.toList args.toList ds p := hA0
  rw [Try.params6] at hA hval
  obtain ⟨v0, vs0, d0, ds0, p0, q0, hargs, rfl, rfl, h0, r0⟩ := trodAll_cons hA
  obtain ⟨v1, vs1, d1, ds1, p1, q1, rfl, rfl, rfl, h1, r1⟩ := trodAll_cons r0
  obtain ⟨rfl, rfl, rfl⟩ := trodAll_nil r1
  obtain rfl : args = #[v0, v1] := by cases args; simp_all
  have w0 := open_track (hval 0 33 v0 rfl rfl) h0
  have w1 := open_track (hval 1 33 v1 rfl rfl) h1
  refine (walk W v0 w0 v1 w1).mono fun e W' ⟨he, hb⟩ => ?_
  subst he
  exact ⟨_, rfl, law_post laidOut (by kernel_rfl) rfl rfl Try.underlying4 (fun gs' h => by subst h; rfl) hW' hb⟩

theorem closed_ : joinedFacts Try.prog 6 Try.f6 Rows.fnExactSameTrackSpec Rows.fnExactSameTrackRow = true := by
  unfold joinedFacts
  rw [mayEnter_, liftsFinal_, make_, laidOut_, mapsRowed_, stopsHeard_]
  kernel_rfl

theorem proved : Rows.FnExactSameTrackSaid :=
  OpenClaim.holds_of_wide 6 Try.f6 rfl rfl rfl rfl rfl rfl rfl ⟨rfl, rfl, rfl, rfl, rfl⟩ rfl rfl rfl rfl rfl (by kernel_rfl) Try.func6 closed_
    (of_decide_eq_true (by kernel_rfl)) (by unfold Func.isWrapper; first | (rw [if_pos (by decide +kernel)]; kernel_rfl) | (rw [if_neg (by decide +kernel)]; exact ⟨rfl, rfl⟩))
    (fun os started H enc _ => lifted os started H enc)
end Go.Proofs.Ytmnddbgblhmlbaa.fnExactSameTrack
