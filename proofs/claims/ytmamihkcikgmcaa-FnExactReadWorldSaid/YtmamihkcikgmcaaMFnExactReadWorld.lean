/- For every input the law FnExactReadWorld returns true and leaves what was in memory as it was. No condition. -/
import Derived.Test.YtmamihkcikgmcaaKV
import Derived.Test.YtmamihkcikgmcaaKI
import Derived.Test.YtmamihkcikgmcaaKA
import Derived.Deep.RegionWith
import Derived.Deep.DeepCutAuto
import Derived.Deep.CutRange
import Derived.Test.YtmamihkcikgmcaaOrd
namespace Go.Proofs.Ytmamihkcikgmcaa.fnExactReadWorld
open Go.ChangeShapes Go.WideShapes Go.ChangeAt Go.RowKit
open Go.ChangeMaps (open_string shut_string)
set_option linter.unusedVariables false

/-- the first cell of a block -/
structure Cel (w : World) (g : Nat) (v : Value) : Prop where
  lt : g < w.heap.size
  c : w.cell? ⟨g, 0, none⟩ = some v
theorem Cel.below {w w' : World} {g : Nat} {v : Value} (h : Cel w g v) (hb : Below w.heap.size w w') : Cel w' g v := ⟨Nat.lt_of_lt_of_le h.lt hb.size, (hb.cell (p := ⟨g, 0, none⟩) h.lt).trans h.c⟩
theorem Cel.tch {S : Nat → Prop} {w w' : World} {g : Nat} {v : Value} (h : Cel w g v) (ht : Tch S w w') (hs : ¬ S g) : Cel w' g v := ⟨Nat.lt_of_lt_of_le h.lt ht.size, (World.cell?_of_block (ht.block g h.lt hs)).trans h.c⟩
theorem wsmall_z : WSmall zW := ⟨by simp [zW], by simp [zW], by simp [zW], by simp [zW]⟩
theorem read_small {l : List ByteArray} {s : ByteArray} : WSmall (readW l s).1 := by
  unfold readW
  split
  · rename_i h
    exact wok_small (okW_ok h.2)
  · exact wsmall_z
set_option maxRecDepth 100000 in
set_option maxHeartbeats 16000000 in
theorem walk (w : World) (a0 : Value) (w0 : Arg_level w a0) (a1 : ByteArray) (w1 : a1.size ≤ maxLen) :
    Calls Try.prog 8 #[a0, .string a1] w fun e w' => e = .returned (.bool true) ∧ Below w.heap.size w w' := by
  obtain ⟨u, rfl, l, hat, hwf⟩ := w0
  have hat0 := hat
  have hmx : l.length ≤ maxLen := by
    obtain ⟨_, ao, cap, _, hn, hmx, _⟩ := hat
    omega
  unfold maxLen at hmx hwf
  have HZ : ∀ wx, At wx 1 u l.length (l.map Value.string) → Calls Try.prog 13 #[.agg #[u], .int .i64 1048576] wx fun e w' => e = .returned (.int .i64 (szS l 1048576)) ∧ Below wx.heap.size wx w' := fun wx hx =>
    szlevel_ret (u := u) (l := l) 1048576 wx hx (by omega) (fun s hs => by have := hwf s hs; omega) (by omega) (by omega)
  by_cases hbig : a1.size ≤ 1048576
  rotate_left
  · have n0 : decide ((1048576 : Int) < (a1.size : Int)) = true := decide_eq_true (by omega)
    obtain ⟨ao, cap, rfl, hc⟩ := hat.cellS
    clear hc hat HZ hwf
    go_enter Try.func8, Try.ntmps8
    go_wp2_with fail
    go_ret
    exact ⟨rfl, (Below.refl _ _).alloc (Nat.le_refl _) _⟩
  have n0 : decide ((1048576 : Int) < (a1.size : Int)) = false := decide_eq_false (by omega)
  rcases szS_bd l 1048576 (by omega) with hneg | ⟨hneg, _, hm, hz⟩
  · simp only [hneg] at HZ
    obtain ⟨ao, cap, rfl, hc⟩ := hat.cellS
    clear hc hat
    go_enter Try.func8, Try.ntmps8
    go_wp2_with fail
    refine (HZ _ (hat0.below ((Below.refl _ _).alloc (Nat.le_refl _) _))).mono ?_
    rintro e wa ⟨rfl, ha⟩
    go_wp2_with fail
    go_ret
    exact ⟨rfl, ((Below.refl _ _).alloc (Nat.le_refl _) _).trans (ha.mono (by simp))⟩
  replace hneg : ¬ (szS l 1048576 < 0) := by omega
  generalize szS l 1048576 = Z at *
  replace hm : l.length ≤ 1048576 := by omega
  replace hz : ∀ s ∈ l, s.size ≤ 1048576 := fun s hs => by have := hz s hs; omega
  obtain ⟨R, hR⟩ : ∃ R, readW l a1 = R := ⟨_, rfl⟩
  have HSM : WSmall R.1 := by rw [← hR]; exact read_small
  have HS : ∀ (v : Value) (wx : World), At wx 1 v l.length (l.map Value.string) → Calls Try.prog 36 #[.agg #[v], .string a1] wx fun e w' => ∃ x xs xb, e = .returned (.tuple #[.agg #[x, .int .i64 R.1.tick, .int .i64 R.1.seed, xs, xb], .bool R.2]) ∧ WOwn w' wx.heap.size x xs xb R.1 ∧ Below wx.heap.size wx w' := fun v wx hx => by rw [← hR]; exact readworld_spec a1 wx hx hm hz hbig
  have HI : ∀ (v : Value) (wx : World), At wx 1 v l.length (l.map Value.string) → Calls Try.prog 37 #[.agg #[v], .string a1] wx fun e w' => ∃ x xs xb, e = .returned (.tuple #[.agg #[x, .int .i64 R.1.tick, .int .i64 R.1.seed, xs, xb], .bool R.2]) ∧ WOwn w' wx.heap.size x xs xb R.1 ∧ Below wx.heap.size wx w' := fun v wx hx => by rw [← hR]; exact readworld_impl a1 wx hx hm hz hbig
  have HT : ∀ wx, Below w.heap.size w wx → Calls Try.prog 15 #[.agg #[u]] wx fun e w' => ∃ x, e = .returned (.agg #[x]) ∧ Own w' wx.heap.size 1 x l.length (l.map Value.string) ∧ Below wx.heap.size wx w' := fun wx hx => tolevel_ret wx (hat0.below hx) hm
  have HE0 : (0 : Int) ≤ endW R.1 := by unfold endW; omega
  have HMK : ∀ (x xs xb : Value) (B : Nat) (wx : World), WOwn wx B x xs xb R.1 → Calls Try.prog 29 #[.agg #[x, .int .i64 R.1.tick, .int .i64 R.1.seed, xs, xb], .int .i64 1] wx fun e w' => e = .returned (.int .i64 (endW R.1)) ∧ WOwn w' B x xs xb (markW R.1) ∧ Tch (blkW x xs xb) wx w' := fun x xs xb B wx h1 => markworld_ret R.1.tick R.1.seed wx h1 HSM
  have HHD : ∀ (x xs xb : Value) (wx : World), WAt wx x xs xb (markW R.1) → Calls Try.prog 30 #[.agg #[x, .int .i64 R.1.tick, .int .i64 R.1.seed, xs, xb], .int .i64 1] wx fun e w' => e = .returned (.int .i64 (endW R.1)) ∧ Below wx.heap.size wx w' := fun x xs xb wx h1 => heldworld_ret R.1.tick R.1.seed wx h1 HSM
  have HEQ : ∀ (x xs xb y ys yb : Value) (wx : World), WAt wx x xs xb R.1 → WAt wx y ys yb R.1 → Calls Try.prog 27 #[.agg #[x, .int .i64 R.1.tick, .int .i64 R.1.seed, xs, xb], .agg #[y, .int .i64 R.1.tick, .int .i64 R.1.seed, ys, yb]] wx fun e w' => e = .returned (.bool true) ∧ Below wx.heap.size wx w' := fun x xs xb y ys yb wx h1 h2 => eqworld_ret wx h1 h2 HSM
  obtain ⟨X, ok⟩ := R
  simp only at HS HI HMK HHD HEQ HE0 HSM
  generalize endW X = Q at *
  clear hR hz hwf hat HSM
  go_enter Try.func8, Try.ntmps8
  go_upto_region 1 with (fail)
  generalize hw1 : w.alloc _ = w1
  have hb : Below w.heap.size w w1 := by rw [← hw1]; exact (Below.refl _ _).alloc (Nat.le_refl _) _
  have hA : Cel w1 w.heap.size u := by rw [← hw1]; exact ⟨by simp, World.cell?_alloc_new _ _ _ 0⟩
  clear hw1
  have cA := hA.c
  go_wp2_with fail
  refine (HZ _ (hat0.below hb)).mono ?_
  rintro e wa ⟨rfl, hk⟩
  clear cA
  replace hb := hb.trans (hk.mono hb.size)
  replace hA := hA.below hk
  clear hk HZ
  have cA := hA.c
  go_wp2_with fail
  refine (HT _ hb).mono ?_
  rintro e wb ⟨y0, rfl, hy, hk⟩
  clear cA
  replace hb := hb.trans (hk.mono hb.size)
  replace hA := hA.below hk
  clear hk
  go_wp2_with fail
  refine (HS _ _ hy.at_).mono ?_
  rintro e wS ⟨v, vs, vb, rfl, h0, hk⟩
  replace hb := hb.trans (hk.mono hb.size)
  replace hA := hA.below hk
  clear hk hy HS
  have o1 := slice_one h0.at_.r
  have o2 := slice_one h0.at_.s
  have o3 := slice_one h0.at_.b
  go_upto_region 8 with (with_reducible refine store_wld (op := ⟨none, _, _, _, _, _⟩) rfl _ _ rfl wS.heap.size rfl v X.tick X.seed vs vb rfl (zwthere _ _) o1 o2 o3 ?_)
  have hq := newW5 hb hb.size 36 v X.tick X.seed vs vb
  generalize hwn : World.setCells (World.alloc wS _) _ _ _ = wk8
  rw [hwn] at hq
  obtain ⟨hG8, hb', hk⟩ := hq
  replace hb := hb'
  replace hA := hA.below hk
  replace h0 := h0.below hk
  have z8 := hG8.lt
  have zA := hA.lt
  have h0l : ∀ i, blkW v vs vb i → i < wk8.heap.size := fun i hi => (h0.ge i hi).2
  clear hwn hk hb' o1 o2 o3
  generalize wS.heap.size = p8 at *
  have cA := hA.c
  go_wp2_with fail
  refine (HT _ hb).mono ?_
  rintro e wd ⟨x, rfl, hx, hk⟩
  clear cA
  replace hb := hb.trans (hk.mono hb.size)
  replace hA := hA.below hk
  replace hG8 := hG8.below hk hG8.lt
  replace h0 := h0.below hk
  have hxl : ∀ i, x.ownBlock = some i → wk8.heap.size ≤ i ∧ i < wd.heap.size := fun i hi => hx.ge i hi
  have zd := hk.size
  clear hk
  obtain ⟨xo, xc, rfl⟩ := hx.slice_
  go_upto_region 9 with (fail)
  generalize Value.slice xo l.length xc = x at *
  generalize hwe : wd.alloc _ = we
  have hk : Below wd.heap.size wd we := by rw [← hwe]; exact (Below.refl _ _).alloc (Nat.le_refl _) _
  have hC : Cel we wd.heap.size x := by rw [← hwe]; exact ⟨by simp, World.cell?_alloc_new _ _ _ 0⟩
  replace hb := hb.trans (hk.mono hb.size)
  replace hA := hA.below hk
  replace hG8 := hG8.below hk hG8.lt
  replace h0 := h0.below hk
  replace hx := hx.belowS hk
  have ze := hk.size
  clear hk hwe
  have cC := hC.c
  go_wp2_with fail
  refine (HI _ _ hx.at_).mono ?_
  rintro e wf ⟨g, gs, gb, rfl, h1, hk⟩
  clear cC
  replace hb := hb.trans (hk.mono hb.size)
  replace hA := hA.below hk
  replace hC := hC.below hk
  replace hG8 := hG8.below hk hG8.lt
  replace h0 := h0.below hk
  replace hx := hx.belowS hk
  have h1l : ∀ i, blkW g gs gb i → we.heap.size ≤ i ∧ i < wf.heap.size := h1.ge
  have zf := hk.size
  have zC := hC.lt
  clear hk
  have o1 := slice_one h1.at_.r
  have o2 := slice_one h1.at_.s
  have o3 := slice_one h1.at_.b
  go_upto_region 10 with (with_reducible refine store_wld (op := ⟨none, _, _, _, _, _⟩) rfl _ _ rfl wf.heap.size rfl g X.tick X.seed gs gb rfl (zwthere _ _) o1 o2 o3 ?_)
  have hq := newW5 hb hb.size 36 g X.tick X.seed gs gb
  generalize hwn : World.setCells (World.alloc wf _) _ _ _ = wg
  rw [hwn] at hq
  obtain ⟨hG1, hb', hk⟩ := hq
  replace hb := hb'
  replace hA := hA.below hk
  replace hC := hC.below hk
  replace hG8 := hG8.below hk hG8.lt
  replace h0 := h0.below hk
  replace hx := hx.belowS hk
  replace h1 := h1.below hk
  have zg := hk.size
  clear hwn hk hb' o1 o2 o3
  go_wp2_with (first | (with_reducible refine load_wld (op := ⟨some 39, _, _, _, _, _⟩) rfl _ rfl wf.heap.size rfl g X.tick X.seed gs gb hG1.range ?_) | (with_reducible refine load_wld (op := ⟨some 40, _, _, _, _, _⟩) rfl _ rfl p8 rfl v X.tick X.seed vs vb hG8.range ?_))
  refine (HEQ _ _ _ _ _ _ _ h1.at_ h0.at_).mono ?_
  rintro e wh ⟨rfl, hk⟩
  replace hb := hb.trans (hk.mono hb.size)
  replace hA := hA.below hk
  replace hC := hC.below hk
  replace hG8 := hG8.below hk hG8.lt
  replace hG1 := hG1.below hk hG1.lt
  replace h0 := h0.below hk
  replace hx := hx.belowS hk
  replace h1 := h1.below hk
  have zh := hk.size
  clear hk
  go_upto_region 12 with (fail)
  go_cut [52] (fun st wx => st = .bool false ∧ Below wh.heap.size wh wx)
  case first =>
    have hblD := (Below.refl wh.heap.size wh).drew
    have hbwD := hb.drew
    have hxD := hx.drew
    have hCD : Cel wh.drew wd.heap.size x := ⟨hC.lt, hC.c⟩
    have cC := hCD.c
    have cA : wh.drew.cell? ⟨w.heap.size, 0, none⟩ = some u := hA.c
    go_region_with (first | (go_at_call 15; (with_reducible refine (HT _ hbwD).mono ?_); rintro e wi ⟨y, rfl, hy, hh⟩; have hblh := hblD.trans (hh.mono (Nat.le_refl _)); have c5h := (hCD.below hh).c; have hxh := hxD.belowS hh) | (go_at_call 17; (with_reducible refine (eqlevel_ret _ hxh.at_ hy.at_ (by omega)).mono ?_); rintro e wi ⟨rfl, hi⟩; have hbli := hblh.trans (hi.mono hblh.size)))
    all_goals
      go_wp2_with fail
      go_meet
      case rel => exact ⟨rfl, hbli⟩
  case rest =>
  obtain ⟨wi, rfl⟩ : ∃ wi : World, wi = wc := ⟨_, rfl⟩
  obtain ⟨rfl, hk⟩ := hcut
  replace hb := hb.trans (hk.mono hb.size)
  replace hA := hA.below hk
  replace hC := hC.below hk
  replace hG8 := hG8.below hk hG8.lt
  replace hG1 := hG1.below hk hG1.lt
  replace h0 := h0.below hk
  replace hx := hx.belowS hk
  replace h1 := h1.below hk
  have zi := hk.size
  clear hk
  have cC := hC.c
  go_wp2_with fail
  refine (marklevel_ret _ hx hm).mono ?_
  rintro e wj ⟨rfl, _, ti⟩
  clear cC
  replace hb : Below w.heap.size w wj := hb.trans (ti.below (by omega) fun i hi => by have := hxl i hi; omega)
  replace hA := hA.tch ti fun e => by have := hxl _ e; omega
  replace hG8 := hG8.tch ti fun e => by have := hxl _ e; omega
  replace hG1 := hG1.tch ti fun e => by have := hxl _ e; omega
  replace h0 := h0.tch ti fun i hi e => by have := h0l i hi; have := hxl i e; omega
  replace h1 := h1.tch ti fun i hi e => by have := h1l i hi; have := hxl i e; omega
  have zj := ti.size
  clear ti hx hC
  have n1 : decide (1 + (l.length : Int) < 0) = false := decide_eq_false (by omega)
  obtain ⟨_, c0, c1, c2, c3, c4, _⟩ := id hG1
  obtain ⟨_, d0, d1, d2, d3, d4, _⟩ := id hG8
  go_wp2_with fail
  refine (HEQ _ _ _ _ _ _ _ h1.at_ h0.at_).mono ?_
  rintro e wk ⟨rfl, hk⟩
  clear c0 c1 c2 c3 c4 d0 d1 d2 d3 d4 n1
  replace hb := hb.trans (hk.mono hb.size)
  replace hA := hA.below hk
  replace hG8 := hG8.below hk hG8.lt
  replace hG1 := hG1.below hk hG1.lt
  replace h0 := h0.below hk
  replace h1 := h1.below hk
  have zk := hk.size
  clear hk
  go_wp2_with (with_reducible refine load_wld (op := ⟨some 69, _, _, _, _, _⟩) rfl _ rfl wf.heap.size rfl g X.tick X.seed gs gb hG1.range ?_)
  refine (HMK _ _ _ _ _ h1).mono ?_
  rintro e wl ⟨rfl, h2, tl⟩
  replace hb : Below w.heap.size w wl := hb.trans (tl.below (by omega) fun i hi => by have := h1l i hi; omega)
  replace hA := hA.tch tl fun e => by have := h1l _ e; omega
  replace hG8 := hG8.tch tl fun e => by have := h1l _ e; omega
  replace hG1 := hG1.tch tl fun e => by have := h1l _ e; omega
  replace h0 := h0.tch tl fun i hi e => by have := h0l i hi; have := h1l i e; omega
  have zl := tl.size
  clear tl h1
  go_wp2_with (with_reducible refine load_wld (op := ⟨some 72, _, _, _, _, _⟩) rfl _ rfl wf.heap.size rfl g X.tick X.seed gs gb hG1.range ?_)
  refine (HHD _ _ _ _ h2.at_).mono ?_
  rintro e wm ⟨rfl, hk⟩
  replace hb := hb.trans (hk.mono hb.size)
  replace hA := hA.below hk
  replace hG8 := hG8.below hk hG8.lt
  replace hG1 := hG1.below hk hG1.lt
  replace h0 := h0.below hk
  replace h2 := h2.below hk
  clear hk
  have n2 : decide (Q < 0) = false := decide_eq_false (by omega)
  have cA := hA.c
  go_wp2_with fail
  refine (HT _ hb).mono ?_
  rintro e wn ⟨y, rfl, hy, hk⟩
  clear cA
  replace hb := hb.trans (hk.mono hb.size)
  replace hG8 := hG8.below hk hG8.lt
  replace hG1 := hG1.below hk hG1.lt
  replace h0 := h0.below hk
  replace h2 := h2.below hk
  clear hk hA
  go_wp2_with fail
  refine (HI _ _ hy.at_).mono ?_
  rintro e wo ⟨q, qs, qb, rfl, h3, hk⟩
  replace hb := hb.trans (hk.mono hb.size)
  replace hG8 := hG8.below hk hG8.lt
  replace hG1 := hG1.below hk hG1.lt
  replace h0 := h0.below hk
  replace h2 := h2.below hk
  clear hk hy
  have o1 := slice_one h3.at_.r
  have o2 := slice_one h3.at_.s
  have o3 := slice_one h3.at_.b
  go_upto_region 27 with (with_reducible refine store_wld (op := ⟨none, _, _, _, _, _⟩) rfl _ _ rfl wo.heap.size rfl q X.tick X.seed qs qb rfl (zwthere _ _) o1 o2 o3 ?_)
  have hq := newW5 hb hb.size 36 q X.tick X.seed qs qb
  generalize hwn : World.setCells (World.alloc wo _) _ _ _ = wp
  rw [hwn] at hq
  obtain ⟨hG6, hb', hk⟩ := hq
  replace hb := hb'
  replace hG8 := hG8.below hk hG8.lt
  replace hG1 := hG1.below hk hG1.lt
  replace h0 := h0.below hk
  replace h2 := h2.below hk
  replace h3 := h3.below hk
  clear hwn hk hb' o1 o2 o3
  go_wp2_with (first | (with_reducible refine load_wld (op := ⟨some 87, _, _, _, _, _⟩) rfl _ rfl wo.heap.size rfl q X.tick X.seed qs qb hG6.range ?_) | (with_reducible refine load_wld (op := ⟨some 88, _, _, _, _, _⟩) rfl _ rfl p8 rfl v X.tick X.seed vs vb hG8.range ?_))
  refine (HEQ _ _ _ _ _ _ _ h3.at_ h0.at_).mono ?_
  rintro e wr ⟨rfl, hk⟩
  replace hb := hb.trans (hk.mono hb.size)
  replace hG1 := hG1.below hk hG1.lt
  replace h2 := h2.below hk
  clear hk hG8 hG6 h0 h3
  go_wp2_with (with_reducible refine load_wld (op := ⟨some 96, _, _, _, _, _⟩) rfl _ rfl wf.heap.size rfl g X.tick X.seed gs gb hG1.range ?_)
  refine (HHD _ _ _ _ h2.at_).mono ?_
  rintro e ws ⟨rfl, hk⟩
  replace hb := hb.trans (hk.mono hb.size)
  clear hk
  go_wp2_with fail
  go_ret
  exact ⟨rfl, hb⟩

set_option maxRecDepth 100000 in
theorem lifted (os : Os) (started : os.Started) (H : Type) (enc : TypeId × Value → H) :
    ReturnsInHanded {} Try.checked os 8 .any (Rows.fnExactReadWorldSpec.pre6 enc Try.prog Try.f8 Rows.fnExactReadWorldRow.domain false) (Rows.fnExactReadWorldSpec.post enc Try.prog Try.f8 false true false false) := by
  refine returnsInHanded_of_change (C := Try.checked) own_ started (by kernel_rfl) Try.func8
    (ChangeSpec.witness6 (enc := enc) (C := Try.checked) false ⟨#[], #[.agg #[.slice none 0 0], .string ByteArray.empty], []⟩ 8 (by kernel_rfl) (by kernel_rfl) (by kernel_rfl) (by kernel_rfl)) ?_
  intro W base args ds gs before hval0 hW hcnd _
  have hval : ∀ (j : Nat) t v, Try.f8.params[j]? = some t → args[j]? = some v → Value.okWide Try.prog W .any base t v := hval0
  have hW' := hW
  obtain ⟨p, q, hA0, hV, rfl, hfz, hnd⟩ := hW
  have hA : DataW.TrodAll enc Try.prog W 0 (fun _ => true) true Try.f8.params.toList args.toList ds p := hA0
  rw [Try.params8] at hA hval
  obtain ⟨v0, vs0, d0, ds0, p0, q0, hargs, rfl, rfl, h0, r0⟩ := trodAll_cons hA
  obtain ⟨v1, vs1, d1, ds1, p1, q1, rfl, rfl, rfl, h1, r1⟩ := trodAll_cons r0
  obtain ⟨rfl, rfl, rfl⟩ := trodAll_nil r1
  obtain rfl : args = #[v0, v1] := by cases args; simp_all
  have w0 := open_level (hval 0 24 v0 rfl rfl) h0
  obtain ⟨a1, rfl, rfl, rfl, w1⟩ := open_string Try.underlying9 (hval 1 9 v1 rfl rfl) h1
  refine (walk W v0 w0 a1 w1).mono fun e W' ⟨he, hb⟩ => ?_
  subst he
  exact ⟨_, rfl, law_post laidOut (by kernel_rfl) rfl rfl Try.underlying4 (fun gs' h => by subst h; rfl) hW' hb⟩

theorem closed_ : joinedFacts Try.prog 8 Try.f8 Rows.fnExactReadWorldSpec Rows.fnExactReadWorldRow = true := by
  unfold joinedFacts
  rw [mayEnter_, liftsFinal_, make_, laidOut_, mapsRowed_, stopsHeard_]
  kernel_rfl

theorem proved : Rows.FnExactReadWorldSaid :=
  OpenClaim.holds_of_wide 8 Try.f8 rfl rfl rfl rfl rfl rfl rfl ⟨rfl, rfl, rfl, rfl, rfl⟩ rfl rfl rfl rfl rfl (by kernel_rfl) Try.func8 closed_
    (of_decide_eq_true (by kernel_rfl)) (by unfold Func.isWrapper; first | (rw [if_pos (by decide +kernel)]; kernel_rfl) | (rw [if_neg (by decide +kernel)]; exact ⟨rfl, rfl⟩))
    (fun os started H enc _ => lifted os started H enc)
end Go.Proofs.Ytmamihkcikgmcaa.fnExactReadWorld
