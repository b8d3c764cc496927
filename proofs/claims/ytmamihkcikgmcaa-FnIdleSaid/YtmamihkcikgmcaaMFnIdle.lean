/- For every input the law FnIdle returns true and leaves what was in memory as it was. No condition. -/
import Derived.Test.YtmamihkcikgmcaaKX
import Derived.Test.YtmamihkcikgmcaaKO
import Derived.Test.YtmamihkcikgmcaaKY
import Derived.Test.YtmamihkcikgmcaaKL
import Derived.Test.YtmamihkcikgmcaaKE
import Derived.Test.YtmamihkcikgmcaaKA
import Derived.Deep.RegionWith
import Derived.Deep.DeepCutAuto
import Derived.Deep.CutRange
import Derived.Test.YtmamihkcikgmcaaOrd
namespace Go.Proofs.Ytmamihkcikgmcaa.fnIdle
open Go.ChangeShapes Go.WideShapes Go.ChangeAt Go.RowKit
open Go.ChangeMaps (open_string shut_string)
set_option linter.unusedVariables false

theorem hd_put {w : World} {B G : Nat} {x xs xb y ys yb : Value} {X Y : Wd} (h : Hd w B G x xs xb X) (hO : WOwn w B y ys yb Y) (hn : ∀ i, blkW y ys yb i → i ≠ G) :
    Hd (w.setCells G 0 (wcells y Y.tick Y.seed ys yb)) B G y ys yb Y ∧ w.grownBy (w.setCells G 0 (wcells y Y.tick Y.seed ys yb)) (some G) := by
  have hg := setCells_grown w G 0 (wcells y Y.tick Y.seed ys yb)
  exact ⟨⟨h.blk.setAll, hO.tch (S := fun i => i = G) (Tch.of_grown1 hg rfl) hn, fun e => hn _ (.inl e) rfl, fun e => hn _ (.inr (.inl e)) rfl, fun e => hn _ (.inr (.inr e)) rfl, h.ge⟩, hg⟩
theorem still_wldR {a : Act} {o : Oper} {w : World} (x : Operand) (ho : o.op = .load 36 x) (g : Nat) (hx : a.eval x = .pointer (some ⟨g, 0, none⟩)) (u : Value) (tk sd : Int) (us ub : Value) (hc : w.rangeAt g 0 (wcells u tk sd us ub)) : (execOp a.eval o).run Try.prog w = .ok (.value (.agg #[u, .int .i64 tk, .int .i64 sd, us, ub])) w := still_wldM x ho g hx u tk sd us ub hc
theorem wrapz {x : Int} (h : -9223372036854775808 ≤ x ∧ x < 9223372036854775808) : IntKind.i64.wrap x = x := by
  simp [IntKind.wrap, IntKind.bits, IntKind.signed]; omega
theorem btoi_no (w : World) : Calls Try.prog 35 #[.bool false] w fun e w' => e = .returned (.int .i64 0) ∧ w = w' := by
  go_enter Try.func35, Try.ntmps35
  go_wp2
  go_ret
  exact ⟨rfl, rfl⟩
theorem fallN_kind (l : List ByteArray) (b : Bd) : ∀ t, (fallN l t b).life = b.life := fallN_life l b
theorem idl_kind {l : List ByteArray} {n t : Nat} {w : Wd} (h : Idl l n t w) {k : Nat} (hk : k < w.bodies.length) : (bAt w.bodies k).kind ≠ 1 := by
  have hc := h.cnt
  by_cases e : k < n
  · have := (h.ok.bods.pl k (by omega)).kind
    omega
  · have hm : bAt w.bodies k ∈ w.bodies.drop n := by
      rw [bAt_eq hk]
      exact List.mem_iff_getElem?.2 ⟨k - n, by rw [List.getElem?_drop, show n + (k - n) = k by omega, List.getElem?_eq_getElem hk]⟩
    have := h.ot _ hm
    omega
theorem idl_end {l : List ByteArray} {n : Nat} {w : Wd} (h : Idl l n 40 w) (hl : l ∈ lvQ) {k : Nat} (hk : k < n) (hn : n ≤ 4) : (bAt w.bodies k).x = (freshB l k).x ∧ (bAt w.bodies k).life = 3 ∧ solA l (bAt w.bodies k).x ((bAt w.bodies k).y + 1) 12 = true := by
  have hi := idle_allQ l hl k (by omega)
  unfold idleOk at hi
  rw [Bool.and_eq_true, decide_eq_true_eq] at hi
  have hp := h.pl k hk
  refine ⟨by rw [hp]; exact hi.1, by rw [hp, fallN_life]; rfl, ?_⟩
  rw [solA_yes (by omega) (by omega) (lvQ_ok _ hl), hp]
  exact hi.2
set_option maxRecDepth 100000 in
set_option maxHeartbeats 16000000 in
theorem walk (w : World) (a0 : Value) (w0 : Arg_u8s w a0) :
    Calls Try.prog 7 #[a0] w fun e w' => e = .returned (.bool true) ∧ Below w.heap.size w w' := by
  obtain ⟨l, hat, hwf⟩ := w0
  by_cases hbig : (1048576 : Int) < (l.length : Int)
  · obtain ⟨ao, cap, rfl, _⟩ := hat.cell
    go_enter Try.func7, Try.ntmps7
    go_wp2
    go_ret
    exact ⟨rfl, Below.refl _ _⟩
  have hm : l.length ≤ 1048576 := by omega
  have hd : Code8 w a0 l := ⟨hat, hwf, hm⟩
  obtain ⟨ao, cap, rfl, _⟩ := hat.cell
  go_enter Try.func7, Try.ntmps7
  go_wp2_with fail
  refine (big_no _ _ _ _ (by omega)).mono ?_
  rintro e w' ⟨rfl, rfl⟩
  generalize Value.slice ao l.length cap = cv at *
  go_wp2_with fail
  refine (play_ret w hd).mono ?_
  rintro e w1 ⟨x, xs, xb, rv, us, X, L, r, n, s, rfl, hD, hO, hL, hb⟩
  have hpl := hb.size
  have hne : x.ownBlock ≠ some w1.heap.size ∧ xs.ownBlock ≠ some w1.heap.size ∧ xb.ownBlock ≠ some w1.heap.size := ⟨fun e => by have := (hO.r.ge _ e).2; omega, fun e => by have := (hO.s.ge _ e).2; omega, fun e => by have := (hO.b.ge _ e).2; omega⟩
  have o1 := slice_one hO.at_.r
  have o2 := slice_one hO.at_.s
  have o3 := slice_one hO.at_.b
  go_upto_region 4 with (with_reducible refine store_wld (op := ⟨none, _, _, _, _, _⟩) rfl _ _ rfl w1.heap.size rfl x X.tick X.seed xs xb rfl (zwthere _ _) o1 o2 o3 ?_)
  have hq := newW5 hb hb.size 36 x X.tick X.seed xs xb
  generalize hwn : World.setCells (World.alloc w1 _) _ _ _ = w2
  rw [hwn] at hq
  obtain ⟨hG, hb', hk⟩ := hq
  replace hb := hb'
  replace hL := hL.below hk
  replace hO := hO.below hk
  clear hwn hk hb' o1 o2 o3
  have hX := hD.wok
  have hcn := hD.cnt
  have hid0 : Idl r n 0 X := by rw [hD.w]; exact idl_new (lvQ_ok _ hD.lv) hD.n1.1 hD.n1.2 hD.sd.1 hD.sd.2
  have hlv := hD.lv
  obtain ⟨hn1, hn4⟩ := hD.n1
  have hfr : ∀ k, k < n → (bAt X.bodies k).x = (freshB r k).x := fun k hk => by rw [hid0.pl k hk]; rfl
  have hsz1 := hG.lt
  have hOl := hO.ge
  have hH3 : Hd w2 w.heap.size w1.heap.size x xs xb X := ⟨hG, hO, hne.1, hne.2.1, hne.2.2, hpl⟩
  clear hL hD hwf hat hm hd hG hO hne
  generalize w1.heap.size = p3 at *
  obtain ⟨so, sc, rfl, _⟩ := hH3.own.s.at_.cell
  have c3 := hH3.blk.c3
  have o1 := slice_one hH3.own.at_.r
  have o2 := slice_one hH3.own.at_.s
  have o3 := slice_one hH3.own.at_.b
  rw [hcn] at c3
  rw [hcn]
  rw [hcn] at hH3 o2
  go_upto_region 5 with (fail)
  go_upto_region 6 with (first | (with_reducible refine load_wld (op := ⟨some 21, _, _, _, _, _⟩) rfl _ rfl p3 rfl x X.tick X.seed _ xb hH3.blk.range ?_) | (with_reducible refine store_wld (op := ⟨none, _, _, _, _, _⟩) rfl _ _ rfl w2.heap.size rfl x X.tick X.seed _ xb rfl (zwthere _ _) o1 o2 o3 ?_))
  have hq := newW5 hb hb.size 36 x X.tick X.seed (.slice so n sc) xb
  generalize hwn : World.setCells (World.alloc w2 _) _ _ _ = w3
  rw [hwn] at hq
  obtain ⟨hG6, hb3, hk⟩ := hq
  have hH3b := hH3.below hk
  have h6 : Hd w3 w.heap.size w2.heap.size x (.slice so n sc) xb X := ⟨hG6, hH3b.own, (fun e => by have := (hH3.own.r.ge _ e).2; omega), (fun e => by have := (hH3.own.s.ge _ e).2; omega), (fun e => by have := (hH3.own.b.ge _ e).2; omega), by omega⟩
  have hl3 : ∀ i, blkH p3 x (.slice so n sc) xb i → i < w2.heap.size := fun i hi => (hH3.lt i hi).2
  clear hwn hk hb hH3 hG6 o1 o2 o3 c3 hOl
  generalize w2.heap.size = p6 at *
  have H0 : Hid (idleT n 0 X = X) := Lib.hid rfl
  have HS : Hid (∀ t, idleT n (t + 1) X = stepT (idleT n t X) (zerosL n)) := Lib.hid fun t => rfl
  have HID := Lib.hid (fun t ht => idl_run hid0 t ht)
  have hzl : (zerosL n).length = n := by simp [zerosL]
  go_wp2_with fail
  go_loopw [7] (fun i wr => ∃ t : Nat, t ≤ 40 ∧ i = .int .i64 (t : Int) ∧ (∃ y ys yb, Hd wr w.heap.size p6 y ys yb (idleT n t X)) ∧ Hd wr w.heap.size p3 x (.slice so n sc) xb X ∧ Below w.heap.size w wr) (fun i _ => 40 - (intOf i).toNat)
  case atStart => exact ⟨0, by omega, rfl, ⟨_, _, _, by rw [H0.out]; exact h6⟩, hH3b, hb3⟩
  case round =>
    clear h6 hH3b hb3
    obtain ⟨t, ht, rfl, ⟨y, ys, yb, h6⟩, h3, hb⟩ := hrel
    by_cases hlt : t < 40
    · have x1 : decide ((t : Int) < 40) = true := decide_eq_true (by omega)
      have hI := HID.out t (by omega)
      have HZ := Lib.hid (HS.out t)
      obtain ⟨Z, hZ⟩ : ∃ Z, idleT n t X = Z := ⟨_, rfl⟩
      rw [hZ] at h6 hI HZ
      clear hZ
      go_upto_region 9 with (fail)
      clear x1
      have h6d := h6.drew
      have h3d := h3.drew
      have hbd := hb.drew
      have hZok := hI.ok
      clear h6 h3 hb hI
      refine wp_region_sch (fun wx => Hd wx w.heap.size p6 y ys yb Z) 3 4 (.st 0 (.st 1 (.ef 2 (.fin [3, 4])))) (by kernel_rfl) (by kernel_rfl) (fun _ _ d _ _ h => by cases d <;> exact h) h6d ?_
      refine sch_still (o := ⟨some 26, _, _, _, _, _⟩) (v := .agg #[y, .int .i64 Z.tick, .int .i64 Z.seed, ys, yb]) rfl rfl ?_ ?_
      · intro wx hSx
        exact still_wldR _ rfl p6 rfl _ _ _ _ _ hSx.blk.range
      simp only [Act.put, List.setIfInBounds_toArray, List.set_cons_zero, List.set_cons_succ]
      refine sch_still (o := ⟨some 27, _, _, _, _, _⟩) (v := .int .i64 (n : Int)) rfl rfl ?_ ?_
      · intro wx hSx
        go_simp
      simp only [Act.put, List.setIfInBounds_toArray, List.set_cons_zero, List.set_cons_succ]
      generalize wr.drew = wq at *
      refine sch_ef (o := ⟨some 28, _, _, _, _, _⟩) rfl ?_
      refine make_int (o := ⟨some 28, _, _, _, _, _⟩) wq rfl _ _ rfl wq.heap.size n rfl rfl (by omega) (Nat.le_refl _) ?_
      intro wm hm hg
      have hk : Below wq.heap.size wq wm := (Below.refl _ _).grown hg (Nat.le_refl _) (fun k h => by cases h)
      have h6m := h6d.below hk
      have h3m := h3d.below hk
      have hbm := hbd.trans (hk.mono hbd.size)
      clear h6d h3d hbd hk hg
      generalize Value.slice (some ⟨wq.heap.size, 0, none⟩) n n = zv at hm ⊢
      have hat : At wm 1 zv (zerosL n).length (ints (zerosL n)) := by rw [hzl]; exact hm.at_
      have hSW := stepworld_impl (rv := zv) wm h6m.own.at_ (wok_small hZok) (wok_bwf hZok) hat (by omega)
      clear hm
      refine sch_next h6m ?_
      simp only [Act.put, List.setIfInBounds_toArray, List.set_cons_zero, List.set_cons_succ]
      refine sch_end (.cons (o := ⟨some 29, _, _, _, _, _⟩) rfl (.cons (o := ⟨none, _, _, _, _, _⟩) rfl .nil)) ?_
      refine wpList_callC rfl 34 _ _ rfl Try.func34 (by kernel_rfl) (by kernel_rfl) #[.agg #[y, .int .i64 Z.tick, .int .i64 Z.seed, ys, yb], zv] (by kernel_rfl) (hSW) ?_
      rintro e wd ⟨q, qs, qb, rfl, hO2, hk⟩
      refine ⟨_, rfl, ?_⟩
      have h6e := h6m.below hk
      have h3e := h3m.below hk
      have hbe := hbm.trans (hk.mono hbm.size)
      have hg6 := h6m.blk.lt
      have hOg := hO2.ge
      have hbz := hbm.size
      have hOm := hO2.mono (B' := w.heap.size) (by omega)
      have ox := slice_one hO2.at_.r
      have oxs := slice_one hO2.at_.s
      have oxb := slice_one hO2.at_.b
      clear h6m h3m hbm hk hSW hO2 hat
      simp only [Act.put, List.setIfInBounds_toArray, List.set_cons_zero, List.set_cons_succ]
      refine store_wld (op := ⟨none, _, _, _, _, _⟩) rfl _ _ rfl p6 rfl q (stepT Z (zerosL n)).tick (stepT Z (zerosL n)).seed qs qb rfl h6e.blk.there ox oxs oxb ?_
      have hq := hd_put h6e hOm (fun i hi e => by have := hOg i hi; omega)
      generalize World.setCells wd _ _ _ = wn at hq
      obtain ⟨hHn, hgr⟩ := hq
      have h3n := h3e.tch (S := fun i => i = p6) (Tch.of_grown1 hgr rfl) (fun i hi e => by have := hl3 i hi; omega)
      have hbn : Below w.heap.size w wn := hbe.grown hgr (by have := h6e.blk.lt; omega) (fun k h => by simp only [Option.some.injEq] at h; omega)
      clear h6e h3e hbe hgr hOm ox oxs oxb
      go_wp2_with fail
      go_roundw
      case rel => exact ⟨t + 1, by omega, by go_num, ⟨_, _, _, by rw [HZ.out]; exact hHn⟩, h3n, hbn⟩
      case measure => simp [intOf]; omega
    · obtain rfl : t = 40 := by omega
      have hI := HID.out 40 (by omega)
      rw [show ((40 : Nat) : Int) = 40 from rfl]
      have x1 : decide ((40 : Int) < 40) = false := by decide
      obtain ⟨Z, hZ⟩ : ∃ Z, idleT n 40 X = Z := ⟨_, rfl⟩
      rw [hZ] at h6 hI
      clear hZ HS H0 HID
      have hZm := hI.ok.bods.most
      have hZl : 0 < Z.bodies.length := by have := hI.ok.bods.le; have := hI.ok.n.1; omega
      obtain ⟨g, cp, rfl, hgw⟩ := h6.formB hZl
      have c4 := h6.blk.c4
      have HK := Lib.hid (fun k hk => idl_kind hI (k := k) hk)
      go_wp2_with fail
      go_loopw [8, 9] (fun sh i wx => sh = .int .i64 0 ∧ ∃ k : Nat, k ≤ Z.bodies.length ∧ i = .int .i64 (k : Int) ∧ Hd wx w.heap.size p6 y ys (.slice (some ⟨g, 0, none⟩) Z.bodies.length cp) Z ∧ Hd wx w.heap.size p3 x (.slice so n sc) xb X ∧ Below w.heap.size w wx) (fun _ i _ => Z.bodies.length - (intOf i).toNat)
      case atStart => exact ⟨rfl, 0, Nat.zero_le _, rfl, h6, h3, hb⟩
      case round =>
        clear h6 h3 hb c4 hgw x1
        obtain ⟨rfl, k, hk, rfl, h6, h3, hb⟩ := hrel
        by_cases hlt : k < Z.bodies.length
        · have c4 := h6.blk.c4
          obtain ⟨e0, _⟩ := h6.elemAt hlt
          have hkd := HK.out k hlt
          have x2 : ((bAt Z.bodies k).kind == 1) = false := beq_eq_false_iff_ne.2 hkd
          generalize (bAt Z.bodies k).kind = kd at *
          go_wp2_with fail
          refine (btoi_no _).mono ?_
          rintro e w' ⟨rfl, rfl⟩
          go_wp2_with fail
          go_roundw
          case rel => exact ⟨by first | rfl | go_num, k + 1, by omega, by go_num, h6, h3, hb⟩
          case measure => simp [intOf]; omega
        · obtain rfl : k = Z.bodies.length := by omega
          have hZr := hI.rows
          have hXl : n ≤ X.bodies.length := by have := hX.bods.le; omega
          have hZn : n ≤ Z.bodies.length := by have := hI.ok.bods.le; have := hI.cnt; omega
          obtain ⟨gx, cx, rfl, hgx⟩ := h3.formB (by omega)
          have htk := hI.tick
          have HE := Lib.hid (fun k hk => idl_end hI hlv (k := k) hk hn4)
          have HFX := Lib.hid hfr
          obtain ⟨hl12, hl20⟩ := lv_sizes (lvQ_ok _ hlv)
          have hZb : ∀ k, k < n → -9223372036854775808 ≤ (bAt Z.bodies k).x ∧ (bAt Z.bodies k).x ≤ 9223372036854775807 ∧ -9223372036854775808 ≤ (bAt Z.bodies k).y ∧ (bAt Z.bodies k).y ≤ 9223372036854775806 := fun k hk => by
            have hf := hI.ok.bods.pl k (by have := hI.cnt; omega)
            have := free_bd (lvT_lv hI.ok.lv) (by omega) (by omega) hf.free
            omega
          have HSO : ∀ (p q : Int) (wx : World), (-9223372036854775808 ≤ p ∧ p ≤ 9223372036854775807) → (-9223372036854775808 ≤ q ∧ q ≤ 9223372036854775807) → At wx 1 y Z.rows.length (Z.rows.map Value.string) → Calls Try.prog 23 #[.agg #[y], .int .i64 p, .int .i64 q, .int .i64 12] wx fun e w' => e = .returned (.bool (solA r p q 12)) ∧ Below wx.heap.size wx w' := fun p q wx hp hq hz => by
            rw [← hZr]
            exact solat_impl p q 12 wx hz (by rw [hZr]; omega) (fun t ht => by rw [hZr] at ht; have := hl20 t ht; omega) hp hq
          clear hl12 hl20 hI HK hfr hid0 hX hZr hlt hk hzl hl3
          have x2 : decide ((Z.bodies.length : Int) < (Z.bodies.length : Int)) = false := decide_eq_false (by omega)
          have c4 := h6.blk.c4
          go_wp2_with fail
          clear x2 c4
          go_loopw [10] (fun i wx => ∃ k : Nat, k ≤ n ∧ i = .int .i64 (k : Int) ∧ Hd wx w.heap.size p6 y ys (.slice (some ⟨g, 0, none⟩) Z.bodies.length cp) Z ∧ Hd wx w.heap.size p3 x (.slice so n sc) (.slice (some ⟨gx, 0, none⟩) X.bodies.length cx) X ∧ Below w.heap.size w wx) (fun i _ => n - (intOf i).toNat)
          case atStart => exact ⟨0, Nat.zero_le _, rfl, h6, h3, hb⟩
          case round =>
            clear h6 h3 hb hgx
            obtain ⟨k, hk, rfl, h6, h3, hb⟩ := hrel
            by_cases hkn : k < n
            · have x1 : decide ((k : Int) < (n : Int)) = true := decide_eq_true (by omega)
              obtain ⟨hx, hlf, hsol⟩ := HE.out k hkn
              have hxf := HFX.out k hkn
              have hzb := hZb k hkn
              have hkz : k < Z.bodies.length := by omega
              have hkx : k < X.bodies.length := by omega
              rw [hx] at hsol hzb
              obtain ⟨F, hF⟩ : ∃ F, (freshB r k).x = F := ⟨_, rfl⟩
              rw [hF] at hx hxf hsol hzb
              obtain ⟨yy, hyy⟩ : ∃ yy, (bAt Z.bodies k).y = yy := ⟨_, rfl⟩
              rw [hyy] at hsol hzb
              have HX1 := Lib.hid hx
              have HX2 := Lib.hid hxf
              have HX3 := Lib.hid hyy
              have HX4 := Lib.hid hlf
              clear hx hxf hyy hlf hF
              go_upto_region 18 with (fail)
              clear x1
              have h6d := h6.drew
              have h3d := h3.drew
              have hbd := hb.drew
              clear h6 h3 hb
              refine wp_region_sch2 (fun wx => Hd wx w.heap.size p6 y ys (.slice (some ⟨g, 0, none⟩) Z.bodies.length cp) Z ∧ Hd wx w.heap.size p3 x (.slice so n sc) (.slice (some ⟨gx, 0, none⟩) X.bodies.length cx) X) 38 [0, 1, 2, 3, 4, 5, 6, 7, 8, 9, 10, 11, 12, 13, 14, 15, 16, 17, 18, 19, 20, 21, 22, 23, 24, 25, 26, 27, 28, 29, 30, 31, 32, 33, 34, 35, 36, 37] (.st 0 (.st 1 (.st 2 (.st 3 (.st 4 (.st 5 (.st 6 (.st 7 (.st 8 (.st 9 (.st 10 (.st 11 (.st 12 (.st 13 (.st 14 (.st 15 (.st 16 (.st 17 (.st 18 (.st 19 (.st 20 (.st 21 (.st 22 (.st 23 (.st 24 (.st 25 (.st 26 (.st 27 (.st 28 (.st 29 (.st 30 (.st 31 (.st 32 (.st 33 (.st 34 (.st 35 (.st 36 (.st 37 (.fin [38, 39, 40]))))))))))))))))))))))))))))))))))))))) (by kernel_rfl) (by kernel_rfl) (fun _ _ d _ _ h => by cases d <;> exact h) ⟨h6d, h3d⟩ ?_
              refine sch_still (o := ⟨some 52, _, _, _, _, _⟩) (v := .pointer (some ⟨p6, 4, none⟩)) rfl rfl ?_ ?_
              · intro wx hSx
                go_simp
              simp only [Act.put, List.setIfInBounds_toArray, List.set_cons_zero, List.set_cons_succ]
              refine sch_still (o := ⟨some 53, _, _, _, _, _⟩) (v := (.slice (some ⟨g, 0, none⟩) Z.bodies.length cp)) rfl rfl ?_ ?_
              · intro wx hSx
                have e := hSx.1.blk.c4; go_simp
              simp only [Act.put, List.setIfInBounds_toArray, List.set_cons_zero, List.set_cons_succ]
              refine sch_still (o := ⟨some 54, _, _, _, _, _⟩) (v := .int .i64 (k : Int)) rfl rfl ?_ ?_
              · intro wx hSx
                go_simp
              simp only [Act.put, List.setIfInBounds_toArray, List.set_cons_zero, List.set_cons_succ]
              refine sch_still (o := ⟨some 55, _, _, _, _, _⟩) (v := .pointer (some ⟨g, k * 9, none⟩)) rfl rfl ?_ ?_
              · intro wx hSx
                go_simp; first | done | (intro e; exact absurd e (by omega))
              simp only [Act.put, List.setIfInBounds_toArray, List.set_cons_zero, List.set_cons_succ]
              refine sch_still (o := ⟨some 56, _, _, _, _, _⟩) (v := .pointer (some ⟨g, k * 9 + 2, none⟩)) rfl rfl ?_ ?_
              · intro wx hSx
                go_simp
              simp only [Act.put, List.setIfInBounds_toArray, List.set_cons_zero, List.set_cons_succ]
              refine sch_still (o := ⟨some 57, _, _, _, _, _⟩) (v := .int .i64 (F)) rfl rfl ?_ ?_
              · intro wx hSx
                have e := (hSx.1.elemAt hkz).c2; rw [HX1.out] at e; go_simp
              simp only [Act.put, List.setIfInBounds_toArray, List.set_cons_zero, List.set_cons_succ]
              refine sch_still (o := ⟨some 58, _, _, _, _, _⟩) (v := .pointer (some ⟨p3, 4, none⟩)) rfl rfl ?_ ?_
              · intro wx hSx
                go_simp
              simp only [Act.put, List.setIfInBounds_toArray, List.set_cons_zero, List.set_cons_succ]
              refine sch_still (o := ⟨some 59, _, _, _, _, _⟩) (v := (.slice (some ⟨gx, 0, none⟩) X.bodies.length cx)) rfl rfl ?_ ?_
              · intro wx hSx
                have e := hSx.2.blk.c4; go_simp
              simp only [Act.put, List.setIfInBounds_toArray, List.set_cons_zero, List.set_cons_succ]
              refine sch_still (o := ⟨some 60, _, _, _, _, _⟩) (v := .int .i64 (k : Int)) rfl rfl ?_ ?_
              · intro wx hSx
                go_simp
              simp only [Act.put, List.setIfInBounds_toArray, List.set_cons_zero, List.set_cons_succ]
              refine sch_still (o := ⟨some 61, _, _, _, _, _⟩) (v := .pointer (some ⟨gx, k * 9, none⟩)) rfl rfl ?_ ?_
              · intro wx hSx
                go_simp; first | done | (intro e; exact absurd e (by omega))
              simp only [Act.put, List.setIfInBounds_toArray, List.set_cons_zero, List.set_cons_succ]
              refine sch_still (o := ⟨some 62, _, _, _, _, _⟩) (v := .pointer (some ⟨gx, k * 9 + 2, none⟩)) rfl rfl ?_ ?_
              · intro wx hSx
                go_simp
              simp only [Act.put, List.setIfInBounds_toArray, List.set_cons_zero, List.set_cons_succ]
              refine sch_still (o := ⟨some 63, _, _, _, _, _⟩) (v := .int .i64 (F)) rfl rfl ?_ ?_
              · intro wx hSx
                have e := (hSx.2.elemAt hkx).c2; rw [HX2.out] at e; go_simp
              simp only [Act.put, List.setIfInBounds_toArray, List.set_cons_zero, List.set_cons_succ]
              refine sch_still (o := ⟨some 64, _, _, _, _, _⟩) (v := .bool false) rfl rfl ?_ ?_
              · intro wx hSx
                go_simp
              simp only [Act.put, List.setIfInBounds_toArray, List.set_cons_zero, List.set_cons_succ]
              refine sch_still (o := ⟨some 65, _, _, _, _, _⟩) (v := .bool false) rfl rfl ?_ ?_
              · intro wx hSx
                go_simp
              simp only [Act.put, List.setIfInBounds_toArray, List.set_cons_zero, List.set_cons_succ]
              refine sch_gd (o := ⟨some 66, _, _, _, _, _⟩) (v := .pointer (some ⟨p6, 4, none⟩)) rfl (by rfl) ?_ ?_
              · intro wx hSx
                go_simp
              simp only [Act.put, List.setIfInBounds_toArray, List.set_cons_zero, List.set_cons_succ]
              refine sch_gd (o := ⟨some 67, _, _, _, _, _⟩) (v := (.slice (some ⟨g, 0, none⟩) Z.bodies.length cp)) rfl (by rfl) ?_ ?_
              · intro wx hSx
                have e := hSx.1.blk.c4; go_simp
              simp only [Act.put, List.setIfInBounds_toArray, List.set_cons_zero, List.set_cons_succ]
              refine sch_gd (o := ⟨some 68, _, _, _, _, _⟩) (v := .int .i64 (k : Int)) rfl (by rfl) ?_ ?_
              · intro wx hSx
                go_simp
              simp only [Act.put, List.setIfInBounds_toArray, List.set_cons_zero, List.set_cons_succ]
              refine sch_gd (o := ⟨some 69, _, _, _, _, _⟩) (v := .pointer (some ⟨g, k * 9, none⟩)) rfl (by rfl) ?_ ?_
              · intro wx hSx
                go_simp; first | done | (intro e; exact absurd e (by omega))
              simp only [Act.put, List.setIfInBounds_toArray, List.set_cons_zero, List.set_cons_succ]
              refine sch_gd (o := ⟨some 70, _, _, _, _, _⟩) (v := .pointer (some ⟨g, k * 9 + 7, none⟩)) rfl (by rfl) ?_ ?_
              · intro wx hSx
                go_simp
              simp only [Act.put, List.setIfInBounds_toArray, List.set_cons_zero, List.set_cons_succ]
              refine sch_gd (o := ⟨some 71, _, _, _, _, _⟩) (v := .int .i64 (3)) rfl (by rfl) ?_ ?_
              · intro wx hSx
                have e := (hSx.1.elemAt hkz).c7; rw [HX4.out] at e; go_simp
              simp only [Act.put, List.setIfInBounds_toArray, List.set_cons_zero, List.set_cons_succ]
              refine sch_gd (o := ⟨some 72, _, _, _, _, _⟩) (v := .bool false) rfl (by rfl) ?_ ?_
              · intro wx hSx
                go_simp
              simp only [Act.put, List.setIfInBounds_toArray, List.set_cons_zero, List.set_cons_succ]
              refine sch_still (o := ⟨some 73, _, _, _, _, _⟩) (v := .bool false) rfl rfl ?_ ?_
              · intro wx hSx
                go_simp
              simp only [Act.put, List.setIfInBounds_toArray, List.set_cons_zero, List.set_cons_succ]
              refine sch_still (o := ⟨some 74, _, _, _, _, _⟩) (v := .bool false) rfl rfl ?_ ?_
              · intro wx hSx
                go_simp
              simp only [Act.put, List.setIfInBounds_toArray, List.set_cons_zero, List.set_cons_succ]
              refine sch_gd (o := ⟨some 75, _, _, _, _, _⟩) (v := .pointer (some ⟨p6, 0, none⟩)) rfl (by rfl) ?_ ?_
              · intro wx hSx
                go_simp
              simp only [Act.put, List.setIfInBounds_toArray, List.set_cons_zero, List.set_cons_succ]
              refine sch_gd (o := ⟨some 76, _, _, _, _, _⟩) (v := .agg #[y]) rfl (by rfl) ?_ ?_
              · intro wx hSx
                have e := hSx.1.blk.c0; go_simp
              simp only [Act.put, List.setIfInBounds_toArray, List.set_cons_zero, List.set_cons_succ]
              refine sch_gd (o := ⟨some 77, _, _, _, _, _⟩) (v := .pointer (some ⟨p6, 4, none⟩)) rfl (by rfl) ?_ ?_
              · intro wx hSx
                go_simp
              simp only [Act.put, List.setIfInBounds_toArray, List.set_cons_zero, List.set_cons_succ]
              refine sch_gd (o := ⟨some 78, _, _, _, _, _⟩) (v := (.slice (some ⟨g, 0, none⟩) Z.bodies.length cp)) rfl (by rfl) ?_ ?_
              · intro wx hSx
                have e := hSx.1.blk.c4; go_simp
              simp only [Act.put, List.setIfInBounds_toArray, List.set_cons_zero, List.set_cons_succ]
              refine sch_gd (o := ⟨some 79, _, _, _, _, _⟩) (v := .int .i64 (k : Int)) rfl (by rfl) ?_ ?_
              · intro wx hSx
                go_simp
              simp only [Act.put, List.setIfInBounds_toArray, List.set_cons_zero, List.set_cons_succ]
              refine sch_gd (o := ⟨some 80, _, _, _, _, _⟩) (v := .pointer (some ⟨g, k * 9, none⟩)) rfl (by rfl) ?_ ?_
              · intro wx hSx
                go_simp; first | done | (intro e; exact absurd e (by omega))
              simp only [Act.put, List.setIfInBounds_toArray, List.set_cons_zero, List.set_cons_succ]
              refine sch_gd (o := ⟨some 81, _, _, _, _, _⟩) (v := .pointer (some ⟨g, k * 9 + 2, none⟩)) rfl (by rfl) ?_ ?_
              · intro wx hSx
                go_simp
              simp only [Act.put, List.setIfInBounds_toArray, List.set_cons_zero, List.set_cons_succ]
              refine sch_gd (o := ⟨some 82, _, _, _, _, _⟩) (v := .int .i64 (F)) rfl (by rfl) ?_ ?_
              · intro wx hSx
                have e := (hSx.1.elemAt hkz).c2; rw [HX1.out] at e; go_simp
              simp only [Act.put, List.setIfInBounds_toArray, List.set_cons_zero, List.set_cons_succ]
              refine sch_gd (o := ⟨some 83, _, _, _, _, _⟩) (v := .pointer (some ⟨p6, 4, none⟩)) rfl (by rfl) ?_ ?_
              · intro wx hSx
                go_simp
              simp only [Act.put, List.setIfInBounds_toArray, List.set_cons_zero, List.set_cons_succ]
              refine sch_gd (o := ⟨some 84, _, _, _, _, _⟩) (v := (.slice (some ⟨g, 0, none⟩) Z.bodies.length cp)) rfl (by rfl) ?_ ?_
              · intro wx hSx
                have e := hSx.1.blk.c4; go_simp
              simp only [Act.put, List.setIfInBounds_toArray, List.set_cons_zero, List.set_cons_succ]
              refine sch_gd (o := ⟨some 85, _, _, _, _, _⟩) (v := .int .i64 (k : Int)) rfl (by rfl) ?_ ?_
              · intro wx hSx
                go_simp
              simp only [Act.put, List.setIfInBounds_toArray, List.set_cons_zero, List.set_cons_succ]
              refine sch_gd (o := ⟨some 86, _, _, _, _, _⟩) (v := .pointer (some ⟨g, k * 9, none⟩)) rfl (by rfl) ?_ ?_
              · intro wx hSx
                go_simp; first | done | (intro e; exact absurd e (by omega))
              simp only [Act.put, List.setIfInBounds_toArray, List.set_cons_zero, List.set_cons_succ]
              refine sch_gd (o := ⟨some 87, _, _, _, _, _⟩) (v := .pointer (some ⟨g, k * 9 + 3, none⟩)) rfl (by rfl) ?_ ?_
              · intro wx hSx
                go_simp
              simp only [Act.put, List.setIfInBounds_toArray, List.set_cons_zero, List.set_cons_succ]
              refine sch_gd (o := ⟨some 88, _, _, _, _, _⟩) (v := .int .i64 (yy)) rfl (by rfl) ?_ ?_
              · intro wx hSx
                have e := (hSx.1.elemAt hkz).c3; rw [HX3.out] at e; go_simp
              simp only [Act.put, List.setIfInBounds_toArray, List.set_cons_zero, List.set_cons_succ]
              refine sch_gd (o := ⟨some 89, _, _, _, _, _⟩) (v := .int .i64 (yy + 1)) rfl (by rfl) ?_ ?_
              · intro wx hSx
                go_simp; first | done | exact wrapz (by omega)
              simp only [Act.put, List.setIfInBounds_toArray, List.set_cons_zero, List.set_cons_succ]
              have hSS := HSO F (yy + 1) wr.drew ⟨hzb.1, hzb.2.1⟩ (by omega) h6d.own.at_.r
              rw [hsol] at hSS
              generalize wr.drew = wq at *
              refine sch_end (.cons (o := ⟨some 90, _, _, _, _, _⟩) rfl (.cons (o := ⟨some 91, _, _, _, _, _⟩) rfl (.cons (o := ⟨some 92, _, _, _, _, _⟩) rfl .nil))) ?_
              go_wp2_with fail
              refine hSS.mono ?_
              rintro e wF ⟨rfl, hk2⟩
              have h6f := h6d.below hk2
              have h3f := h3d.below hk2
              have hbf := hbd.trans (hk2.mono hbd.size)
              clear h6d h3d hbd hk2 hSS hsol
              go_wp2_with fail
              go_roundw
              case rel => exact ⟨k + 1, by omega, by go_num, h6f, h3f, hbf⟩
              case measure => simp [intOf]; omega
            · obtain rfl : k = n := by omega
              have c1 := h6.blk.c1
              rw [htk] at c1
              have x1 : decide ((k : Int) < (k : Int)) = false := decide_eq_false (by omega)
              go_wp2_with fail
              go_ret
              exact ⟨by first | rfl | exact ret_bool (by simp), hb⟩

set_option maxRecDepth 100000 in
theorem lifted (os : Os) (started : os.Started) (H : Type) (enc : TypeId × Value → H) :
    ReturnsInHanded {} Try.checked os 7 .any (Rows.fnIdleSpec.pre6 enc Try.prog Try.f7 Rows.fnIdleRow.domain false) (Rows.fnIdleSpec.post enc Try.prog Try.f7 false true false false) := by
  refine returnsInHanded_of_change (C := Try.checked) own_ started (by kernel_rfl) Try.func7
    (ChangeSpec.witness6 (enc := enc) (C := Try.checked) false ⟨#[], #[.slice none 0 0], []⟩ 8 (by kernel_rfl) (by kernel_rfl) (by kernel_rfl) (by kernel_rfl)) ?_
  intro W base args ds gs before hval0 hW hcnd _
  have hval : ∀ (j : Nat) t v, Try.f7.params[j]? = some t → args[j]? = some v → Value.okWide Try.prog W .any base t v := hval0
  have hW' := hW
  obtain ⟨p, q, hA0, hV, rfl, hfz, hnd⟩ := hW
  have hA : DataW.TrodAll enc Try.prog W 0 (fun _ => true) true Try.f7.params.toList args.toList ds p := hA0
  rw [Try.params7] at hA hval
  obtain ⟨v0, vs0, d0, ds0, p0, q0, hargs, rfl, rfl, h0, r0⟩ := trodAll_cons hA
  obtain ⟨rfl, rfl, rfl⟩ := trodAll_nil r0
  obtain rfl : args = #[v0] := by cases args; simp_all
  have w0 := open_u8s (hval 0 31 v0 rfl rfl) h0
  refine (walk W v0 w0).mono fun e W' ⟨he, hb⟩ => ?_
  subst he
  exact ⟨_, rfl, law_post laidOut (by kernel_rfl) rfl rfl Try.underlying4 (fun gs' h => by subst h; rfl) hW' hb⟩

theorem closed_ : joinedFacts Try.prog 7 Try.f7 Rows.fnIdleSpec Rows.fnIdleRow = true := by
  unfold joinedFacts
  rw [mayEnter_, liftsFinal_, make_, laidOut_, mapsRowed_, stopsHeard_]
  kernel_rfl

theorem proved : Rows.FnIdleSaid :=
  OpenClaim.holds_of_wide 7 Try.f7 rfl rfl rfl rfl rfl rfl rfl ⟨rfl, rfl, rfl, rfl, rfl⟩ rfl rfl rfl rfl rfl (by kernel_rfl) Try.func7 closed_
    (of_decide_eq_true (by kernel_rfl)) (by unfold Func.isWrapper; first | (rw [if_pos (by decide +kernel)]; kernel_rfl) | (rw [if_neg (by decide +kernel)]; exact ⟨rfl, rfl⟩))
    (fun os started H enc _ => lifted os started H enc)
end Go.Proofs.Ytmamihkcikgmcaa.fnIdle
