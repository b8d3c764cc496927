/- For every input the law FnWorldWhole returns true and leaves what was in memory as it was. No condition. -/
import Derived.Test.YtmamihkcikgmcaaKX
import Derived.Test.YtmamihkcikgmcaaKS1
import Derived.Test.YtmamihkcikgmcaaKU
import Derived.Test.YtmamihkcikgmcaaKZ2
import Derived.Test.YtmamihkcikgmcaaKJ
import Derived.Test.YtmamihkcikgmcaaKA
import Derived.Deep.RegionWith
import Derived.Deep.DeepCutAuto
import Derived.Deep.CutRange
import Derived.Test.YtmamihkcikgmcaaOrd
namespace Go.Proofs.Ytmamihkcikgmcaa.fnWorldWhole
open Go.ChangeShapes Go.WideShapes Go.ChangeAt Go.RowKit
open Go.ChangeMaps (open_string shut_string)
set_option linter.unusedVariables false

structure WhI (w w2 wx : World) (A : Wd) (p : Value) : Prop where
  ex : ∃ G y ys yb, p = .pointer (some ⟨G, 0, none⟩) ∧ Hd wx w.heap.size G y ys yb A
  bl : Below w2.heap.size w2 wx
theorem still_wldR {a : Act} {o : Oper} {w : World} (x : Operand) (ho : o.op = .load 36 x) (g : Nat) (hx : a.eval x = .pointer (some ⟨g, 0, none⟩)) (u : Value) (tk sd : Int) (us ub : Value) (hc : w.rangeAt g 0 (wcells u tk sd us ub)) : (execOp a.eval o).run Try.prog w = .ok (.value (.agg #[u, .int .i64 tk, .int .i64 sd, us, ub])) w := still_wldM x ho g hx u tk sd us ub hc
theorem hd_new {w wn : World} {G : Nat} {y ys yb : Value} {A : Wd} (hG : WBlk wn G y A.tick A.seed ys yb) (hO : WOwn wn w.heap.size y ys yb A) (hn : ∀ i, blkW y ys yb i → i ≠ G) (h : w.heap.size ≤ G) : Hd wn w.heap.size G y ys yb A := ⟨hG, hO, fun e => hn _ (.inl e) rfl, fun e => hn _ (.inr (.inl e)) rfl, fun e => hn _ (.inr (.inr e)) rfl, h⟩
set_option maxRecDepth 100000 in
set_option maxHeartbeats 16000000 in
theorem walk (w : World) (a0 : Value) (w0 : Arg_u8s w a0) :
    Calls Try.prog 9 #[a0] w fun e w' => e = .returned (.bool true) ∧ Below w.heap.size w w' := by
  obtain ⟨l, hat, hwf⟩ := w0
  by_cases hbig : (1048576 : Int) < (l.length : Int)
  · obtain ⟨ao, cap, rfl, _⟩ := hat.cell
    go_enter Try.func9, Try.ntmps9
    go_wp2
    go_ret
    exact ⟨rfl, Below.refl _ _⟩
  have hm : l.length ≤ 1048576 := by omega
  have hd : Code8 w a0 l := ⟨hat, hwf, hm⟩
  obtain ⟨ao, cap, rfl, _⟩ := hat.cell
  go_enter Try.func9, Try.ntmps9
  go_wp2_with fail
  refine (big_no _ _ _ _ (by omega)).mono ?_
  rintro e w' ⟨rfl, rfl⟩
  generalize Value.slice ao l.length cap = cv at *
  go_wp2_with fail
  refine (play_ret w hd).mono ?_
  rintro e w1 ⟨x, xs, xb, rv, us, X, L, r, n, s, rfl, hD, hO, hL, hb⟩
  have hpl := hb.size
  have hne : x.ownBlock ≠ some w1.heap.size ∧ xs.ownBlock ≠ some w1.heap.size ∧ xb.ownBlock ≠ some w1.heap.size := ⟨fun e => by have := (hO.r.ge _ e).2; omega, fun e => by have := (hO.s.ge _ e).2; omega, fun e => by have := (hO.b.ge _ e).2; omega⟩
  have o1 := slice_one hO.at_.r
  have o2 := slice_one hO.at_.s
  have o3 := slice_one hO.at_.b
  go_upto_region 4 with (with_reducible refine store_wld (op := ⟨none, _, _, _, _, _⟩) rfl _ _ rfl w1.heap.size rfl x X.tick X.seed xs xb rfl (zwthere _ _) o1 o2 o3 ?_)
  have hq := newW5 hb hb.size 36 x X.tick X.seed xs xb
  generalize hwn : World.setCells (World.alloc w1 _) _ _ _ = w2
  rw [hwn] at hq
  obtain ⟨hG, hb', hk⟩ := hq
  replace hb := hb'
  replace hL := hL.below hk
  replace hO := hO.below hk
  clear hwn hk hb' o1 o2 o3
  have hX := hD.wok
  have hcn := hD.cnt
  have hXr := hD.rows
  have hlv := lvQ_ok _ hD.lv
  obtain ⟨hn1, hn4⟩ := hD.n1
  obtain ⟨hs1, hs2⟩ := hD.sd
  have hXw := hD.w
  have hSS := hD.small
  have hrok := fun q hq => hD.rowok (q := q) hq
  have hll := hD.ll
  have hsm := wok_small hX
  have hbw := wok_bwf hX
  have hpG := hG.lt
  have hOl := hO.ge
  have hn := hL.n
  have h3 : Hd w2 w.heap.size w1.heap.size x xs xb X := hd_new hG hO (fun i hi e => by rcases hi with h | h | h; (· exact hne.1 (by rw [h, e])); (· exact hne.2.1 (by rw [h, e])); (· exact hne.2.2 (by rw [h, e]))) hpl
  obtain ⟨ro, rc, rfl, hrc⟩ := hL.o.cells1
  have hcap : us.length ≤ rc := by
    obtain ⟨_, ao', cap', he, hnc, _⟩ := hL.o
    simp only [Value.slice.injEq] at he
    omega
  rw [hn] at hL hcap ⊢
  clear hrc hn hne hO hG hOl
  generalize w1.heap.size = p3 at *
  go_wp2_with fail
  refine (at_ret cv l 0 _ (hat.below hb) (by omega) (by omega) hm hwf).mono ?_
  rintro e w' ⟨rfl, rfl⟩
  have hA0 := atV_bd hwf 0
  generalize atV l 0 = A0 at *
  go_upto_region 5 with (fail)
  obtain ⟨k, hk0⟩ : ∃ k : Nat, A0 % ((L.length : Int) + 1) = (k : Int) := ⟨(A0 % ((L.length : Int) + 1)).toNat, by have := Int.emod_nonneg A0 (b := (L.length : Int) + 1) (by omega); omega⟩
  have hkl : k ≤ L.length := by have := Int.emod_lt_of_pos A0 (b := (L.length : Int) + 1) (by omega); omega
  rw [hk0]
  clear hk0 hA0 hat hwf hm hd hbig
  have hbl := Below.refl w2.heap.size w2
  obtain ⟨A, hA⟩ : ∃ A, runT X (L.take k) = A := ⟨_, rfl⟩
  obtain ⟨D, hDD⟩ : ∃ D, runT X L = D := ⟨_, rfl⟩
  have hAD : runT A (L.drop k) = D := by rw [← hA, ← hDD]; exact run_split X L k
  have hAok := (runT_ok (L.take k) hX)
  have hDok := (runT_ok L hX)
  have hDt := run_tick L hX (by rw [hcn]; exact hrok) (by rw [hXw]; show (0 : Int) + _ ≤ _; omega)
  rw [hA] at hAok
  rw [hDD] at hDok hDt
  have hXt : X.tick = 0 := by rw [hXw]; rfl
  rw [hXt, Int.zero_add] at hDt
  have HDT := Lib.hid hDt
  clear hDt hXt
  have hsA := wok_small hAok.1
  have hbA := wok_bwf hAok.1
  have hsD := wok_small hDok.1
  have hbD := wok_bwf hDok.1
  have hSS1 : SSmall (L.take k) := ⟨by rw [List.length_take]; omega, by
    have h1 := sumL_row (n := n) (L.take k).length (L := L.take k) (fun q hq => hD.ok q (List.mem_of_mem_take hq)) (Nat.le_refl _)
    have h2 : n * (L.take k).length ≤ 4 * 96 := Nat.mul_le_mul hn4 (by rw [List.length_take]; omega)
    omega⟩
  have hSS2 : SSmall (L.drop k) := ⟨by rw [List.length_drop]; omega, by
    have h1 := sumL_row (n := n) (L.drop k).length (L := L.drop k) (fun q hq => hD.ok q (List.mem_of_mem_drop hq)) (Nat.le_refl _)
    have h2 : n * (L.drop k).length ≤ 4 * 96 := Nat.mul_le_mul hn4 (by rw [List.length_drop]; omega)
    omega⟩
  clear hrok hD
  go_cut [6] (fun p wx => WhI w w2 wx A p)
  case first =>
    refine wp_region_sch (fun wx => Hd wx w.heap.size p3 x xs xb X) 6 4 (.st 0 (.st 1 (.st 2 (.st 3 (.two 4 (.ef 5 (.fin [6])) 5 (.ef 4 (.fin [6]))))))) (by kernel_rfl) (by kernel_rfl) (fun _ _ d _ _ h => by cases d <;> exact h) h3.drew ?_
    refine sch_still (o := ⟨some 27, _, _, _, _, _⟩) (v := .agg #[x, .int .i64 X.tick, .int .i64 X.seed, xs, xb]) rfl rfl ?_ ?_
    · intro wx hSx
      exact still_wldR _ rfl p3 rfl _ _ _ _ _ hSx.blk.range
    simp only [Act.put, List.setIfInBounds_toArray, List.set_cons_zero, List.set_cons_succ]
    refine sch_still (o := ⟨some 28, _, _, _, _, _⟩) (v := .slice ro L.length rc) rfl rfl ?_ ?_
    · intro wx hSx
      go_simp
    simp only [Act.put, List.setIfInBounds_toArray, List.set_cons_zero, List.set_cons_succ]
    refine sch_still (o := ⟨some 29, _, _, _, _, _⟩) (v := .int .i64 (k : Int)) rfl rfl ?_ ?_
    · intro wx hSx
      go_simp
    simp only [Act.put, List.setIfInBounds_toArray, List.set_cons_zero, List.set_cons_succ]
    refine sch_still (o := ⟨some 30, _, _, _, _, _⟩) (v := sliced ro 0 k rc 1) rfl rfl ?_ ?_
    · intro wx hSx
      exact still_ss_h _ _ rfl (hi := k) rfl rfl rfl (by omega)
    simp only [Act.put, List.setIfInBounds_toArray, List.set_cons_zero, List.set_cons_succ]
    have hDr := h3.drew
    have hWz : w.heap.size ≤ w2.heap.size := Nat.le_trans hb.size hbl.size
    have hBr := (Below.refl w2.heap.size w2).drew
    have hLr := hL.below hBr
    have hatP := AtSS.sub hLr (lo := 0) (hi := k) (Nat.zero_le _) hkl
    rw [Nat.sub_zero, List.drop_zero, List.drop_zero] at hatP
    generalize sliced ro 0 k rc 1 = pv at hatP ⊢
    generalize us.take k = pus at hatP
    have HRP : ∀ wx, AtSS wx pv pus (L.take k) → WAt wx x xs xb X → Calls Try.prog 38 #[.agg #[x, .int .i64 X.tick, .int .i64 X.seed, xs, xb], pv] wx fun e w' => ∃ y ys yb, e = .returned (.agg #[y, .int .i64 A.tick, .int .i64 A.seed, ys, yb]) ∧ WOwn w' wx.heap.size y ys yb A ∧ Below wx.heap.size wx w' := fun wx hr hx => by rw [← hA]; exact runworld_impl wx hx hsm hbw hr hSS1
    generalize w2.drew = wq at *
    refine sch_2 (o := ⟨some 31, _, _, _, _, _⟩) (p := ⟨some 6, _, _, _, _, _⟩) rfl rfl ?_ ?_
    · refine wpList_callC rfl 38 _ _ rfl Try.func38 (by kernel_rfl) (by kernel_rfl) #[.agg #[x, .int .i64 X.tick, .int .i64 X.seed, xs, xb], pv] (by kernel_rfl) (HRP _ hatP hDr.own.at_) ?_
      rintro e wc ⟨y, ys, yb, rfl, hO2, hk⟩
      refine ⟨_, rfl, ?_⟩
      have hBc := hBr.trans (hk.mono hBr.size)
      have hDc := hDr.below hk
      have hOg := hO2.ge
      have hz1 := hBr.size
      have hz2 := hk.size
      clear hk hatP HRP
      refine sch_next hDc ?_
      simp only [Act.put, List.setIfInBounds_toArray, List.set_cons_zero, List.set_cons_succ]
      refine sch_ef (o := ⟨some 6, _, _, _, _, _⟩) rfl ?_
      refine alloc_wld rfl rfl ?_
      have hG := WBlk.new wc 36 nilV 0 0 nilV nilV
      have hk : Below wc.heap.size wc (wc.alloc (.cells #[nilV, .int .i64 0, .int .i64 0, nilV, nilV] 36)) := (Below.refl _ _).alloc (Nat.le_refl _) _
      generalize World.alloc wc _ = wd at hG hk ⊢
      have hBd := hBc.trans (hk.mono hBc.size)
      have hOd := hO2.below hk
      have hGl := hG.lt
      refine sch_next (hDc.below hk) ?_
      simp only [Act.put, List.setIfInBounds_toArray, List.set_cons_zero, List.set_cons_succ]
      refine sch_end (.cons (o := ⟨none, _, _, _, _, _⟩) rfl .nil) ?_
      have ox := slice_one hOd.at_.r
      have oxs := slice_one hOd.at_.s
      have oxb := slice_one hOd.at_.b
      refine store_wld (op := ⟨none, _, _, _, _, _⟩) rfl _ _ rfl wc.heap.size rfl y A.tick A.seed ys yb rfl hG.there ox oxs oxb ?_
      have hq := And.intro (hG.setAll (u' := y) (us' := ys) (ub' := yb) (tk' := A.tick) (sd' := A.seed)) (setCells_grown wd wc.heap.size 0 (wcells y A.tick A.seed ys yb))
      generalize World.setCells wd _ _ _ = wn at hq
      obtain ⟨hGn, hgr⟩ := hq
      have hOn := (hOd.tch (S := fun i => i = wc.heap.size) (Tch.of_grown1 hgr rfl) (fun i hi e => by have := hOg i hi; omega)).mono (B' := w.heap.size) (by omega)
      have hBn : Below w2.heap.size w2 wn := hBd.grown hgr (by omega) (fun k h => by simp only [Option.some.injEq] at h; omega)
      have hN := hd_new hGn hOn (fun i hi e => by have := hOg i hi; omega) (by omega)
      go_wp2_with fail
      go_meet
      case rel => exact ⟨⟨_, _, _, _, rfl, hN⟩, hBn⟩
    · refine alloc_wld rfl rfl ?_
      have hG0 := WBlk.new wq 36 nilV 0 0 nilV nilV
      have hk : Below wq.heap.size wq (wq.alloc (.cells #[nilV, .int .i64 0, .int .i64 0, nilV, nilV] 36)) := (Below.refl _ _).alloc (Nat.le_refl _) _
      generalize World.alloc wq _ = wc at hG0 hk ⊢
      have hBc := hBr.trans (hk.mono hBr.size)
      have hDc := hDr.below hk
      have hatQ := hatP.below hk
      have hz1 := hBr.size
      have hGl := hG0.lt
      refine sch_next hDc ?_
      simp only [Act.put, List.setIfInBounds_toArray, List.set_cons_zero, List.set_cons_succ]
      refine sch_ef (o := ⟨some 31, _, _, _, _, _⟩) rfl ?_
      refine wpList_callC rfl 38 _ _ rfl Try.func38 (by kernel_rfl) (by kernel_rfl) #[.agg #[x, .int .i64 X.tick, .int .i64 X.seed, xs, xb], pv] (by kernel_rfl) (HRP _ hatQ hDc.own.at_) ?_
      rintro e wd ⟨y, ys, yb, rfl, hOd, hk2⟩
      refine ⟨_, rfl, ?_⟩
      have hOg := hOd.ge
      have hBd := hBc.trans (hk2.mono hBc.size)
      have hG := hG0.below hk2 hG0.lt
      have hz2 := hk2.size
      clear hatP hatQ HRP
      refine sch_next (hDc.below hk2) ?_
      simp only [Act.put, List.setIfInBounds_toArray, List.set_cons_zero, List.set_cons_succ]
      refine sch_end (.cons (o := ⟨none, _, _, _, _, _⟩) rfl .nil) ?_
      have ox := slice_one hOd.at_.r
      have oxs := slice_one hOd.at_.s
      have oxb := slice_one hOd.at_.b
      refine store_wld (op := ⟨none, _, _, _, _, _⟩) rfl _ _ rfl wq.heap.size rfl y A.tick A.seed ys yb rfl hG.there ox oxs oxb ?_
      have hq := And.intro (hG.setAll (u' := y) (us' := ys) (ub' := yb) (tk' := A.tick) (sd' := A.seed)) (setCells_grown wd wq.heap.size 0 (wcells y A.tick A.seed ys yb))
      generalize World.setCells wd _ _ _ = wn at hq
      obtain ⟨hGn, hgr⟩ := hq
      have hOn := (hOd.tch (S := fun i => i = wq.heap.size) (Tch.of_grown1 hgr rfl) (fun i hi e => by have := hOg i hi; omega)).mono (B' := w.heap.size) (by omega)
      have hBn : Below w2.heap.size w2 wn := hBd.grown hgr (by omega) (fun k h => by simp only [Option.some.injEq] at h; omega)
      have hN := hd_new hGn hOn (fun i hi e => by have := hOg i hi; omega) (by omega)
      go_wp2_with fail
      go_meet
      case rel => exact ⟨⟨_, _, _, _, rfl, hN⟩, hBn⟩
  case rest =>
  obtain ⟨⟨p6, y, ys, yb, rfl, h6⟩, hk⟩ := hcut
  replace hbl := hbl.trans (hk.mono hbl.size)
  replace h3 := h3.below hk
  replace hL := hL.below hk
  clear hk
  have hSz := bytesW_size A
  have hrd : readW X.rows (bytesW A) = (A, true) := by
    have h := read_bytes hAok.1
    rw [hAok.2.2] at h
    exact h
  obtain ⟨hl12, hl20⟩ := lv_sizes hX.lv
  have HRD : ∀ wx, At wx 1 x X.rows.length (X.rows.map Value.string) → Calls Try.prog 37 #[.agg #[x], .string (bytesW A)] wx fun e w' => ∃ z zs zb, e = .returned (.tuple #[.agg #[z, .int .i64 A.tick, .int .i64 A.seed, zs, zb], .bool true]) ∧ WOwn w' wx.heap.size z zs zb A ∧ Below wx.heap.size wx w' := fun wx hx => by
    have h := readworld_impl (bytesW A) wx hx (by omega) (fun t ht => by have := hl20 t ht; omega) (by omega)
    rw [hrd] at h
    exact h
  have hse : X.seed = s := by rw [hXw]; rfl
  have hnt : newT X.rows (X.scores.length : Int) X.seed = (X, true) := by
    rw [newT_yes (by rw [hXr]; exact hlv) (by omega) (by omega), Int.toNat_natCast, hXr, hcn, hse, ← hXw]
  have HNW : ∀ wx, At wx 1 x X.rows.length (X.rows.map Value.string) → Calls Try.prog 26 #[.agg #[x], .int .i64 (X.scores.length : Int), .int .i64 X.seed] wx fun e w' => ∃ v vs vb, e = .returned (.tuple #[.agg #[v, .int .i64 X.tick, .int .i64 X.seed, vs, vb], .bool true]) ∧ WOwn w' wx.heap.size v vs vb X ∧ Below wx.heap.size wx w' := fun wx hx => by
    have h := newworld_impl (X.scores.length : Int) X.seed wx hx (by omega) (fun t ht => by have := hl20 t ht; omega)
    rw [hnt] at h
    exact h
  have HRW : ∀ wx, AtSS wx (.slice ro L.length rc) us L → WAt wx x xs xb X → Calls Try.prog 38 #[.agg #[x, .int .i64 X.tick, .int .i64 X.seed, xs, xb], .slice ro L.length rc] wx fun e w' => ∃ y ys yb, e = .returned (.agg #[y, .int .i64 D.tick, .int .i64 D.seed, ys, yb]) ∧ WOwn w' wx.heap.size y ys yb D ∧ Below wx.heap.size wx w' := fun wx hr hx => by
    rw [← hDD]
    exact runworld_impl wx hx hsm hbw hr hSS
  clear hnt hse hrd hl12 hl20 hA hXw hXr hcn
  have HWB := wbytes_impl wc h6.own.at_ hsA hbA
  go_wp2_with (with_reducible refine load_wld (op := ⟨some 32, _, _, _, _, _⟩) rfl _ rfl p6 rfl y A.tick A.seed ys yb h6.blk.range ?_)
  refine HWB.mono ?_
  rintro e wd ⟨rfl, hk⟩
  replace h3 := h3.below hk
  replace h6 := h6.below hk
  replace hL := hL.below hk
  replace hbl := hbl.trans (hk.mono hbl.size)
  clear hk HWB
  have c0 := h3.blk.c0
  go_wp2_with fail
  refine (HRD _ h3.own.at_.r).mono ?_
  rintro e we ⟨z, zs, zb, rfl, hOz, hk⟩
  have hbz := Nat.le_trans hb.size hbl.size
  replace h3 := h3.below hk
  replace h6 := h6.below hk
  replace hL := hL.below hk
  replace hbl := hbl.trans (hk.mono hbl.size)
  clear hk HRD c0
  have o1 := slice_one hOz.at_.r
  have o2 := slice_one hOz.at_.s
  have o3 := slice_one hOz.at_.b
  go_upto_region 8 with (with_reducible refine store_wld (op := ⟨none, _, _, _, _, _⟩) rfl _ _ rfl we.heap.size rfl z A.tick A.seed zs zb rfl (zwthere _ _) o1 o2 o3 ?_)
  have hq := newW5 (Below.refl we.heap.size we) (Nat.le_refl _) 36 z A.tick A.seed zs zb
  generalize hwn : World.setCells (World.alloc we _) _ _ _ = wf
  rw [hwn] at hq
  obtain ⟨hGn, _, hk⟩ := hq
  have hz2 := hbl.size
  have hz3 := hb.size
  have hz4 := hOz.ge
  have h8 : Hd wf w.heap.size we.heap.size z zs zb A := hd_new hGn ((hOz.below hk).mono (by omega)) (fun i hi e => by have := hz4 i hi; omega) (by omega)
  replace h3 := h3.below hk
  replace h6 := h6.below hk
  replace hL := hL.below hk
  replace hbl := hbl.trans (hk.mono hbl.size)
  clear hwn hk o1 o2 o3 hz2 hz3 hz4 hGn hbz hOz
  generalize we.heap.size = p8 at *
  go_cut [10] (fun p wx => WhI w wf wx D p)
  case first =>
    refine wp_region_sch (fun wx => Hd wx w.heap.size p8 z zs zb A) 6 4 (.st 0 (.st 1 (.st 2 (.st 3 (.two 4 (.ef 5 (.fin [6])) 5 (.ef 4 (.fin [6]))))))) (by kernel_rfl) (by kernel_rfl) (fun _ _ d _ _ h => by cases d <;> exact h) h8.drew ?_
    refine sch_still (o := ⟨some 41, _, _, _, _, _⟩) (v := .agg #[z, .int .i64 A.tick, .int .i64 A.seed, zs, zb]) rfl rfl ?_ ?_
    · intro wx hSx
      exact still_wldR _ rfl p8 rfl _ _ _ _ _ hSx.blk.range
    simp only [Act.put, List.setIfInBounds_toArray, List.set_cons_zero, List.set_cons_succ]
    refine sch_still (o := ⟨some 42, _, _, _, _, _⟩) (v := .slice ro L.length rc) rfl rfl ?_ ?_
    · intro wx hSx
      go_simp
    simp only [Act.put, List.setIfInBounds_toArray, List.set_cons_zero, List.set_cons_succ]
    refine sch_still (o := ⟨some 43, _, _, _, _, _⟩) (v := .int .i64 (k : Int)) rfl rfl ?_ ?_
    · intro wx hSx
      go_simp
    simp only [Act.put, List.setIfInBounds_toArray, List.set_cons_zero, List.set_cons_succ]
    refine sch_still (o := ⟨some 44, _, _, _, _, _⟩) (v := sliced ro k L.length rc 1) rfl rfl ?_ ?_
    · intro wx hSx
      exact still_ss_l _ _ rfl (lo := k) rfl rfl rfl hkl
    simp only [Act.put, List.setIfInBounds_toArray, List.set_cons_zero, List.set_cons_succ]
    have hDr := h8.drew
    have hWz : w.heap.size ≤ wf.heap.size := Nat.le_trans hb.size hbl.size
    have hBr := (Below.refl wf.heap.size wf).drew
    have hLr := hL.below hBr
    have hatP := AtSS.sub hLr (lo := k) (hi := L.length) hkl (Nat.le_refl _)
    rw [show (L.drop k).take (L.length - k) = L.drop k from List.take_of_length_le (by rw [List.length_drop]; omega)] at hatP
    generalize sliced ro k L.length rc 1 = pv at hatP ⊢
    generalize (us.drop k).take (L.length - k) = pus at hatP
    have HRP : ∀ wx, AtSS wx pv pus (L.drop k) → WAt wx z zs zb A → Calls Try.prog 38 #[.agg #[z, .int .i64 A.tick, .int .i64 A.seed, zs, zb], pv] wx fun e w' => ∃ y ys yb, e = .returned (.agg #[y, .int .i64 D.tick, .int .i64 D.seed, ys, yb]) ∧ WOwn w' wx.heap.size y ys yb D ∧ Below wx.heap.size wx w' := fun wx hr hx => by rw [← hAD]; exact runworld_impl wx hx hsA hbA hr hSS2
    generalize wf.drew = wq at *
    refine sch_2 (o := ⟨some 45, _, _, _, _, _⟩) (p := ⟨some 10, _, _, _, _, _⟩) rfl rfl ?_ ?_
    · refine wpList_callC rfl 38 _ _ rfl Try.func38 (by kernel_rfl) (by kernel_rfl) #[.agg #[z, .int .i64 A.tick, .int .i64 A.seed, zs, zb], pv] (by kernel_rfl) (HRP _ hatP hDr.own.at_) ?_
      rintro e wc ⟨t, ts, tb, rfl, hO2, hk⟩
      refine ⟨_, rfl, ?_⟩
      have hBc := hBr.trans (hk.mono hBr.size)
      have hDc := hDr.below hk
      have hOg := hO2.ge
      have hz1 := hBr.size
      have hz2 := hk.size
      clear hk hatP HRP
      refine sch_next hDc ?_
      simp only [Act.put, List.setIfInBounds_toArray, List.set_cons_zero, List.set_cons_succ]
      refine sch_ef (o := ⟨some 10, _, _, _, _, _⟩) rfl ?_
      refine alloc_wld rfl rfl ?_
      have hG := WBlk.new wc 36 nilV 0 0 nilV nilV
      have hk : Below wc.heap.size wc (wc.alloc (.cells #[nilV, .int .i64 0, .int .i64 0, nilV, nilV] 36)) := (Below.refl _ _).alloc (Nat.le_refl _) _
      generalize World.alloc wc _ = wd at hG hk ⊢
      have hBd := hBc.trans (hk.mono hBc.size)
      have hOd := hO2.below hk
      have hGl := hG.lt
      refine sch_next (hDc.below hk) ?_
      simp only [Act.put, List.setIfInBounds_toArray, List.set_cons_zero, List.set_cons_succ]
      refine sch_end (.cons (o := ⟨none, _, _, _, _, _⟩) rfl .nil) ?_
      have ox := slice_one hOd.at_.r
      have oxs := slice_one hOd.at_.s
      have oxb := slice_one hOd.at_.b
      refine store_wld (op := ⟨none, _, _, _, _, _⟩) rfl _ _ rfl wc.heap.size rfl t D.tick D.seed ts tb rfl hG.there ox oxs oxb ?_
      have hq := And.intro (hG.setAll (u' := t) (us' := ts) (ub' := tb) (tk' := D.tick) (sd' := D.seed)) (setCells_grown wd wc.heap.size 0 (wcells t D.tick D.seed ts tb))
      generalize World.setCells wd _ _ _ = wn at hq
      obtain ⟨hGn, hgr⟩ := hq
      have hOn := (hOd.tch (S := fun i => i = wc.heap.size) (Tch.of_grown1 hgr rfl) (fun i hi e => by have := hOg i hi; omega)).mono (B' := w.heap.size) (by omega)
      have hBn : Below wf.heap.size wf wn := hBd.grown hgr (by omega) (fun k h => by simp only [Option.some.injEq] at h; omega)
      have hN := hd_new hGn hOn (fun i hi e => by have := hOg i hi; omega) (by omega)
      go_wp2_with fail
      go_meet
      case rel => exact ⟨⟨_, _, _, _, rfl, hN⟩, hBn⟩
    · refine alloc_wld rfl rfl ?_
      have hG0 := WBlk.new wq 36 nilV 0 0 nilV nilV
      have hk : Below wq.heap.size wq (wq.alloc (.cells #[nilV, .int .i64 0, .int .i64 0, nilV, nilV] 36)) := (Below.refl _ _).alloc (Nat.le_refl _) _
      generalize World.alloc wq _ = wc at hG0 hk ⊢
      have hBc := hBr.trans (hk.mono hBr.size)
      have hDc := hDr.below hk
      have hatQ := hatP.below hk
      have hz1 := hBr.size
      have hGl := hG0.lt
      refine sch_next hDc ?_
      simp only [Act.put, List.setIfInBounds_toArray, List.set_cons_zero, List.set_cons_succ]
      refine sch_ef (o := ⟨some 45, _, _, _, _, _⟩) rfl ?_
      refine wpList_callC rfl 38 _ _ rfl Try.func38 (by kernel_rfl) (by kernel_rfl) #[.agg #[z, .int .i64 A.tick, .int .i64 A.seed, zs, zb], pv] (by kernel_rfl) (HRP _ hatQ hDc.own.at_) ?_
      rintro e wd ⟨t, ts, tb, rfl, hOd, hk2⟩
      refine ⟨_, rfl, ?_⟩
      have hOg := hOd.ge
      have hBd := hBc.trans (hk2.mono hBc.size)
      have hG := hG0.below hk2 hG0.lt
      have hz2 := hk2.size
      clear hatP hatQ HRP
      refine sch_next (hDc.below hk2) ?_
      simp only [Act.put, List.setIfInBounds_toArray, List.set_cons_zero, List.set_cons_succ]
      refine sch_end (.cons (o := ⟨none, _, _, _, _, _⟩) rfl .nil) ?_
      have ox := slice_one hOd.at_.r
      have oxs := slice_one hOd.at_.s
      have oxb := slice_one hOd.at_.b
      refine store_wld (op := ⟨none, _, _, _, _, _⟩) rfl _ _ rfl wq.heap.size rfl t D.tick D.seed ts tb rfl hG.there ox oxs oxb ?_
      have hq := And.intro (hG.setAll (u' := t) (us' := ts) (ub' := tb) (tk' := D.tick) (sd' := D.seed)) (setCells_grown wd wq.heap.size 0 (wcells t D.tick D.seed ts tb))
      generalize World.setCells wd _ _ _ = wn at hq
      obtain ⟨hGn, hgr⟩ := hq
      have hOn := (hOd.tch (S := fun i => i = wq.heap.size) (Tch.of_grown1 hgr rfl) (fun i hi e => by have := hOg i hi; omega)).mono (B' := w.heap.size) (by omega)
      have hBn : Below wf.heap.size wf wn := hBd.grown hgr (by omega) (fun k h => by simp only [Option.some.injEq] at h; omega)
      have hN := hd_new hGn hOn (fun i hi e => by have := hOg i hi; omega) (by omega)
      go_wp2_with fail
      go_meet
      case rel => exact ⟨⟨_, _, _, _, rfl, hN⟩, hBn⟩
  case rest =>
  obtain ⟨wg, rfl⟩ : ∃ wg : World, wg = wc := ⟨_, rfl⟩
  obtain ⟨⟨p10, t, ts, tb, rfl, h10⟩, hk⟩ := hcut
  replace h3 := h3.below hk
  replace h6 := h6.below hk
  replace h8 := h8.below hk
  replace hL := hL.below hk
  replace hbl := hbl.trans (hk.mono hbl.size)
  clear hk hAD hSS1 hSS2
  go_wp2_with (with_reducible refine load_wld (op := ⟨some 46, _, _, _, _, _⟩) rfl _ rfl p3 rfl x X.tick X.seed xs xb h3.blk.range ?_)
  refine (HRW _ hL h3.own.at_).mono ?_
  rintro e wh ⟨d, ds, db, rfl, hOd, hk⟩
  have hbz := Nat.le_trans hb.size hbl.size
  replace h3 := h3.below hk
  replace h6 := h6.below hk
  replace h8 := h8.below hk
  replace h10 := h10.below hk
  replace hL := hL.below hk
  replace hbl := hbl.trans (hk.mono hbl.size)
  clear hk HRW hSS
  have o1 := slice_one hOd.at_.r
  have o2 := slice_one hOd.at_.s
  have o3 := slice_one hOd.at_.b
  go_upto_region 10 with (with_reducible refine store_wld (op := ⟨none, _, _, _, _, _⟩) rfl _ _ rfl wh.heap.size rfl d D.tick D.seed ds db rfl (zwthere _ _) o1 o2 o3 ?_)
  have hq := newW5 (Below.refl wh.heap.size wh) (Nat.le_refl _) 36 d D.tick D.seed ds db
  generalize hwn : World.setCells (World.alloc wh _) _ _ _ = wi
  rw [hwn] at hq
  obtain ⟨hGn, _, hk⟩ := hq
  have hz2 := hbl.size
  have hz3 := hb.size
  have hz4 := hOd.ge
  have h11 : Hd wi w.heap.size wh.heap.size d ds db D := hd_new hGn ((hOd.below hk).mono (by omega)) (fun i hi e => by have := hz4 i hi; omega) (by omega)
  replace h3 := h3.below hk
  replace h6 := h6.below hk
  replace h8 := h8.below hk
  replace h10 := h10.below hk
  replace hL := hL.below hk
  replace hbl := hbl.trans (hk.mono hbl.size)
  clear hwn hk o1 o2 o3 hz2 hz3 hz4 hGn hbz hOd
  generalize wh.heap.size = p11 at *
  obtain ⟨so, sc, rfl, _⟩ := h3.own.s.at_.cell
  have c0 := h3.blk.c0
  have c2 := h3.blk.c2
  have c3 := h3.blk.c3
  go_wp2_with fail
  refine (HNW _ h3.own.at_.r).mono ?_
  rintro e wj ⟨f, fs, fb, rfl, hOf, hk⟩
  have hbz := Nat.le_trans hb.size hbl.size
  replace h3 := h3.below hk
  replace h6 := h6.below hk
  replace h8 := h8.below hk
  replace h10 := h10.below hk
  replace h11 := h11.below hk
  replace hL := hL.below hk
  replace hbl := hbl.trans (hk.mono hbl.size)
  clear hk HNW c0 c2 c3
  have o1 := slice_one hOf.at_.r
  have o2 := slice_one hOf.at_.s
  have o3 := slice_one hOf.at_.b
  go_upto_region 11 with (with_reducible refine store_wld (op := ⟨none, _, _, _, _, _⟩) rfl _ _ rfl wj.heap.size rfl f X.tick X.seed fs fb rfl (zwthere _ _) o1 o2 o3 ?_)
  have hq := newW5 (Below.refl wj.heap.size wj) (Nat.le_refl _) 36 f X.tick X.seed fs fb
  generalize hwn : World.setCells (World.alloc wj _) _ _ _ = wk
  rw [hwn] at hq
  obtain ⟨hGn, _, hk⟩ := hq
  have hz2 := hbl.size
  have hz3 := hb.size
  have hz4 := hOf.ge
  have h12 : Hd wk w.heap.size wj.heap.size f fs fb X := hd_new hGn ((hOf.below hk).mono (by omega)) (fun i hi e => by have := hz4 i hi; omega) (by omega)
  replace h3 := h3.below hk
  replace h6 := h6.below hk
  replace h8 := h8.below hk
  replace h10 := h10.below hk
  replace h11 := h11.below hk
  replace hL := hL.below hk
  replace hbl := hbl.trans (hk.mono hbl.size)
  clear hwn hk o1 o2 o3 hz2 hz3 hz4 hGn hbz hOf
  generalize wj.heap.size = p12 at *
  go_upto_region 11 with (fail)
  have hS := And.intro h12.drew (And.intro h3.drew (And.intro h6.drew (And.intro h8.drew (And.intro h10.drew h11.drew))))
  have hB := (Below.refl wk.heap.size wk).drew
  clear h12 h3 h6 h8 h10 h11
  have hQ : sumW D = cksum (bytesW D) := rfl
  obtain ⟨QQ, hQQ⟩ : ∃ q, cksum (bytesW D) = q := ⟨_, rfl⟩
  rw [hQQ] at hQ
  have HQ1 := Lib.hid hQ
  have HQ2 := Lib.hid hQQ
  clear hQ hQQ
  have hSzD := bytesW_size D
  refine wp_region_sch2 (fun wx => Hd wx w.heap.size p12 f fs fb X ∧ Hd wx w.heap.size p3 x (.slice so X.scores.length sc) xb X ∧ Hd wx w.heap.size p6 y ys yb A ∧ Hd wx w.heap.size p8 z zs zb A ∧ Hd wx w.heap.size p10 t ts tb D ∧ Hd wx w.heap.size p11 d ds db D) 32 [0, 1, 2, 3, 4, 5, 6, 8, 9, 10, 11, 13, 14, 15, 16, 18, 19, 20, 22, 25, 26, 27, 28, 29, 30, 31] (.st 0 (.st 1 (.st 2 (.st 3 (.st 4 (.st 5 (.st 6 (.ef 7 (.st 8 (.st 9 (.st 10 (.st 11 (.ef 12 (.st 13 (.st 14 (.st 15 (.st 16 (.ef 17 (.st 18 (.st 19 (.st 20 (.st 22 (.ef 21 (.ef 23 (.ef 24 (.st 25 (.st 26 (.st 27 (.st 28 (.st 29 (.st 30 (.st 31 (.fin [32, 33, 34]))))))))))))))))))))))))))))))))) (by kernel_rfl) (by kernel_rfl) (fun _ _ d _ _ h => by cases d <;> exact h) hS ?_
  generalize wk.drew = wq at *
  refine sch_still (o := ⟨some 60, _, _, _, _, _⟩) (v := .bool true) rfl rfl ?_ ?_
  · intro wx hSx
    go_simp
  simp only [Act.put, List.setIfInBounds_toArray, List.set_cons_zero, List.set_cons_succ]
  refine sch_still (o := ⟨some 61, _, _, _, _, _⟩) (v := .bool true) rfl rfl ?_ ?_
  · intro wx hSx
    go_simp
  simp only [Act.put, List.setIfInBounds_toArray, List.set_cons_zero, List.set_cons_succ]
  refine sch_gd (o := ⟨some 62, _, _, _, _, _⟩) (v := .bool true) rfl (by rfl) ?_ ?_
  · intro wx hSx
    go_simp
  simp only [Act.put, List.setIfInBounds_toArray, List.set_cons_zero, List.set_cons_succ]
  refine sch_still (o := ⟨some 63, _, _, _, _, _⟩) (v := .bool true) rfl rfl ?_ ?_
  · intro wx hSx
    go_simp
  simp only [Act.put, List.setIfInBounds_toArray, List.set_cons_zero, List.set_cons_succ]
  refine sch_still (o := ⟨some 64, _, _, _, _, _⟩) (v := .bool true) rfl rfl ?_ ?_
  · intro wx hSx
    go_simp
  simp only [Act.put, List.setIfInBounds_toArray, List.set_cons_zero, List.set_cons_succ]
  refine sch_gd (o := ⟨some 65, _, _, _, _, _⟩) (v := .agg #[f, .int .i64 X.tick, .int .i64 X.seed, fs, fb]) rfl (by rfl) ?_ ?_
  · intro wx hSx
    exact still_wldR _ rfl p12 rfl _ _ _ _ _ hSx.1.blk.range
  simp only [Act.put, List.setIfInBounds_toArray, List.set_cons_zero, List.set_cons_succ]
  refine sch_gd (o := ⟨some 66, _, _, _, _, _⟩) (v := .agg #[x, .int .i64 X.tick, .int .i64 X.seed, (.slice so X.scores.length sc), xb]) rfl (by rfl) ?_ ?_
  · intro wx hSx
    exact still_wldR _ rfl p3 rfl _ _ _ _ _ hSx.2.1.blk.range
  simp only [Act.put, List.setIfInBounds_toArray, List.set_cons_zero, List.set_cons_succ]
  refine sch_ef (o := ⟨some 67, _, _, _, _, _⟩) rfl ?_
  refine wpList_callG (by rfl) 40 _ _ rfl Try.func40 (by kernel_rfl) (by kernel_rfl) #[.agg #[f, .int .i64 X.tick, .int .i64 X.seed, fs, fb], .agg #[x, .int .i64 X.tick, .int .i64 X.seed, (.slice so X.scores.length sc), xb]] (by kernel_rfl) (sameworld_impl wq hS.1.own.at_ hS.2.1.own.at_ hsm hsm) ?_
  rintro e wl ⟨rfl, hk⟩
  refine ⟨_, rfl, ?_⟩
  rw [sameW_refl]
  replace hS := And.intro (hS.1.below hk) (And.intro (hS.2.1.below hk) (And.intro (hS.2.2.1.below hk) (And.intro (hS.2.2.2.1.below hk) (And.intro (hS.2.2.2.2.1.below hk) (hS.2.2.2.2.2.below hk)))))
  replace hB := hB.trans (hk.mono hB.size)
  clear hk
  refine sch_next hS ?_
  simp only [Act.put, List.setIfInBounds_toArray, List.set_cons_zero, List.set_cons_succ]
  refine sch_still (o := ⟨some 68, _, _, _, _, _⟩) (v := .bool true) rfl rfl ?_ ?_
  · intro wx hSx
    go_simp
  simp only [Act.put, List.setIfInBounds_toArray, List.set_cons_zero, List.set_cons_succ]
  refine sch_still (o := ⟨some 69, _, _, _, _, _⟩) (v := .bool true) rfl rfl ?_ ?_
  · intro wx hSx
    go_simp
  simp only [Act.put, List.setIfInBounds_toArray, List.set_cons_zero, List.set_cons_succ]
  refine sch_gd (o := ⟨some 70, _, _, _, _, _⟩) (v := .agg #[y, .int .i64 A.tick, .int .i64 A.seed, ys, yb]) rfl (by rfl) ?_ ?_
  · intro wx hSx
    exact still_wldR _ rfl p6 rfl _ _ _ _ _ hSx.2.2.1.blk.range
  simp only [Act.put, List.setIfInBounds_toArray, List.set_cons_zero, List.set_cons_succ]
  refine sch_gd (o := ⟨some 71, _, _, _, _, _⟩) (v := .agg #[z, .int .i64 A.tick, .int .i64 A.seed, zs, zb]) rfl (by rfl) ?_ ?_
  · intro wx hSx
    exact still_wldR _ rfl p8 rfl _ _ _ _ _ hSx.2.2.2.1.blk.range
  simp only [Act.put, List.setIfInBounds_toArray, List.set_cons_zero, List.set_cons_succ]
  refine sch_ef (o := ⟨some 72, _, _, _, _, _⟩) rfl ?_
  refine wpList_callG (by rfl) 40 _ _ rfl Try.func40 (by kernel_rfl) (by kernel_rfl) #[.agg #[y, .int .i64 A.tick, .int .i64 A.seed, ys, yb], .agg #[z, .int .i64 A.tick, .int .i64 A.seed, zs, zb]] (by kernel_rfl) (sameworld_impl wl hS.2.2.1.own.at_ hS.2.2.2.1.own.at_ hsA hsA) ?_
  rintro e wm ⟨rfl, hk⟩
  refine ⟨_, rfl, ?_⟩
  rw [sameW_refl]
  replace hS := And.intro (hS.1.below hk) (And.intro (hS.2.1.below hk) (And.intro (hS.2.2.1.below hk) (And.intro (hS.2.2.2.1.below hk) (And.intro (hS.2.2.2.2.1.below hk) (hS.2.2.2.2.2.below hk)))))
  replace hB := hB.trans (hk.mono hB.size)
  clear hk
  refine sch_next hS ?_
  simp only [Act.put, List.setIfInBounds_toArray, List.set_cons_zero, List.set_cons_succ]
  refine sch_still (o := ⟨some 73, _, _, _, _, _⟩) (v := .bool true) rfl rfl ?_ ?_
  · intro wx hSx
    go_simp
  simp only [Act.put, List.setIfInBounds_toArray, List.set_cons_zero, List.set_cons_succ]
  refine sch_still (o := ⟨some 74, _, _, _, _, _⟩) (v := .bool true) rfl rfl ?_ ?_
  · intro wx hSx
    go_simp
  simp only [Act.put, List.setIfInBounds_toArray, List.set_cons_zero, List.set_cons_succ]
  refine sch_gd (o := ⟨some 75, _, _, _, _, _⟩) (v := .agg #[t, .int .i64 D.tick, .int .i64 D.seed, ts, tb]) rfl (by rfl) ?_ ?_
  · intro wx hSx
    exact still_wldR _ rfl p10 rfl _ _ _ _ _ hSx.2.2.2.2.1.blk.range
  simp only [Act.put, List.setIfInBounds_toArray, List.set_cons_zero, List.set_cons_succ]
  refine sch_gd (o := ⟨some 76, _, _, _, _, _⟩) (v := .agg #[d, .int .i64 D.tick, .int .i64 D.seed, ds, db]) rfl (by rfl) ?_ ?_
  · intro wx hSx
    exact still_wldR _ rfl p11 rfl _ _ _ _ _ hSx.2.2.2.2.2.blk.range
  simp only [Act.put, List.setIfInBounds_toArray, List.set_cons_zero, List.set_cons_succ]
  refine sch_ef (o := ⟨some 77, _, _, _, _, _⟩) rfl ?_
  refine wpList_callG (by rfl) 40 _ _ rfl Try.func40 (by kernel_rfl) (by kernel_rfl) #[.agg #[t, .int .i64 D.tick, .int .i64 D.seed, ts, tb], .agg #[d, .int .i64 D.tick, .int .i64 D.seed, ds, db]] (by kernel_rfl) (sameworld_impl wm hS.2.2.2.2.1.own.at_ hS.2.2.2.2.2.own.at_ hsD hsD) ?_
  rintro e wn ⟨rfl, hk⟩
  refine ⟨_, rfl, ?_⟩
  rw [sameW_refl]
  replace hS := And.intro (hS.1.below hk) (And.intro (hS.2.1.below hk) (And.intro (hS.2.2.1.below hk) (And.intro (hS.2.2.2.1.below hk) (And.intro (hS.2.2.2.2.1.below hk) (hS.2.2.2.2.2.below hk)))))
  replace hB := hB.trans (hk.mono hB.size)
  clear hk
  refine sch_next hS ?_
  simp only [Act.put, List.setIfInBounds_toArray, List.set_cons_zero, List.set_cons_succ]
  refine sch_still (o := ⟨some 78, _, _, _, _, _⟩) (v := .bool true) rfl rfl ?_ ?_
  · intro wx hSx
    go_simp
  simp only [Act.put, List.setIfInBounds_toArray, List.set_cons_zero, List.set_cons_succ]
  refine sch_still (o := ⟨some 79, _, _, _, _, _⟩) (v := .bool true) rfl rfl ?_ ?_
  · intro wx hSx
    go_simp
  simp only [Act.put, List.setIfInBounds_toArray, List.set_cons_zero, List.set_cons_succ]
  refine sch_gd (o := ⟨some 80, _, _, _, _, _⟩) (v := .agg #[t, .int .i64 D.tick, .int .i64 D.seed, ts, tb]) rfl (by rfl) ?_ ?_
  · intro wx hSx
    exact still_wldR _ rfl p10 rfl _ _ _ _ _ hSx.2.2.2.2.1.blk.range
  simp only [Act.put, List.setIfInBounds_toArray, List.set_cons_zero, List.set_cons_succ]
  refine sch_gd (o := ⟨some 82, _, _, _, _, _⟩) (v := .agg #[d, .int .i64 D.tick, .int .i64 D.seed, ds, db]) rfl (by rfl) ?_ ?_
  · intro wx hSx
    exact still_wldR _ rfl p11 rfl _ _ _ _ _ hSx.2.2.2.2.2.blk.range
  simp only [Act.put, List.setIfInBounds_toArray, List.set_cons_zero, List.set_cons_succ]
  refine sch_ef (o := ⟨some 81, _, _, _, _, _⟩) rfl ?_
  refine wpList_callG (by rfl) 41 _ _ rfl Try.func41 (by kernel_rfl) (by kernel_rfl) #[.agg #[t, .int .i64 D.tick, .int .i64 D.seed, ts, tb]] (by kernel_rfl) (wsum_impl wn hS.2.2.2.2.1.own.at_ hsD hbD) ?_
  rintro e wo ⟨rfl, hk⟩
  refine ⟨_, rfl, ?_⟩
  rw [HQ1.out]
  replace hS := And.intro (hS.1.below hk) (And.intro (hS.2.1.below hk) (And.intro (hS.2.2.1.below hk) (And.intro (hS.2.2.2.1.below hk) (And.intro (hS.2.2.2.2.1.below hk) (hS.2.2.2.2.2.below hk)))))
  replace hB := hB.trans (hk.mono hB.size)
  clear hk
  refine sch_next hS ?_
  simp only [Act.put, List.setIfInBounds_toArray, List.set_cons_zero, List.set_cons_succ]
  refine sch_ef (o := ⟨some 83, _, _, _, _, _⟩) rfl ?_
  refine wpList_callG (by rfl) 39 _ _ rfl Try.func39 (by kernel_rfl) (by kernel_rfl) #[.agg #[d, .int .i64 D.tick, .int .i64 D.seed, ds, db]] (by kernel_rfl) (wbytes_impl wo hS.2.2.2.2.2.own.at_ hsD hbD) ?_
  rintro e wp ⟨rfl, hk⟩
  refine ⟨_, rfl, ?_⟩
  replace hS := And.intro (hS.1.below hk) (And.intro (hS.2.1.below hk) (And.intro (hS.2.2.1.below hk) (And.intro (hS.2.2.2.1.below hk) (And.intro (hS.2.2.2.2.1.below hk) (hS.2.2.2.2.2.below hk)))))
  replace hB := hB.trans (hk.mono hB.size)
  clear hk
  refine sch_next hS ?_
  simp only [Act.put, List.setIfInBounds_toArray, List.set_cons_zero, List.set_cons_succ]
  refine sch_ef (o := ⟨some 84, _, _, _, _, _⟩) rfl ?_
  refine wpList_callG (by rfl) 42 _ _ rfl Try.func42 (by kernel_rfl) (by kernel_rfl) #[.string (bytesW D)] (by kernel_rfl) (ck_impl (bytesW D) wp (by unfold maxLen; omega)) ?_
  rintro e wr ⟨rfl, rfl⟩
  refine ⟨_, rfl, ?_⟩
  rw [HQ2.out]
  refine sch_next hS ?_
  simp only [Act.put, List.setIfInBounds_toArray, List.set_cons_zero, List.set_cons_succ]
  refine sch_gd (o := ⟨some 85, _, _, _, _, _⟩) (v := .bool true) rfl (by rfl) ?_ ?_
  · intro wx hSx
    go_simp
  simp only [Act.put, List.setIfInBounds_toArray, List.set_cons_zero, List.set_cons_succ]
  refine sch_still (o := ⟨some 86, _, _, _, _, _⟩) (v := .bool true) rfl rfl ?_ ?_
  · intro wx hSx
    go_simp
  simp only [Act.put, List.setIfInBounds_toArray, List.set_cons_zero, List.set_cons_succ]
  refine sch_still (o := ⟨some 87, _, _, _, _, _⟩) (v := .bool true) rfl rfl ?_ ?_
  · intro wx hSx
    go_simp
  simp only [Act.put, List.setIfInBounds_toArray, List.set_cons_zero, List.set_cons_succ]
  refine sch_gd (o := ⟨some 88, _, _, _, _, _⟩) (v := .pointer (some ⟨p11, 1, none⟩)) rfl (by rfl) ?_ ?_
  · intro wx hSx
    go_simp
  simp only [Act.put, List.setIfInBounds_toArray, List.set_cons_zero, List.set_cons_succ]
  refine sch_gd (o := ⟨some 89, _, _, _, _, _⟩) (v := .int .i64 (L.length : Int)) rfl (by rfl) ?_ ?_
  · intro wx hSx
    have e := hSx.2.2.2.2.2.blk.c1; rw [HDT.out] at e; go_simp
  simp only [Act.put, List.setIfInBounds_toArray, List.set_cons_zero, List.set_cons_succ]
  refine sch_gd (o := ⟨some 90, _, _, _, _, _⟩) (v := .slice ro L.length rc) rfl (by rfl) ?_ ?_
  · intro wx hSx
    go_simp
  simp only [Act.put, List.setIfInBounds_toArray, List.set_cons_zero, List.set_cons_succ]
  refine sch_gd (o := ⟨some 91, _, _, _, _, _⟩) (v := .int .i64 (L.length : Int)) rfl (by rfl) ?_ ?_
  · intro wx hSx
    go_simp
  simp only [Act.put, List.setIfInBounds_toArray, List.set_cons_zero, List.set_cons_succ]
  refine sch_end (.cons (o := ⟨some 92, _, _, _, _, _⟩) rfl (.cons (o := ⟨some 93, _, _, _, _, _⟩) rfl (.cons (o := ⟨some 2, _, _, _, _, _⟩) rfl .nil))) ?_
  have hbZ := hb.trans ((hbl.trans (hB.mono hbl.size)).mono hb.size)
  clear hS hB
  go_wp2_with fail
  go_ret
  exact ⟨rfl, hbZ⟩

set_option maxRecDepth 100000 in
theorem lifted (os : Os) (started : os.Started) (H : Type) (enc : TypeId × Value → H) :
    ReturnsInHanded {} Try.checked os 9 .any (Rows.fnWorldWholeSpec.pre6 enc Try.prog Try.f9 Rows.fnWorldWholeRow.domain false) (Rows.fnWorldWholeSpec.post enc Try.prog Try.f9 false true false false) := by
  refine returnsInHanded_of_change (C := Try.checked) own_ started (by kernel_rfl) Try.func9
    (ChangeSpec.witness6 (enc := enc) (C := Try.checked) false ⟨#[], #[.slice none 0 0], []⟩ 8 (by kernel_rfl) (by kernel_rfl) (by kernel_rfl) (by kernel_rfl)) ?_
  intro W base args ds gs before hval0 hW hcnd _
  have hval : ∀ (j : Nat) t v, Try.f9.params[j]? = some t → args[j]? = some v → Value.okWide Try.prog W .any base t v := hval0
  have hW' := hW
  obtain ⟨p, q, hA0, hV, rfl, hfz, hnd⟩ := hW
  have hA : DataW.TrodAll enc Try.prog W 0 (fun _ => true) true Try.f9.params.toList args.toList ds p := hA0
  rw [Try.params9] at hA hval
  obtain ⟨v0, vs0, d0, ds0, p0, q0, hargs, rfl, rfl, h0, r0⟩ := trodAll_cons hA
  obtain ⟨rfl, rfl, rfl⟩ := trodAll_nil r0
  obtain rfl : args = #[v0] := by cases args; simp_all
  have w0 := open_u8s (hval 0 31 v0 rfl rfl) h0
  refine (walk W v0 w0).mono fun e W' ⟨he, hb⟩ => ?_
  subst he
  exact ⟨_, rfl, law_post laidOut (by kernel_rfl) rfl rfl Try.underlying4 (fun gs' h => by subst h; rfl) hW' hb⟩

theorem closed_ : joinedFacts Try.prog 9 Try.f9 Rows.fnWorldWholeSpec Rows.fnWorldWholeRow = true := by
  unfold joinedFacts
  rw [mayEnter_, liftsFinal_, make_, laidOut_, mapsRowed_, stopsHeard_]
  kernel_rfl

theorem proved : Rows.FnWorldWholeSaid :=
  OpenClaim.holds_of_wide 9 Try.f9 rfl rfl rfl rfl rfl rfl rfl ⟨rfl, rfl, rfl, rfl, rfl⟩ rfl rfl rfl rfl rfl (by kernel_rfl) Try.func9 closed_
    (of_decide_eq_true (by kernel_rfl)) (by unfold Func.isWrapper; first | (rw [if_pos (by decide +kernel)]; kernel_rfl) | (rw [if_neg (by decide +kernel)]; exact ⟨rfl, rfl⟩))
    (fun os started H enc _ => lifted os started H enc)
end Go.Proofs.Ytmamihkcikgmcaa.fnWorldWhole
