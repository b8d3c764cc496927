/- FnLevels: each drawn level is parsed again from its text, and its starts and spots are free. No condition beyond the card's. -/
import Derived.Test.YtiopbdodegopdaaDoorKZB
import Derived.Test.YtiopbdodegopdaaDoorKY
import Derived.Test.YtiopbdodegopdaaDoorKA
import Derived.Test.YtiopbdodegopdaaDoorKZC
import Derived.Deep.RegionWith
import Derived.Deep.DeepCutAuto
import Derived.Deep.CutRange
import Derived.Test.YtiopbdodegopdaaDoorOrd
import Derived.Test.YtiopbdodegopdaaDoorCards
import Derived.Test.YtiopbdodegopdaaDoorTie
import Derived.ProofKit
import Derived.LaidMore
import Derived.OpenShut
import Derived.Stop.Joined
import Derived.Stop.LaidErr
import Derived.SevenTiedAt
namespace Go.Proofs.YtiopbdodegopdaaDoor.fnLevels
open Go.ChangeShapes Go.WideShapes Go.ChangeAt Go.RowKit
open Go.ChangeMaps (open_string shut_string)
set_option linter.unusedVariables false

set_option maxRecDepth 100000 in
set_option maxHeartbeats 8000000 in
theorem walk (w : World) (a0 : Value) (w0 : Arg_u8s w a0) (ht : Mx w) :
    Calls Tryd.prog 5 #[a0] w fun e w' => e = .returned (.bool true) ∧ Below w.heap.size w w' := by
  obtain ⟨l, hat, hwf⟩ := w0
  by_cases hbig : (1048576 : Int) < (l.length : Int)
  · obtain ⟨ao, cap, rfl, _⟩ := hat.cell
    go_enter Tryd.func5, Tryd.ntmps5
    go_wp2
    go_ret
    exact ⟨rfl, Below.refl _ _⟩
  have hm : l.length ≤ 1048576 := by omega
  have hd : Code8 w a0 l := ⟨hat, hwf, hm⟩
  obtain ⟨ao, cap, rfl, _⟩ := hat.cell
  go_enter Tryd.func5, Tryd.ntmps5
  go_wp2_with fail
  refine (big_no _ _ _ _ (by omega)).mono ?_
  rintro e w' ⟨rfl, rfl⟩
  generalize Value.slice ao l.length cap = cv at *
  go_wp2_with fail
  refine (play_ret w hd).mono ?_
  rintro e w1 ⟨x, xs, xb, rv, us, X, L, r, n, s, rfl, hD, hO, hL, hb⟩
  have o1 := slice_one hO.at_.r
  have o2 := slice_one hO.at_.s
  have o3 := slice_one hO.at_.b
  go_upto_region 4 with (with_reducible refine store_wld (op := ⟨none, _, _, _, _, _⟩) rfl _ _ rfl w1.heap.size rfl x X.tick X.seed xs xb rfl (zwthere _ _) o1 o2 o3 ?_)
  have hq := newW5 hb hb.size 40 x X.tick X.seed xs xb
  generalize hwn : World.setCells (World.alloc w1 _) _ _ _ = w2
  rw [hwn] at hq
  obtain ⟨hG, hb2, hk⟩ := hq
  have hxr := (hO.below hk).at_.r
  rw [hD.rows] at hxr
  have hlv := hD.lv
  have hlT := lvQ_ok r hlv
  have hcor := lvQ_corner r hlv
  have HTX := lvQ_text r hlv
  have htl := lvQ_len r hlv
  obtain ⟨hl12, hl20⟩ := lv_sz hlT
  have hz : ∀ s ∈ r, s.size ≤ 1048576 := fun s hs => by have := hl20 s hs; omega
  obtain ⟨xo, xc, rfl, _⟩ := hxr.cellS
  have c0 := hG.c0
  have s0 := hG.lt
  have HFM : ∀ wx, At wx 1 (.slice xo r.length xc) r.length (r.map Value.string) → Calls Tryd.prog 18 #[.agg #[.slice xo r.length xc]] wx fun e w' => e = .returned (.string (fmlT r)) ∧ Below wx.heap.size wx w' := fun wx hx => fml_impl wx hx (by omega) hz
  generalize fmlT r = txt at *
  have HPA : ∀ wx, Mx wx → Calls Tryd.prog 13 #[.string txt] wx fun e w' => ∃ u, e = .returned (.tuple #[.agg #[u], .bool true]) ∧ Own w' wx.heap.size 1 u r.length (r.map Value.string) ∧ Below wx.heap.size wx w' := fun wx hx => by
    have h := parse_impl txt wx hx (by omega)
    rw [HTX] at h
    exact h
  have HSA : ∀ (va vb : Value) (wx : World), At wx 1 va r.length (r.map Value.string) → At wx 1 vb r.length (r.map Value.string) → Calls Tryd.prog 11 #[va, vb] wx fun e w' => e = .returned (.bool true) ∧ Below wx.heap.size wx w' := fun va vb wx h1 h2 => (same_ret wx h1 h2 (by omega)).mono fun e w' ⟨h3, k, h4⟩ => ⟨h3, by rw [h4]; exact below_drewN (Below.refl _ _) k⟩
  have HLV : ∀ (v : Value) (wx : World), At wx 1 v r.length (r.map Value.string) → Calls Tryd.prog 19 #[.agg #[v]] wx fun e w' => e = .returned (.bool true) ∧ Below wx.heap.size wx w' := fun v wx h1 => by
    have h := lvok_impl wx h1 (by omega) hz
    rw [hlT] at h
    exact h
  have HSO : ∀ (p q t : Int) (z : Value) (wx : World), At wx 1 z r.length (r.map Value.string) → (-9223372036854775808 ≤ p ∧ p ≤ 9223372036854775807) → (-9223372036854775808 ≤ q ∧ q ≤ 9223372036854775807) → Calls Tryd.prog 21 #[.agg #[z], .int .i64 p, .int .i64 q, .int .i64 t] wx fun e w' => e = .returned (.bool (solA r p q t)) ∧ Below wx.heap.size wx w' := fun p q t z wx hx hp hq => solat_impl p q t wx hx (by omega) hz hp hq
  have HST : ∀ (k : Nat) (z : Value) (wx : World), k < 4 → At wx 1 z r.length (r.map Value.string) → Calls Tryd.prog 20 #[.agg #[z], .int .i64 (k : Int)] wx fun e w' => e = .returned (.tuple #[.int .i64 (startT r (k : Int)).1, .int .i64 (startT r (k : Int)).2]) ∧ Below wx.heap.size wx w' := fun k z wx hk hx => start_impl (k : Int) wx hx (by omega) hz
  have HSP : ∀ (z : Value) (wx : World), At wx 1 z r.length (r.map Value.string) → Calls Tryd.prog 23 #[.agg #[z]] wx fun e w' => ∃ v us, e = .returned v ∧ OwnSS w' wx.heap.size v us (spL (spotsT r)) ∧ Below wx.heap.size wx w' := fun z wx hx => spots_impl wx hx (by omega) hz
  have HSA0 := fun (k : Nat) (hk : k < 4) => start_at hlT hk
  have HSA1 := fun (k : Nat) (hk : k < (spL (spotsT r)).length) => spL_at hlT hk
  have HSL : (spL (spotsT r)).length ≤ 240 := by rw [spL_len]; exact spots_len r
  generalize spL (spotsT r) = SP at *
  clear hwn hk hG hO hL hD o1 o2 o3 hb hlv hlT HTX hl20 hz hat hwf hm hd hbig
  go_wp2_with fail
  refine (HFM _ hxr).mono ?_
  rintro e wa ⟨rfl, ha⟩
  have hba := hb2.trans (ha.mono hb2.size)
  have ca : wa.cell? ⟨w1.heap.size, 0, none⟩ = some (.slice xo r.length xc) := (ha.cell (p := ⟨w1.heap.size, 0, none⟩) s0).trans c0
  have sa : w1.heap.size < wa.heap.size := Nat.lt_of_lt_of_le s0 ha.size
  have hxa := hxr.below ha
  clear hb2 c0 s0 hxr ha HFM
  go_wp2_with fail
  refine (HPA _ (ht.below hba)).mono ?_
  rintro e wb ⟨u, rfl, hu, hb⟩
  obtain ⟨uo, uc, rfl⟩ := hu.slice_
  have hbb := hba.trans (hb.mono hba.size)
  have cb : wb.cell? ⟨w1.heap.size, 0, none⟩ = some (.slice xo r.length xc) := (hb.cell (p := ⟨w1.heap.size, 0, none⟩) sa).trans ca
  have sb : w1.heap.size < wb.heap.size := Nat.lt_of_lt_of_le sa hb.size
  have hxb := hxa.below hb
  clear hba ca sa hxa hb HPA
  go_upto_region 6 with (fail)
  obtain ⟨p6, hp6e⟩ : ∃ p6, p6 = wb.heap.size := ⟨_, rfl⟩
  generalize hwc : wb.alloc _ = wc
  have hbc : Below w.heap.size w wc := by rw [← hwc]; exact hbb.alloc hbb.size _
  have cc : wc.cell? ⟨w1.heap.size, 0, none⟩ = some (.slice xo r.length xc) := by rw [← hwc]; exact cell_alloc_lt cb _ sb
  have c6 : wc.cell? ⟨p6, 0, none⟩ = some (.slice uo r.length uc) := by rw [← hwc, hp6e]; exact World.cell?_alloc_new _ _ _ 0
  have hp6 : p6 < wc.heap.size := by rw [← hwc, hp6e]; simp
  have hub := hu.at_.below (show Below wb.heap.size wb wc by rw [← hwc]; exact (Below.refl _ _).alloc (Nat.le_refl _) _)
  have hxc := hxb.below (show Below wb.heap.size wb wc by rw [← hwc]; exact (Below.refl _ _).alloc (Nat.le_refl _) _)
  rw [← hp6e]
  clear hwc cb sb hbb hu hxb hp6e
  go_wp2_with fail
  refine (HSA _ _ _ hub hxc).mono ?_
  rintro e wd ⟨rfl, hd⟩
  have hbd := hbc.trans (hd.mono hbc.size)
  have c6d := (hd.cell (p := ⟨p6, 0, none⟩) hp6).trans c6
  have hp6d : p6 < wd.heap.size := Nat.lt_of_lt_of_le hp6 hd.size
  have hud := hub.below hd
  clear hbc cc c6 hp6 hub hxc hd HSA
  go_wp2_with fail
  refine (HLV _ _ hud).mono ?_
  rintro e we ⟨rfl, he⟩
  have hbe := hbd.trans (he.mono hbd.size)
  have c6e := (he.cell (p := ⟨p6, 0, none⟩) hp6d).trans c6d
  have hp6e : p6 < we.heap.size := Nat.lt_of_lt_of_le hp6d he.size
  have hue := hud.below he
  clear hbd c6d hp6d hud he HLV
  go_wp2_with fail
  go_loopw [8, 9, 10] (fun i _ _ wr => ∃ k : Nat, k ≤ 4 ∧ i = .int .i64 k ∧ Below w.heap.size w wr ∧ wr.cell? ⟨p6, 0, none⟩ = some (.slice uo r.length uc) ∧ p6 < wr.heap.size ∧ At wr 1 (.slice uo r.length uc) r.length (r.map Value.string)) (fun i _ _ _ => 4 - (intOf i).toNat)
  case atStart => exact ⟨0, by omega, rfl, hbe, c6e, hp6e, hue⟩
  case round =>
    clear hbe c6e hp6e hue
    obtain ⟨k, hk, rfl, hB, c6, hp6, hu⟩ := hrel
    by_cases hk4 : k < 4
    · obtain ⟨X0, Y0, hst, hsf, hx0, hy0⟩ := HSA0 k hk4
      have x1 : decide ((k : Int) < 4) = true := decide_eq_true (by omega)
      have HS := HST k _ wr hk4 hu
      rw [hst] at HS
      clear hst
      go_wp2_with fail
      refine HS.mono ?_
      rintro e wq ⟨rfl, hq⟩
      replace hB := hB.trans (hq.mono hB.size)
      replace c6 := (hq.cell (p := ⟨p6, 0, none⟩) hp6).trans c6
      replace hp6 : p6 < wq.heap.size := Nat.lt_of_lt_of_le hp6 hq.size
      replace hu := hu.below hq
      clear hq HS
      go_upto_region 12 with (fail)
      refine wp_region_sch (fun wx => Below wq.heap.size wq wx) 4 3 (.st 0 (.st 1 (.st 2 (.ef 3 (.fin [4]))))) (by kernel_rfl) (by kernel_rfl) (fun _ _ d _ _ h => by cases d <;> exact h) (Below.refl wq.heap.size wq).drew ?_
      refine sch_still (o := ⟨some 54, _, _, _, _, _⟩) (v := .agg #[.slice uo r.length uc]) rfl rfl ?_ ?_
      · intro wx hSx
        have c := (hSx.cell (p := ⟨p6, 0, none⟩) hp6).trans c6; go_simp
      simp only [Act.put, List.setIfInBounds_toArray, List.set_cons_zero, List.set_cons_succ]
      refine sch_still (o := ⟨some 55, _, _, _, _, _⟩) (v := .int .i64 X0) rfl rfl ?_ ?_
      · intro wx hSx
        go_simp
      simp only [Act.put, List.setIfInBounds_toArray, List.set_cons_zero, List.set_cons_succ]
      refine sch_still (o := ⟨some 56, _, _, _, _, _⟩) (v := .int .i64 Y0) rfl rfl ?_ ?_
      · intro wx hSx
        go_simp
      simp only [Act.put, List.setIfInBounds_toArray, List.set_cons_zero, List.set_cons_succ]
      have hD := (Below.refl wq.heap.size wq).drew
      generalize wq.drew = wv at *
      refine sch_ef (o := ⟨some 57, _, _, _, _, _⟩) rfl ?_
      refine wpList_callC rfl 22 _ _ rfl Tryd.func22 (by kernel_rfl) (by kernel_rfl) #[.int .i64 0] (by kernel_rfl) (sz_impl 0 wv) ?_
      rintro e wy ⟨rfl, rfl⟩
      refine ⟨_, rfl, ?_⟩
      refine sch_next hD ?_
      simp only [Act.put, List.setIfInBounds_toArray, List.set_cons_zero, List.set_cons_succ]
      have huv := hu.below hD
      refine sch_end (.cons (o := ⟨some 58, _, _, _, _, _⟩) rfl .nil) ?_
      refine wpList_callC rfl 21 _ _ rfl Tryd.func21 (by kernel_rfl) (by kernel_rfl) #[.agg #[.slice uo r.length uc], .int .i64 X0, .int .i64 Y0, .int .i64 12] (by kernel_rfl) (HSO (X0) (Y0) 12 _ _ huv (by omega) (by omega)) ?_
      rintro e wz ⟨rfl, hz⟩
      refine ⟨_, rfl, ?_⟩
      rw [hsf]
      simp only [Act.put, List.setIfInBounds_toArray, List.set_cons_zero, List.set_cons_succ]
      have hE := hD.trans (hz.mono hD.size)
      clear hD hz huv
      go_wp2_with fail
      go_roundw
      case rel => exact ⟨k + 1, by omega, by go_num, hB.trans (hE.mono hB.size), (hE.cell (p := ⟨p6, 0, none⟩) hp6).trans c6, Nat.lt_of_lt_of_le hp6 hE.size, hu.below hE⟩
      case measure => simp [intOf]; omega
    · obtain rfl : k = 4 := by omega
      go_wp2_with fail
      refine (HSP _ _ hu).mono ?_
      rintro e wq ⟨v, us, rfl, hv, hq⟩
      replace hB := hB.trans (hq.mono hB.size)
      replace c6 := (hq.cell (p := ⟨p6, 0, none⟩) hp6).trans c6
      replace hp6 : p6 < wq.heap.size := Nat.lt_of_lt_of_le hp6 hq.size
      replace hu := hu.below hq
      have hv := hv.at_
      have HN := Lib.hid hv.n
      obtain ⟨vo, vc, rfl⟩ : ∃ vo vc, v = .slice vo SP.length vc := by
        obtain ⟨_, vo, vc, e, _⟩ := hv.o
        exact ⟨vo, vc, by rw [e, HN.out]⟩
      clear hq
      go_wp2_with fail
      go_loopw [12] (fun i wr => ∃ k : Nat, k ≤ SP.length ∧ i = .int .i64 k ∧ Below w.heap.size w wr ∧ wr.cell? ⟨p6, 0, none⟩ = some (.slice uo r.length uc) ∧ p6 < wr.heap.size ∧ At wr 1 (.slice uo r.length uc) r.length (r.map Value.string) ∧ Hid (AtSS wr (.slice vo SP.length vc) us SP)) (fun i _ => SP.length - (intOf i).toNat)
      case atStart => exact ⟨0, by omega, rfl, hB, c6, hp6, hu, Lib.hid hv⟩
      case round =>
        clear hB c6 hp6 hu hv
        obtain ⟨k, hk, rfl, hB, c6, hp6, hu, HV⟩ := hrel
        by_cases hk4 : k < SP.length
        · obtain ⟨X0, Y0, hl, hsf, hx0, hy0⟩ := HSA1 k hk4
          have hku : k < us.length := by rw [HN.out]; exact hk4
          have hU := HV.out.r k hk4
          rw [hl] at hU
          obtain ⟨g, off, hvo, hg, hcell⟩ : ∃ g off, vo = some ⟨g, off, none⟩ ∧ g < wr.heap.size ∧ wr.cell? ⟨g, off + k, none⟩ = some (vAt us k) := by
            obtain ⟨_, ao, cap, e, _, _, hc⟩ := HV.out.o
            obtain ⟨g, off, rfl, hg, hc⟩ := hc (by omega)
            simp only [Value.slice.injEq] at e
            refine ⟨g, off, e.1, hg, ?_⟩
            rw [hc k (by omega)]
            unfold vAt List.getD
            rw [List.getElem?_eq_getElem hku]
            rfl
          subst hvo
          obtain ⟨Uo, Uc, hUe⟩ : ∃ Uo Uc, vAt us k = .slice Uo 2 Uc := by
            obtain ⟨_, ao, cap, e, _⟩ := hU
            exact ⟨ao, cap, e⟩
          rw [hUe] at hU hcell
          have x1 : decide ((k : Int) < (SP.length : Int)) = true := decide_eq_true (by omega)
          have hki : (k : Int) < (SP.length : Int) := by omega
          clear hUe hl hku
          go_upto_region 18 with (fail)
          refine wp_region_sch (fun wx => Below wr.heap.size wr wx) 12 6 (.st 0 (.st 1 (.st 2 (.st 3 (.st 4 (.st 6 (.st 7 (.st 8 (.st 9 (.ef 5 (.ef 10 (.ef 11 (.fin [12]))))))))))))) (by kernel_rfl) (by kernel_rfl) (fun _ _ d _ _ h => by cases d <;> exact h) (Below.refl wr.heap.size wr).drew ?_
          refine sch_still (o := ⟨some 67, _, _, _, _, _⟩) (v := .agg #[.slice uo r.length uc]) rfl rfl ?_ ?_
          · intro wx hSx
            have c := (hSx.cell (p := ⟨p6, 0, none⟩) hp6).trans c6; go_simp
          simp only [Act.put, List.setIfInBounds_toArray, List.set_cons_zero, List.set_cons_succ]
          refine sch_still (o := ⟨some 68, _, _, _, _, _⟩) (v := .slice (some ⟨g, off, none⟩) SP.length vc) rfl rfl ?_ ?_
          · intro wx hSx
            go_simp
          simp only [Act.put, List.setIfInBounds_toArray, List.set_cons_zero, List.set_cons_succ]
          refine sch_still (o := ⟨some 69, _, _, _, _, _⟩) (v := .int .i64 (k : Int)) rfl rfl ?_ ?_
          · intro wx hSx
            go_simp
          simp only [Act.put, List.setIfInBounds_toArray, List.set_cons_zero, List.set_cons_succ]
          refine sch_still (o := ⟨some 70, _, _, _, _, _⟩) (v := .pointer (some ⟨g, off + k, none⟩)) rfl rfl ?_ ?_
          · intro wx hSx
            go_simp
          simp only [Act.put, List.setIfInBounds_toArray, List.set_cons_zero, List.set_cons_succ]
          refine sch_still (o := ⟨some 71, _, _, _, _, _⟩) (v := .slice Uo 2 Uc) rfl rfl ?_ ?_
          · intro wx hSx
            have c := (hSx.cell (p := ⟨g, off + k, none⟩) hg).trans hcell; go_simp
          simp only [Act.put, List.setIfInBounds_toArray, List.set_cons_zero, List.set_cons_succ]
          refine sch_still (o := ⟨some 73, _, _, _, _, _⟩) (v := .slice (some ⟨g, off, none⟩) SP.length vc) rfl rfl ?_ ?_
          · intro wx hSx
            go_simp
          simp only [Act.put, List.setIfInBounds_toArray, List.set_cons_zero, List.set_cons_succ]
          refine sch_still (o := ⟨some 74, _, _, _, _, _⟩) (v := .int .i64 (k : Int)) rfl rfl ?_ ?_
          · intro wx hSx
            go_simp
          simp only [Act.put, List.setIfInBounds_toArray, List.set_cons_zero, List.set_cons_succ]
          refine sch_still (o := ⟨some 75, _, _, _, _, _⟩) (v := .pointer (some ⟨g, off + k, none⟩)) rfl rfl ?_ ?_
          · intro wx hSx
            go_simp
          simp only [Act.put, List.setIfInBounds_toArray, List.set_cons_zero, List.set_cons_succ]
          refine sch_still (o := ⟨some 76, _, _, _, _, _⟩) (v := .slice Uo 2 Uc) rfl rfl ?_ ?_
          · intro wx hSx
            have c := (hSx.cell (p := ⟨g, off + k, none⟩) hg).trans hcell; go_simp
          simp only [Act.put, List.setIfInBounds_toArray, List.set_cons_zero, List.set_cons_succ]
          have hD := (Below.refl wr.heap.size wr).drew
          generalize wr.drew = wv at *
          have huv := hu.below hD
          have hUv := hU.below hD
          refine sch_ef (o := ⟨some 72, _, _, _, _, _⟩) rfl ?_
          refine wpList_callC rfl 24 _ _ rfl Tryd.func24 (by kernel_rfl) (by kernel_rfl) #[.slice Uo 2 Uc, .int .i64 0] (by kernel_rfl) (get_ret (l := [X0, Y0]) 0 wv hUv (by simp) (by simp)) ?_
          rintro e wy ⟨rfl, rfl⟩
          refine ⟨_, rfl, ?_⟩
          refine sch_next hD ?_
          simp only [Act.put, List.setIfInBounds_toArray, List.set_cons_zero, List.set_cons_succ]
          refine sch_ef (o := ⟨some 77, _, _, _, _, _⟩) rfl ?_
          refine wpList_callC rfl 24 _ _ rfl Tryd.func24 (by kernel_rfl) (by kernel_rfl) #[.slice Uo 2 Uc, .int .i64 1] (by kernel_rfl) (get_ret (l := [X0, Y0]) 1 wv hUv (by simp) (by simp)) ?_
          rintro e wy ⟨rfl, rfl⟩
          refine ⟨_, rfl, ?_⟩
          refine sch_next hD ?_
          simp only [Act.put, List.setIfInBounds_toArray, List.set_cons_zero, List.set_cons_succ]
          refine sch_ef (o := ⟨some 78, _, _, _, _, _⟩) rfl ?_
          refine wpList_callC rfl 22 _ _ rfl Tryd.func22 (by kernel_rfl) (by kernel_rfl) #[.int .i64 2] (by kernel_rfl) (sz_impl 2 wv) ?_
          rintro e wy ⟨rfl, rfl⟩
          refine ⟨_, rfl, ?_⟩
          refine sch_next hD ?_
          simp only [Act.put, List.setIfInBounds_toArray, List.set_cons_zero, List.set_cons_succ]
          refine sch_end (.cons (o := ⟨some 79, _, _, _, _, _⟩) rfl .nil) ?_
          refine wpList_callC rfl 21 _ _ rfl Tryd.func21 (by kernel_rfl) (by kernel_rfl) #[.agg #[.slice uo r.length uc], .int .i64 X0, .int .i64 Y0, .int .i64 (szOf 2)] (by kernel_rfl) (HSO (X0) (Y0) (szOf 2) _ _ huv (by omega) (by omega)) ?_
          rintro e wz ⟨rfl, hz⟩
          refine ⟨_, rfl, ?_⟩
          rw [show szOf 2 = 8 from rfl, hsf]
          simp only [Act.put, List.setIfInBounds_toArray, List.set_cons_zero, List.set_cons_succ]
          have hE := hD.trans (hz.mono hD.size)
          have HV2 : Hid (AtSS wz (.slice (some ⟨g, off, none⟩) SP.length vc) us SP) := Lib.hid (HV.out.below hE)
          clear hD hz huv hUv
          go_wp2_with fail
          go_roundw
          case rel => exact ⟨k + 1, by omega, by go_num, hB.trans (hE.mono hB.size), (hE.cell (p := ⟨p6, 0, none⟩) hp6).trans c6, Nat.lt_of_lt_of_le hp6 hE.size, hu.below hE, HV2⟩
          case measure => simp [intOf]; omega
        · have x1 : decide ((k : Int) < (SP.length : Int)) = false := decide_eq_false (by omega)
          go_wp2_with fail
          refine (HSO 0 0 1 _ _ hu (by omega) (by omega)).mono ?_
          rintro e wz ⟨rfl, hz⟩
          rw [hcor]
          go_wp2_with fail
          go_ret
          exact ⟨rfl, hB.trans (hz.mono hB.size)⟩

def laidL : List (String × DataW Unit) := [("unicode/utf8.acceptRanges", Rows.laid_unicode_utf8_acceptRanges), ("unicode/utf8.first", Rows.laid_unicode_utf8_first)]
set_option maxRecDepth 100000 in
theorem lifted (os : Os) (started : os.Started) (H : Type) (enc : TypeId × Value → H) :
    ReturnsInHanded {} Tryd.checked os 5 .any (fun w args => (Rows.fnLevelsSpec.pre enc Tryd.prog Tryd.f5 [] false w args ∧ laidMetH Tryd.prog laidL w) ∧ sizedMet enc Tryd.prog Tryd.f5 (OpenSpec.ofChange Rows.fnLevelsSpec) false w args) (Rows.fnLevelsSpec.post enc Tryd.prog Tryd.f5 false true false false) := by
  refine lift_shape (C := Tryd.checked) own_ started (by kernel_rfl) Tryd.func5
    (ChangeSpec.witness_shaped (enc := enc) (C := Tryd.checked) (os := os) (X := fun w _ => laidMetH Tryd.prog laidL w) false (World.laidAll Tryd.prog os laidL) #[.slice none 0 0] 8 (World.laidAll_os _ _ _)
      (World.shaped_of_ZipB (by kernel_rfl) (by kernel_rfl)) (by kernel_rfl) (by kernel_rfl) (by kernel_rfl)
      (by rw [MakeChecks.laidMetH_plain _ _ _ (by kernel_rfl)]; exact laidMet_laidAll _ (by kernel_rfl) (by kernel_rfl))) ?_
  intro W base args ds gs before hval0 hW hshape
  have hval : ∀ (j : Nat) t v, Tryd.f5.params[j]? = some t → args[j]? = some v → Value.okWide Tryd.prog W .any base t v := hval0
  have hW' := hW
  have htab : Mx W := Tryd.laysM146.s1_3 W hshape
  obtain ⟨p, q, hA0, hV, rfl, hfz, hnd⟩ := hW
  have hA : DataW.TrodAll enc Tryd.prog W 0 (fun _ => true) true Tryd.f5.params.toList args.toList ds p := hA0
  rw [Tryd.params5] at hA hval
  obtain ⟨v0, vs0, d0, ds0, p0, q0, hargs, rfl, rfl, h0, r0⟩ := trodAll_cons hA
  obtain ⟨rfl, rfl, rfl⟩ := trodAll_nil r0
  obtain rfl : args = #[v0] := by cases args; simp_all
  have w0 := open_u8s (hval 0 22 v0 rfl rfl) h0
  refine (walk W v0 w0 htab).mono fun e W' ⟨he, hb⟩ => ?_
  subst he
  exact ⟨_, rfl, law_post laidOut (by kernel_rfl) rfl rfl Tryd.underlying4 (fun gs' h => by subst h; rfl) hW' hb⟩

theorem closed_ : joinedFacts Tryd.prog 5 Tryd.f5 Rows.fnLevelsSpec Rows.fnLevelsRow = true := by
  unfold joinedFacts
  rw [mayEnter_, liftsFinal_, make_, laidOut_, mapsRowed_, stopsHeard_]
  kernel_rfl

theorem row_holds : Rows.FnLevelsSaid :=
  OpenClaim.holds_of_wide 5 Tryd.f5 rfl rfl rfl rfl rfl rfl rfl ⟨rfl, rfl, rfl, rfl, rfl⟩ rfl rfl rfl rfl rfl (by kernel_rfl) Tryd.func5 closed_
    (of_decide_eq_true (by kernel_rfl)) (by unfold Func.isWrapper; first | (rw [if_pos (by decide +kernel)]; kernel_rfl) | (rw [if_neg (by decide +kernel)]; exact ⟨rfl, rfl⟩))
    (fun os started H enc _ => lifted os started H enc)
theorem proved : Rows.FnLevelsCardSaid :=
  Claim7.holds_tied_plain_at .later [] [.data, .pinned] true (true, "e237502f62a1fcf744cbf13f53634d41c40dc214f60e4a1aaddad8da9800779b") false
    row_holds (fun _ h => by cases h) (by kernel_rfl) (fun _ h => by cases h) fnLevels_row_tie rfl ⟨rfl, rfl⟩ (by kernel_rfl) rfl
    (fun f fn hf hfn => by
      obtain rfl : f = 5 := Option.some.inj ((show Tryd.prog.funcNamed "loop.example/g03315/laws.FnLevels" = some 5 by kernel_rfl).symm.trans hf) |>.symm
      obtain rfl : fn = Tryd.f5 := (Option.some.inj (Tryd.func5.symm.trans hfn)).symm
      exact ⟨by kernel_rfl, fun j t ht => by
        rw [Tryd.params5] at ht
        have hm : t ∈ [22] := by simpa using Array.mem_of_getElem? ht
        have hall : ([22].all fun u => !Tryd.prog.wantsStandIn u) = true := by kernel_rfl
        exact (show Tryd.prog.wantsStandIn t = false by simpa using List.all_eq_true.1 hall t hm)⟩)
    (by kernel_rfl)
end Go.Proofs.YtiopbdodegopdaaDoor.fnLevels
