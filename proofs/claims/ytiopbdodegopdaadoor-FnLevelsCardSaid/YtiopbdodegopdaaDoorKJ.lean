/- Texts Nwi, Nws in one. -/
import Derived.Test.YtiopbdodegopdaaDoorKB
import Derived.Test.YtiopbdodegopdaaDoorKH
import Derived.Test.YtiopbdodegopdaaDoorKI
/- NewWorld, the program's. -/
namespace Go.Proofs.YtiopbdodegopdaaDoor
open Go.RowKit

def newT (l : List ByteArray) (n s : Int) : Wd × Bool := if lvT l = true ∧ (1 ≤ n ∧ n ≤ 4) ∧ (0 ≤ s ∧ s ≤ 65535) then (newW l n.toNat s, true) else (zW, false)
theorem newT_no {l : List ByteArray} {n s : Int} (h : lvT l = false ∨ inB n 1 4 = false ∨ inB s 0 65535 = false) : newT l n s = (zW, false) := by
  unfold newT
  rw [if_neg]
  rintro ⟨h1, h2, h3⟩
  rcases h with h | h | h
  · rw [h1] at h; cases h
  · rw [inB_yes h2.1 h2.2] at h; cases h
  · rw [inB_yes h3.1 h3.2] at h; cases h
theorem newT_yes {l : List ByteArray} {n s : Int} (h : lvT l = true) (h2 : 1 ≤ n ∧ n ≤ 4) (h3 : 0 ≤ s ∧ s ≤ 65535) : newT l n s = (newW l n.toNat s, true) := if_pos ⟨h, h2, h3⟩
theorem wown_nil (w : World) (B : Nat) : WOwn w B nilV nilV nilV zW := ⟨Own.nil _ _ _, Own.nil _ _ _, Own.nil _ _ _, .inl rfl, .inl rfl, .inl rfl⟩
/-- a world in the making: behind a pointer, its slices owned; the level's cell and the result's block stand -/
structure NwI (w : World) (u : Value) (X : Wd) (p : Value) (wx : World) : Prop where
  ex : ∃ G x xs xb, p = .pointer (some ⟨G, 0, none⟩) ∧ WBlk wx G x X.tick X.seed xs xb ∧ WOwn wx (w.heap.size + 2) x xs xb X ∧ x.ownBlock ≠ some G ∧ xs.ownBlock ≠ some G ∧ xb.ownBlock ≠ some G ∧ w.heap.size + 2 ≤ G
  bl : Below w.heap.size w wx
  lv : wx.cell? ⟨w.heap.size, 0, none⟩ = some u
  rs : WBlk wx (w.heap.size + 1) nilV 0 0 nilV nilV
end Go.Proofs.YtiopbdodegopdaaDoor
/- NewWorld, the reference's. -/
namespace Go.Proofs.YtiopbdodegopdaaDoor
open Go.RowKit

structure NwJ (w : World) (u : Value) (X : Wd) (G : Nat) (wx : World) : Prop where
  ex : ∃ x xs xb, Hd wx (w.heap.size + 2) G x xs xb X
  bl : Below w.heap.size w wx
  lv : wx.cell? ⟨w.heap.size, 0, none⟩ = some u
  rs : WBlk wx (w.heap.size + 1) nilV 0 0 nilV nilV
/-- how many bodies the reference makes -/
def nwN (n : Int) : Nat := if n ≤ 0 then 0 else if n ≤ 4 then n.toNat else 5
theorem nwN_in {n : Int} (h : 1 ≤ n ∧ n ≤ 4) : nwN n = n.toNat := by unfold nwN; rw [if_neg (by omega), if_pos (by omega)]
theorem nwN_5 (n : Int) : nwN n ≤ 5 := by unfold nwN; split; omega; split <;> omega
theorem nwN_lt {n : Int} {k : Nat} (h : k < nwN n) : (k : Int) < n ∧ (k : Int) ≤ 4 := by unfold nwN at h; split at h; omega; split at h <;> omega
theorem nwN_end {n : Int} {k : Nat} (h : k = nwN n) : ¬ (k : Int) < n ∨ ((k : Int) < n ∧ ¬ (k : Int) ≤ 4) := by unfold nwN at h; split at h; omega; split at h <;> omega
theorem newT_ok {l : List ByteArray} {n s : Int} (h : okW (newW l (nwN n) s) = true) : newT l n s = (newW l (nwN n) s, true) := by
  by_cases hc : lvT l = true ∧ (1 ≤ n ∧ n ≤ 4) ∧ (0 ≤ s ∧ s ≤ 65535)
  · rw [newT_yes hc.1 hc.2.1 hc.2.2, nwN_in hc.2.1]
  · have hb : okW (newW l (nwN n) s) = false := newW_bad (by
      cases e : lvT l with
      | false => exact .inl rfl
      | true =>
        right
        by_cases h2 : 1 ≤ n ∧ n ≤ 4
        · right; right
          by_cases h3 : s < 0
          · exact .inl h3
          · right; exact Classical.byContradiction fun h4 => hc ⟨e, h2, by omega, by omega⟩
        · unfold nwN
          split
          · exact .inl rfl
          · split
            · omega
            · right; left; omega)
    rw [h] at hb; cases hb
theorem newT_ko {l : List ByteArray} {n s : Int} (h : okW (newW l (nwN n) s) = false) : newT l n s = (zW, false) := by
  by_cases hc : lvT l = true ∧ (1 ≤ n ∧ n ≤ 4) ∧ (0 ≤ s ∧ s ≤ 65535)
  · have := ok_okW (newW_ok (rows := l) (n := n.toNat) (seed := s) hc.1 (by omega) (by omega) hc.2.2.1 hc.2.2.2)
    rw [nwN_in hc.2.1, this] at h; cases h
  · exact if_neg hc
theorem new_small {l : List ByteArray} {m : Nat} {s : Int} (hm : l.length ≤ 1048576) (hz : ∀ s ∈ l, s.size ≤ 1048576) (h : m ≤ 5) : WSmall (newW l m s) := ⟨hm, hz, by simp [newW]; omega, by simp [newW]; omega⟩
set_option maxRecDepth 100000 in
set_option maxHeartbeats 8000000 in
theorem newworld_spec {u : Value} {l : List ByteArray} (n s : Int) (w : World) (h : At w 1 u l.length (l.map Value.string)) (hm : l.length ≤ 1048576) (hz : ∀ s ∈ l, s.size ≤ 1048576) :
    Calls Tryd.prog 37 #[.agg #[u], .int .i64 n, .int .i64 s] w fun e w' => ∃ x xs xb, e = .returned (.tuple #[.agg #[x, .int .i64 (newT l n s).1.tick, .int .i64 (newT l n s).1.seed, xs, xb], .bool (newT l n s).2]) ∧ WOwn w' w.heap.size x xs xb (newT l n s).1 ∧ Below w.heap.size w w' := by
  have HC : ∀ wx, Below w.heap.size w wx → Calls Tryd.prog 47 #[.agg #[u]] wx fun e w' => ∃ x, e = .returned (.agg #[x]) ∧ Own w' wx.heap.size 1 x l.length (l.map Value.string) ∧ Below wx.heap.size wx w' := fun wx hx => copylev_spec wx (h.below hx) hm
  have HF : ∀ (k : Nat) wx, Below w.heap.size w wx → Calls Tryd.prog 48 #[.agg #[u], .int .i64 (k : Int)] wx fun e w' => e = .returned (freshB l k).val ∧ Below wx.heap.size wx w' := fun k wx hx => fresh_spec k wx (h.below hx) hm hz
  have HYES := Lib.hid (newT_ok (l := l) (n := n) (s := s))
  have HNO := Lib.hid (newT_ko (l := l) (n := n) (s := s))
  have HSM := Lib.hid (new_small (l := l) (m := nwN n) (s := s) hm hz (nwN_5 n))
  have HM5 := nwN_5 n
  have HLT := Lib.hid (fun k => nwN_lt (n := n) (k := k))
  have HEND := Lib.hid (fun k => nwN_end (n := n) (k := k))
  generalize nwN n = m at *
  go_enter Tryd.func37, Tryd.ntmps37
  go_upto_region 1 with (fail)
  generalize hw1 : (w.alloc _).alloc _ = w1
  have hb1 : Below w.heap.size w w1 := by rw [← hw1]; exact ((Below.refl _ _).alloc (Nat.le_refl _) _).alloc (by simp) _
  have hL1 : w1.cell? ⟨w.heap.size, 0, none⟩ = some u := by rw [← hw1]; exact cell_alloc_lt (World.cell?_alloc_new w _ _ 0) _ (by simp)
  have hR1 : WBlk w1 (w.heap.size + 1) nilV 0 0 nilV nilV := by
    rw [← hw1]
    have := WBlk.new (w.alloc (.cells #[u] 31)) 40 nilV 0 0 nilV nilV
    rwa [show (w.alloc (.cells #[u] 31)).heap.size = w.heap.size + 1 by simp] at this
  clear hw1
  go_wp2_with fail
  refine (HC _ hb1).mono ?_
  rintro e wa ⟨x, rfl, hx, ha⟩
  have hb2 := hb1.trans (ha.mono hb1.size)
  have hR2 := hR1.below ha hR1.lt
  have hL2 : wa.cell? ⟨w.heap.size, 0, none⟩ = some u := (ha.cell (p := ⟨w.heap.size, 0, none⟩) (by have := hR1.lt; show w.heap.size < _; omega)).trans hL1
  have hz1 : w.heap.size + 2 ≤ w1.heap.size := by have := hR1.lt; omega
  clear hb1 hR1 hL1 ha HC
  have ox := slice_one hx.at_
  go_upto_region 2 with (with_reducible refine store_wld (op := ⟨none, _, _, _, _, _⟩) rfl _ _ rfl wa.heap.size rfl x 0 s (.slice none 0 0) (.slice none 0 0) rfl (zwthere _ _) ox rfl rfl ?_)
  have hq := newW5 hb2 hb2.size 40 x 0 s (.slice none 0 0) (.slice none 0 0)
  generalize hwn : World.setCells (World.alloc wa _) _ _ _ = wb
  rw [hwn] at hq
  obtain ⟨hG, hb3, hk⟩ := hq
  have hR3 := hR2.below hk hR2.lt
  have hx3 := hx.belowS hk
  have hL3 : wb.cell? ⟨w.heap.size, 0, none⟩ = some u := (hk.cell (p := ⟨w.heap.size, 0, none⟩) (by have := hR2.lt; show w.heap.size < _; omega)).trans hL2
  have hI : NwJ w u ⟨l, 0, s, List.replicate 0 0, (List.range 0).map (freshB l)⟩ wa.heap.size wb := ⟨⟨x, nilV, nilV, ⟨hG, ⟨hx3.mono hz1, Own.nil _ _ _, Own.nil _ _ _, Dj.symm (.inl rfl), Dj.symm (.inl rfl), .inl rfl⟩, (fun e => by have := (hx.ge _ e).2; omega), (fun e => by cases e), (fun e => by cases e), (by have := hR2.lt; omega)⟩⟩, hb3, hL3, hR3⟩
  clear hwn hG hb3 hk hR3 hx3 hL3 hb2 hR2 hL2 hx ox hz1
  generalize wa.heap.size = G at *
  go_wp2_with fail
  go_loopw [9] (fun i wr => ∃ k : Nat, k ≤ m ∧ i = .int .i64 k ∧ NwJ w u ⟨l, 0, s, List.replicate k 0, (List.range k).map (freshB l)⟩ G wr) (fun i _ => m - (intOf i).toNat)
  case atStart => exact ⟨0, Nat.zero_le _, rfl, hI⟩
  case round =>
    clear hI
    obtain ⟨k, hk, rfl, ⟨⟨x, xs, xb, hH⟩, hb, hL, hR⟩⟩ := hrel
    by_cases hlt : k < m
    · have HE := Lib.hid (range_fresh l k)
      have HR := Lib.hid (List.replicate_succ' (n := k) (a := (0 : Int)))
      have hbl : ((List.range k).map (freshB l)).length = k := by simp
      have hsl : (List.replicate k (0 : Int)).length = k := by simp
      have h1 := (HLT.out k hlt).1
      have h2 := (HLT.out k hlt).2
      generalize (List.range k).map (freshB l) = bs at *
      generalize List.replicate k (0 : Int) = sc at *
      generalize hFF : freshB l k = F at *
      have HFF := Lib.hid hFF
      have Hbl := Lib.hid hbl
      have Hsl := Lib.hid hsl
      clear hFF hbl hsl
      go_upto_region 5 with (fail)
      have q3 := hH.blk.c3
      apply wp_region_lit
      iterate 6 go_step
      refine wpList_buildInt1 (o := ⟨some 25, _, _, _, _, _⟩) rfl (.const (.int .i64 0)) rfl 0 rfl ?_
      have hq := own_lit1 wr 0
      have hk2 : Below wr.heap.size wr (wr.alloc (.cells #[.int .i64 0] 3)) := (Below.refl _ _).alloc (Nat.le_refl _) _
      generalize World.alloc wr _ = wl at hq hk2
      have hH2 := hH.below hk2
      have hb2 := hb.trans (hk2.mono hb.size)
      have hL2 : wl.cell? ⟨w.heap.size, 0, none⟩ = some u := (hk2.cell (p := ⟨w.heap.size, 0, none⟩) (by have := hR.lt; show w.heap.size < _; omega)).trans hL
      have hR2 := hR.below hk2 hR.lt
      clear hk2 hb hL hR hH q3
      refine app_ints (o := ⟨some 26, _, _, _, _, _⟩) wl rfl _ _ rfl (w.heap.size + 2) hH2.own.s rfl hq.at_ rfl (by simp only [Hsl.out]; omega) (by have := hR2.lt; omega) ?_
      intro v wa hv hg hvb
      have hH3 := hH2.appS hv hg hvb
      have g3 := (hH2.blk.grown hg hH2.n2).c3
      have p3 := (hH2.blk.grown hg hH2.n2).f3
      have ov := slice_one hv.at_
      clear hv hg hvb hq
      simp only [Act.put, List.setIfInBounds_toArray, List.set_cons_zero, List.set_cons_succ]
      iterate 3 go_step
      refine store_cell (o := ⟨none, _, _, _, _, _⟩) rfl _ _ _ rfl G 3 rfl v rfl ov size_ints g3 p3 ?_
      generalize World.setCell wa _ _ = wz at hH3
      obtain ⟨hH4, ht⟩ := hH3
      have hbT : Below (w.heap.size + 2) wl wz := hH2.tchBelow ht (fun i hi => hi.imp id fun e => .inr (.inl e))
      have hb4 := hb2.trans (hbT.mono (by omega))
      have hL4 : wz.cell? ⟨w.heap.size, 0, none⟩ = some u := (hbT.cell (p := ⟨w.heap.size, 0, none⟩) (by show w.heap.size < _; omega)).trans hL2
      have hR4 := hR2.below hbT (by omega)
      clear hH2 ht hbT hb2 hL2 hR2 g3 p3 ov
      repeat go_step
      go_upto_region 6 with (fail)
      have hHd := hH4.drew
      have hbD := hb4.drew
      have hRd := hR4.drew
      have hLd : wz.drew.cell? ⟨w.heap.size, 0, none⟩ = some u := hL4
      clear hH4 hb4 hR4 hL4
      have e4 := hHd.blk.c4
      have hKF := HF k wz.drew hbD
      rw [HFF.out] at hKF
      refine wp_region_sch (fun wx => wx.cell? ⟨G, 4, none⟩ = some xb ∧ wx.cell? ⟨w.heap.size, 0, none⟩ = some u) 6 9 (.st 0 (.st 1 (.st 2 (.st 3 (.ef 4 (.ef 5 (.fin [6, 7, 8]))))))) (by kernel_rfl) (by kernel_rfl) (fun _ _ d _ _ h => by cases d <;> exact h) ⟨e4, hLd⟩ ?_
      refine sch_still (o := ⟨some 28, _, _, _, _, _⟩) (v := .pointer (some ⟨G, 4, none⟩)) rfl rfl ?_ ?_
      · intro wx hSx
        go_simp
      simp only [Act.put, List.setIfInBounds_toArray, List.set_cons_zero, List.set_cons_succ]
      refine sch_still (o := ⟨some 29, _, _, _, _, _⟩) (v := xb) rfl rfl ?_ ?_
      · intro wx hSx
        obtain ⟨s1, s2⟩ := hSx; go_simp
      simp only [Act.put, List.setIfInBounds_toArray, List.set_cons_zero, List.set_cons_succ]
      refine sch_still (o := ⟨some 30, _, _, _, _, _⟩) (v := .agg #[u]) rfl rfl ?_ ?_
      · intro wx hSx
        obtain ⟨s1, s2⟩ := hSx; go_simp
      simp only [Act.put, List.setIfInBounds_toArray, List.set_cons_zero, List.set_cons_succ]
      refine sch_still (o := ⟨some 31, _, _, _, _, _⟩) (v := .int .i64 (k : Int)) rfl rfl ?_ ?_
      · intro wx hSx
        go_simp
      simp only [Act.put, List.setIfInBounds_toArray, List.set_cons_zero, List.set_cons_succ]
      generalize wz.drew = wq at *
      refine sch_ef (o := ⟨some 32, _, _, _, _, _⟩) rfl ?_
      refine wpList_callC rfl 48 _ _ rfl Tryd.func48 (by kernel_rfl) (by kernel_rfl) #[.agg #[u], .int .i64 (k : Int)] (by kernel_rfl) (hKF) ?_
      rintro e wf ⟨rfl, hk1⟩
      refine ⟨_, rfl, ?_⟩
      have gH := hHd.below hk1
      have gb := hbD.trans (hk1.mono hbD.size)
      have gL : wf.cell? ⟨w.heap.size, 0, none⟩ = some u := (hk1.cell (p := ⟨w.heap.size, 0, none⟩) (by have := hRd.lt; show w.heap.size < _; omega)).trans hLd
      have gR := hRd.below hk1 hRd.lt
      clear hHd hbD hLd hRd hk1 hKF e4
      refine sch_next ⟨gH.blk.c4, gL⟩ ?_
      simp only [Act.put, List.setIfInBounds_toArray, List.set_cons_zero, List.set_cons_succ]
      refine sch_ef (o := ⟨some 33, _, _, _, _, _⟩) rfl ?_
      refine lit_bod (o := ⟨some 33, _, _, _, _, _⟩) rfl _ rfl F rfl ?_
      have hq := own_lit wf F
      have hk2 : Below wf.heap.size wf (wf.alloc (.cells F.cells.toArray 75)) := (Below.refl _ _).alloc (Nat.le_refl _) _
      generalize World.alloc wf _ = wl2 at hq hk2
      have hH2 := gH.below hk2
      have hb2 := gb.trans (hk2.mono gb.size)
      have hL2 : wl2.cell? ⟨w.heap.size, 0, none⟩ = some u := (hk2.cell (p := ⟨w.heap.size, 0, none⟩) (by have := gR.lt; show w.heap.size < _; omega)).trans gL
      have hR2 := gR.below hk2 gR.lt
      clear gH gb gL gR hk2
      refine sch_next ⟨hH2.blk.c4, hL2⟩ ?_
      simp only [Act.put, List.setIfInBounds_toArray, List.set_cons_zero, List.set_cons_succ]
      refine sch_end (.cons (o := ⟨some 34, _, _, _, _, _⟩) rfl (.cons (o := ⟨some 35, _, _, _, _, _⟩) rfl (.cons (o := ⟨none, _, _, _, _, _⟩) rfl .nil))) ?_
      refine app_bods (o := ⟨some 34, _, _, _, _, _⟩) wl2 rfl _ _ rfl (w.heap.size + 2) hH2.own.b rfl hq.at_ rfl (by simp only [Hbl.out]; omega) (by have := hR2.lt; omega) ?_
      intro v2 wc hv hg hvb
      have hH3 := hH2.appB hv hg hvb
      have g4 := (hH2.blk.grown hg hH2.n3).c4
      have p4 := (hH2.blk.grown hg hH2.n3).f4
      have ov := slice_one hv.at_
      clear hv hg hvb hq
      simp only [Act.put, List.setIfInBounds_toArray, List.set_cons_zero, List.set_cons_succ]
      iterate 3 go_step
      refine store_cell (o := ⟨none, _, _, _, _, _⟩) rfl _ _ _ rfl G 4 rfl v2 rfl ov size_bods g4 p4 ?_
      generalize World.setCell wc _ _ = wy at hH3
      obtain ⟨hH4, ht⟩ := hH3
      have hbT : Below (w.heap.size + 2) wl2 wy := hH2.tchBelow ht (fun i hi => hi.imp id fun e => .inr (.inr e))
      have hb4 := hb2.trans (hbT.mono (by omega))
      have hL4 : wy.cell? ⟨w.heap.size, 0, none⟩ = some u := (hbT.cell (p := ⟨w.heap.size, 0, none⟩) (by show w.heap.size < _; omega)).trans hL2
      have hR4 := hR2.below hbT (by omega)
      clear hH2 ht hbT hb2 hL2 hR2 g4 p4 ov
      go_wp2_with fail
      go_roundw
      case rel =>
        refine ⟨k + 1, by omega, by go_num, ⟨⟨x, v, v2, ?_⟩, hb4, hL4, hR4⟩⟩
        rw [HE.out, HR.out]
        exact hH4
      case measure => simp [intOf]; omega
    · obtain rfl : k = m := by omega
      have HNW : Hid ((⟨l, 0, s, List.replicate k 0, (List.range k).map (freshB l)⟩ : Wd) = newW l k s) := Lib.hid rfl
      rw [HNW.out] at hH
      have hend := HEND.out k rfl
      generalize newW l k s = X at *
      have hsm := HSM.out
      have hW := fun wx (hx : Below wr.heap.size wr wx) => worldok_spec wx (hH.own.at_.below hx) hsm
      clear HNW HF hz h HLT HEND HSM
      rcases hend with hend | ⟨hend, hend2⟩
      all_goals
        go_upto_region 7 with (fail)
        apply wp_region_lit
        refine load_wld (op := ⟨some 36, _, _, _, _, _⟩) rfl _ rfl G rfl x X.tick X.seed xs xb hH.blk.range ?_
        refine wpList_callC rfl 49 _ _ rfl Tryd.func49 (by kernel_rfl) (by kernel_rfl) #[.agg #[x, .int .i64 X.tick, .int .i64 X.seed, xs, xb]] (by kernel_rfl) (hW _ (Below.refl _ _)) ?_
        rintro e wf ⟨rfl, hk1⟩
        refine ⟨_, rfl, ?_⟩
        have hH3 := hH.below hk1
        have hb3 := hb.trans (hk1.mono hb.size)
        have hR3 := hR.below hk1 hR.lt
        clear hH hb hR hk1 hW hL
        simp only [Act.put, List.setIfInBounds_toArray, List.set_cons_zero, List.set_cons_succ]
        cases hok : okW X with
        | false =>
          have HN := Lib.hid (HNO.out hok)
          clear hok
          go_upto_region 8 with (fail)
          have hRs := (hR3.setAll (u' := nilV) (us' := nilV) (ub' := nilV) (tk' := 0) (sd' := 0)).range
          have hbs := setCells_below (o := 0) (vs := wcells nilV 0 0 nilV nilV) hb3 (show w.heap.size ≤ w.heap.size + 1 by omega)
          have hRt := hR3.there
          apply wp_region_lit
          iterate 3 go_step
          refine store_wld (op := ⟨none, _, _, _, _, _⟩) rfl _ _ rfl (w.heap.size + 1) rfl nilV 0 0 nilV nilV rfl hRt rfl rfl rfl ?_
          generalize hwn : World.setCells _ _ _ _ = wn
          rw [hwn] at hRs hbs
          clear hwn
          repeat go_step
          refine bodyPost_ret (res_wld2 rfl rfl rfl hRs) rfl ?_
          exact ⟨nilV, nilV, nilV, by rw [HN.out]; rfl, by rw [HN.out]; exact wown_nil _ _, hbs⟩
        | true =>
          have HN := Lib.hid (HYES.out hok)
          clear hok
          go_upto_region 9 with (fail)
          have hO3 := hH3.own
          have ox := slice_one hO3.at_.r
          have oxs := slice_one hO3.at_.s
          have oxb := slice_one hO3.at_.b
          apply wp_region_lit
          refine load_wld (op := ⟨some 40, _, _, _, _, _⟩) rfl _ rfl G rfl x X.tick X.seed xs xb hH3.blk.range ?_
          refine store_wld (op := ⟨none, _, _, _, _, _⟩) rfl _ _ rfl (w.heap.size + 1) rfl x X.tick X.seed xs xb rfl hR3.there ox oxs oxb ?_
          have hq := And.intro (hR3.setAll (u' := x) (us' := xs) (ub' := xb) (tk' := X.tick) (sd' := X.seed)) (setCells_grown wf (w.heap.size + 1) 0 (wcells x X.tick X.seed xs xb))
          generalize World.setCells wf _ _ _ = wn at hq
          obtain ⟨hRn, hgr⟩ := hq
          have hOn : WOwn wn w.heap.size x xs xb X := (hO3.tch (S := fun i => i = w.heap.size + 1) (Tch.of_grown1 hgr rfl) (fun i hi e => by have := (hO3.ge i hi).1; omega)).mono (by omega)
          have hbn : Below w.heap.size w wn := hb3.grown hgr (by have := hR3.lt; omega) (fun k h => by simp only [Option.some.injEq] at h; omega)
          clear hgr hO3 hb3 hR3 hH3
          repeat go_step
          refine bodyPost_ret (res_wld2 rfl rfl rfl hRn.range) rfl ?_
          exact ⟨x, xs, xb, by rw [HN.out], by rw [HN.out]; exact hOn, hbn⟩
end Go.Proofs.YtiopbdodegopdaaDoor
