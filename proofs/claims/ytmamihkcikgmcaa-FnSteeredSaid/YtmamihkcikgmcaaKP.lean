/- Texts Stp in one. -/
import Derived.Test.YtmamihkcikgmcaaKK
import Derived.Test.YtmamihkcikgmcaaKM
import Derived.Test.YtmamihkcikgmcaaKN
import Derived.Test.YtmamihkcikgmcaaKO
import Derived.Deep.QuietTactic
import Derived.BigQuiet
/- l02Step, the reference's: what a step does to a world. -/
namespace Go.Proofs.Ytmamihkcikgmcaa
open Go.RowKit

/-- behind the move of a body -/
structure MvE (w wr : World) (B G : Nat) (x xs xb : Value) (X : Wd) (v : Value) (L : List Bd) (bq : Nat) (b m : Bd) (st : Bool) (p q : Value) : Prop where
  i : MvI w wr B G x xs xb X v L
  bb : Blk wr bq b
  ex : ∃ g, p = .pointer (some ⟨g, 0, none⟩) ∧ bq < g ∧ Blk wr g m
  q : q = .bool st
/-- behind the steering of a player -/
structure PlD (w wr : World) (B G : Nat) (x xs xb : Value) (X : Wd) (L : List Bd) (bq : Nat) (c : Bd) (f : Bool) (p q : Value) : Prop where
  hd : Hd wr B G x xs xb { X with bodies := L }
  bl : Below B w wr
  sz : w.heap.size ≤ wr.heap.size
  ex : ∃ g, p = .pointer (some ⟨g, 0, none⟩) ∧ bq ≤ g ∧ Blk wr g c
  q : q = .bool f
set_option maxRecDepth 100000 in
set_option maxHeartbeats 16000000 in
theorem step_spec {x xs xb rv : Value} {X : Wd} {B G : Nat} {row : List Int} (w : World) (h : Hd w B G x xs xb X) (hX : WOk X)
    (hrow : ∀ wx, Below B w wx → At wx 1 rv row.length (ints row)) (hrl : row.length = X.scores.length) (hri : ∀ k, k < X.scores.length → 0 ≤ iAt row k ∧ iAt row k ≤ 15) :
    Calls Try.prog 102 #[.pointer (some ⟨G, 0, none⟩), rv] w fun e w' => e = .returned (.tuple #[]) ∧ (∃ xb', Hd w' B G x xs xb' (stepU X row)) ∧ Below B w w' := by
  have hl := hX.lv
  have h1 := hX.n.1
  have h4 := hX.n.2
  have hB := hX.bods
  have HSC : Hid (Scs X.scores.length X.scores) := Lib.hid ⟨rfl, hX.sc⟩
  have HX := Lib.hid hX
  clear hX
  obtain ⟨hl12, hl20⟩ := lv_sizes hl
  have HST : ∀ (b : Bd) (i : Int) (k : Nat) (yb : Value) (bs : List Bd) (wx : World), Hd wx B G x xs yb { X with bodies := bs } → PlOk X.rows k b → k < 4 → b.life ≠ 0 → (0 ≤ i ∧ i ≤ 15) → Calls Try.prog 128 #[.agg #[x], b.val, .int .i64 i] wx fun e w' => e = .returned (.tuple #[(steerU X.rows b i).1.val, .bool (steerU X.rows b i).2]) ∧ Below wx.heap.size wx w' := fun b i k yb bs wx hx hp hk h0 hi => by
    have hfb := free_bd (lvT_lv hl) (by decide : (1 : Int) ≤ 12) (by decide) hp.free
    have htm := hp.live h0
    exact l02steer_ret b i wx hx.own.at_.r (by show X.rows.length ≤ 1048576; omega) (fun s hs => by have := hl20 s hs; omega) hi (by omega) hp.kind hp.vy (by omega)
  have HFR : ∀ (k : Nat) (yb : Value) (bs : List Bd) (wx : World), Hd wx B G x xs yb { X with bodies := bs } → Calls Try.prog 70 #[.agg #[x], .int .i64 (k : Int)] wx fun e w' => e = .returned (freshB X.rows k).val ∧ Below wx.heap.size wx w' := fun k yb bs wx hx => fresh_spec k wx hx.own.at_.r (by show X.rows.length ≤ 1048576; omega) (fun s hs => by have := hl20 s hs; omega)
  have HUP := Lib.hid (plUp_ok row hl h4 hB)
  have HF0 : Hid (plUp X.rows row X.bodies 0 = X.bodies) := Lib.hid rfl
  have HFS : Hid (∀ k, plUp X.rows row X.bodies (k + 1) = plStep X.rows row k (plUp X.rows row X.bodies k)) := Lib.hid (fun _ => rfl)
  have HDE := Lib.hid (fun k bs b hb h0 => pl_dead (l := X.rows) (row := row) (k := k) (bs := bs) (b := b) hb h0)
  have HLI := Lib.hid (fun k bs b c f hb h0 hs => pl_live (l := X.rows) (row := row) (k := k) (bs := bs) (b := b) (c := c) (f := f) hb h0 hs)
  have hI : PlI w w B G x xs X (plUp X.rows row X.bodies 0) := ⟨⟨xb, h⟩, Below.refl _ _, Nat.le_refl _⟩
  have hsz0 : B ≤ w.heap.size := by have := h.ge; have := h.blk.lt; omega
  have hGlt := h.blk.lt
  have hGge := h.ge
  obtain ⟨gs, scap, hxs, hgs⟩ := h.formS (by omega)
  subst hxs
  have q3 := h.blk.c3
  have HLV := Lib.hid hl
  clear h hB hl hl12 hl20
  generalize hFe : plUp X.rows row X.bodies = F at *
  have HFE := Lib.hid hFe
  clear hFe
  generalize hn : X.scores.length = n at *
  have Hn := Lib.hid hn
  clear hn
  go_enter Try.func102, Try.ntmps102
  go_wp2_with fail
  clear q3
  go_loopw [5] (fun i wr => ∃ k : Nat, k ≤ n ∧ i = .int .i64 k ∧ PlI w wr B G x (.slice (some ⟨gs, 0, none⟩) n scap) X (F k)) (fun i _ => n - (intOf i).toNat)
  case atStart => exact ⟨0, Nat.zero_le _, rfl, hI⟩
  case round =>
    clear hI
    obtain ⟨k, hk, rfl, ⟨⟨yb, hH⟩, hb, hsz⟩⟩ := hrel
    by_cases hlt : k < n
    · have HS := Lib.hid (HFS.out k)
      have hup := HUP.out k hk
      have hpk := hup.pl k hlt
      have hle := hup.le
      have hmo := hup.most
      have hrk := hri k hlt
      clear hup HUP HFS HF0 hri
      generalize F k = L at *
      obtain ⟨gb, cap, hyb, hgb⟩ := hH.formB (by show 0 < L.length; omega)
      subst hyb
      simp only at hH
      obtain ⟨N, hN⟩ : ∃ N, L.length = N := ⟨_, rfl⟩
      rw [hN] at hH hle hmo
      have HN := Lib.hid hN
      clear hN
      have hkL : k < L.length := by rw [HN.out]; omega
      have hE := hH.elemAt (k := k) hkL
      simp only at hE
      have hR := hE.range
      have HDK := Lib.hid (fun b hb h0 => HDE.out k L b hb h0)
      have HLK := Lib.hid (fun b c f hb h0 hs => HLI.out k L b c f hb h0 hs)
      generalize hbe : bAt L k = b at *
      have HBE := Lib.hid hbe
      clear hbe HDE HLI
      have c1 : (0 : Int) ≤ (k : Int) := by omega
      have c2 : (k : Int) < (N : Int) := by omega
      have c3 : (k : Int) < (n : Int) := by omega
      have q4 := hH.blk.c4
      have hlow : ∀ i, blkH G x (.slice (some ⟨gs, 0, none⟩) n scap) (.slice (some ⟨gb, 0, none⟩) N cap) i → B ≤ i ∧ i < wr.heap.size := hH.lt
      have c7' := hE.c7
      by_cases h0 : b.life = 0
      · have htm := hpk.dead h0
        obtain ⟨hD1, hD2⟩ := HDK.out b rfl h0
        have HD1 := Lib.hid hD1
        have HD2 := Lib.hid hD2
        have x1 : (b.life == 0) = true := beq_iff_eq.2 h0
        clear HDK HLK hD1 hD2 h0 hpk HST
        have c8' := hE.c8
        have f8' := hH.elemFree (j := 8) hkL (by omega)
        have hq := hH.elemF (k := k) (j := 8) hkL (by omega) { b with timer := b.timer - 1 } (.int .i64 (b.timer - 1)) (by simp only; rw [HBE.out]; rfl)
        go_upto_region 5 with (fail)
        apply wp_region_lit
        iterate 33 go_step
        refine store_cell (o := ⟨none, _, _, _, _, _⟩) rfl _ _ _ rfl gb (k * 9 + 8) rfl (.int .i64 (b.timer - 1)) rfl rfl size_int c8' f8' ?_
        generalize World.setCell wr _ _ = w3 at hq
        obtain ⟨hH3, hg3⟩ := hq
        have hb3 := hb.grown hg3 (Nat.le_trans hsz0 hsz) (fun j h => by simp only [Option.some.injEq] at h; have := (hlow gb (.inr (.inr (.inr rfl)))).1; omega)
        have hsz3 := Nat.le_trans hsz hg3.size
        clear hH hb hsz hg3 c7' c8' f8' x1 q4 hE hR hlow
        simp only at hH3
        have hlow : ∀ i, blkH G x (.slice (some ⟨gs, 0, none⟩) n scap) (.slice (some ⟨gb, 0, none⟩) N cap) i → B ≤ i ∧ i < w3.heap.size := hH3.lt
        have hk3 : k < (L.set k { b with timer := b.timer - 1 }).length := by rw [List.length_set]; exact hkL
        have hE3 := hH3.elemAt (k := k) hk3
        simp only at hE3
        rw [bAt_set_self hkL] at hE3
        have c8' := hE3.c8
        simp only at c8'
        have q4 := hH3.blk.c4
        clear hE3
        by_cases ht0 : b.timer - 1 = 0
        · have HS1 := Lib.hid (HS.out.trans (HD1.out ht0))
          have x2 : (b.timer - 1 == 0) = true := by simp; omega
          clear HD1 HD2 ht0 HS
          have HFk := fun bs wx hx => HFR k (.slice (some ⟨gb, 0, none⟩) N cap) bs wx hx
          generalize freshB X.rows k = fb at *
          go_upto_region 7 with (fail)
          clear x2 c8' q4
          have hHd := hH3.drew
          have hbD := hb3.drew
          have hszD : w.heap.size ≤ w3.drew.heap.size := hsz3
          have e0 := hHd.blk.c0
          have e4 := hHd.blk.c4
          clear hH3 hb3 hsz3
          refine wp_region_sch (fun wx => wx.cell? ⟨G, 0, none⟩ = some x ∧ wx.cell? ⟨G, 4, none⟩ = some (.slice (some ⟨gb, 0, none⟩) N cap)) 12 14 (.st 0 (.st 1 (.st 2 (.st 3 (.st 4 (.st 5 (.st 6 (.st 7 (.st 8 (.st 9 (.ef 10 (.st 11 (.fin [12]))))))))))))) (by kernel_rfl) (by kernel_rfl) (fun _ _ d _ _ h => by cases d <;> exact h) ⟨e0, e4⟩ ?_
          refine sch_still (o := ⟨some 56, _, _, _, _, _⟩) (v := .pointer (some ⟨G, 0, none⟩)) rfl rfl ?_ ?_
          · intro wx hSx
            go_simp
          simp only [Act.put, List.setIfInBounds_toArray, List.set_cons_zero, List.set_cons_succ]
          refine sch_still (o := ⟨some 57, _, _, _, _, _⟩) (v := .pointer (some ⟨G, 0, none⟩)) rfl rfl ?_ ?_
          · intro wx hSx
            go_simp
          simp only [Act.put, List.setIfInBounds_toArray, List.set_cons_zero, List.set_cons_succ]
          refine sch_still (o := ⟨some 58, _, _, _, _, _⟩) (v := .pointer (some ⟨G, 4, none⟩)) rfl rfl ?_ ?_
          · intro wx hSx
            go_simp
          simp only [Act.put, List.setIfInBounds_toArray, List.set_cons_zero, List.set_cons_succ]
          refine sch_still (o := ⟨some 59, _, _, _, _, _⟩) (v := .slice (some ⟨gb, 0, none⟩) N cap) rfl rfl ?_ ?_
          · intro wx hSx
            obtain ⟨s1, s2⟩ := hSx; go_simp
          simp only [Act.put, List.setIfInBounds_toArray, List.set_cons_zero, List.set_cons_succ]
          refine sch_still (o := ⟨some 60, _, _, _, _, _⟩) (v := .int .i64 (k : Int)) rfl rfl ?_ ?_
          · intro wx hSx
            go_simp
          simp only [Act.put, List.setIfInBounds_toArray, List.set_cons_zero, List.set_cons_succ]
          refine sch_still (o := ⟨some 61, _, _, _, _, _⟩) (v := .pointer (some ⟨G, 0, none⟩)) rfl rfl ?_ ?_
          · intro wx hSx
            go_simp
          simp only [Act.put, List.setIfInBounds_toArray, List.set_cons_zero, List.set_cons_succ]
          refine sch_still (o := ⟨some 62, _, _, _, _, _⟩) (v := .pointer (some ⟨G, 0, none⟩)) rfl rfl ?_ ?_
          · intro wx hSx
            go_simp
          simp only [Act.put, List.setIfInBounds_toArray, List.set_cons_zero, List.set_cons_succ]
          refine sch_still (o := ⟨some 63, _, _, _, _, _⟩) (v := .pointer (some ⟨G, 0, none⟩)) rfl rfl ?_ ?_
          · intro wx hSx
            go_simp
          simp only [Act.put, List.setIfInBounds_toArray, List.set_cons_zero, List.set_cons_succ]
          refine sch_still (o := ⟨some 64, _, _, _, _, _⟩) (v := .agg #[x]) rfl rfl ?_ ?_
          · intro wx hSx
            obtain ⟨s1, s2⟩ := hSx; go_simp
          simp only [Act.put, List.setIfInBounds_toArray, List.set_cons_zero, List.set_cons_succ]
          refine sch_still (o := ⟨some 65, _, _, _, _, _⟩) (v := .int .i64 (k : Int)) rfl rfl ?_ ?_
          · intro wx hSx
            go_simp
          simp only [Act.put, List.setIfInBounds_toArray, List.set_cons_zero, List.set_cons_succ]
          generalize w3.drew = wq at *
          refine sch_ef (o := ⟨some 66, _, _, _, _, _⟩) rfl ?_
          refine wpList_callC rfl 70 _ _ rfl Try.func70 (by kernel_rfl) (by kernel_rfl) #[.agg #[x], .int .i64 (k : Int)] (by kernel_rfl) (HFk _ _ hHd) ?_
          rintro e w4 ⟨rfl, hk4⟩
          refine ⟨_, rfl, ?_⟩
          have hH4 := hHd.below hk4
          have hb4 := hbD.trans (hk4.mono (Nat.le_trans hsz0 hszD))
          have hsz4 := Nat.le_trans hszD hk4.size
          clear hHd hbD hszD hk4 e0 e4 HFk HFR
          refine sch_next ⟨hH4.blk.c0, hH4.blk.c4⟩ ?_
          simp only [Act.put, List.setIfInBounds_toArray, List.set_cons_zero, List.set_cons_succ]
          refine sch_still (o := ⟨some 67, _, _, _, _, _⟩) (v := .pointer (some ⟨gb, k * 9, none⟩)) rfl rfl ?_ ?_
          · intro wx hSx
            go_simp
          simp only [Act.put, List.setIfInBounds_toArray, List.set_cons_zero, List.set_cons_succ]
          refine sch_end (.cons (o := ⟨none, _, _, _, _, _⟩) rfl .nil) ?_
          refine store_bod (op := ⟨none, _, _, _, _, _⟩) rfl _ _ rfl gb (k * 9) rfl fb rfl (hH4.there9 hk3) ?_
          have hq := hH4.elemB hk3 fb
          generalize World.setCells w4 _ _ _ = w9 at hq
          obtain ⟨hH9, hg9⟩ := hq
          have hb9 := hb4.grown hg9 (Nat.le_trans hsz0 hsz4) (fun j h => by simp only [Option.some.injEq] at h; have := (hlow gb (.inr (.inr (.inr rfl)))).1; omega)
          have hsz9 := Nat.le_trans hsz4 hg9.size
          clear hH4 hb4 hsz4 hg9
          simp only [List.set_set] at hH9
          go_wp2_with fail
          go_roundw
          case rel => exact ⟨k + 1, by omega, by go_num, by rw [HS1.out]; exact ⟨⟨_, hH9⟩, hb9, hsz9⟩⟩
          case measure => simp [intOf]; omega
        · have HS1 := Lib.hid (HS.out.trans (HD2.out ht0))
          have x2 : (b.timer - 1 == 0) = false := by simp; omega
          clear HD1 HD2 ht0 HS HFR
          obtain ⟨w9, rfl⟩ : ∃ w9 : World, w9 = w3 := ⟨_, rfl⟩
          have hH9 := hH3
          have hb9 := hb3
          have hsz9 := hsz3
          clear hH3 hb3 hsz3
          go_wp2_with fail
          go_roundw
          case rel => exact ⟨k + 1, by omega, by go_num, by rw [HS1.out]; exact ⟨⟨_, hH9⟩, hb9, hsz9⟩⟩
          case measure => simp [intOf]; omega
      · obtain ⟨⟨c, f⟩, hcf⟩ : ∃ q, steerU X.rows b (iAt row k) = q := ⟨_, rfl⟩
        obtain ⟨hD1, hD2⟩ := HLK.out b c f rfl h0 hcf
        rw [HN.out] at hD1 hD2
        have HD1 := Lib.hid (fun q => HS.out.trans (hD1 q))
        have HD2 := Lib.hid (fun q => HS.out.trans (hD2 q))
        have HSTk := fun yb bs wx hx => HST b (iAt row k) k yb bs wx hx hpk (by omega) h0 hrk
        rw [hcf] at HSTk
        have x1 : (b.life == 0) = false := by simp [h0]
        clear HDK HLK hD1 hD2 h0 hpk HST HFR HS hcf
        go_upto_region 8 with (fail)
        clear c7' x1 q4
        have hHd := hH.drew
        have hbD := hb.drew
        have hszD : w.heap.size ≤ wr.drew.heap.size := hsz
        have hzzD : wr.heap.size ≤ wr.drew.heap.size := Nat.le_refl _
        have hrA := hrow _ hbD
        obtain ⟨ro, rcap, hrv, hrc⟩ := hrA.cell
        obtain ⟨gr, off, hro, hgr, hrcell⟩ := hrc (by omega)
        subst hro
        have hck := hrcell k (by omega)
        rw [← iAt_eq (l := row) (by omega)] at hck
        rw [hrl] at hrv
        clear hrc hrcell hrA
        subst hrv
        have e0 := hHd.blk.c0
        have e4 := hHd.blk.c4
        have hEd := hHd.elemAt (k := k) hkL
        simp only at hEd
        rw [HBE.out] at hEd
        have rB := hEd.range
        generalize iAt row k = z at *
        clear hH hb hE hR hEd hsz
        generalize wr.heap.size = bq at *
        go_cut [6, 7] (fun p q wx => PlD w wx B G x (.slice (some ⟨gs, 0, none⟩) n scap) (.slice (some ⟨gb, 0, none⟩) N cap) X L bq c f p q)
        case first =>
          refine wp_region_sch (fun wx => wx.cell? ⟨G, 0, none⟩ = some x ∧ wx.cell? ⟨G, 4, none⟩ = some (.slice (some ⟨gb, 0, none⟩) N cap) ∧ wx.rangeAt gb (k * 9) b.cells ∧ wx.cell? ⟨gr, off + k, none⟩ = some (.int .i64 z)) 20 22 (.st 0 (.st 1 (.st 2 (.st 3 (.st 4 (.st 5 (.st 6 (.st 7 (.st 8 (.st 9 (.st 10 (.st 11 (.st 12 (.st 13 (.st 14 (.two 15 (.st 16 (.st 17 (.sw 18 (.ef 19 (.fin [20, 21]))))) 19 (.ef 15 (.st 16 (.st 17 (.sw 18 (.fin [20, 21]))))))))))))))))))))) (by kernel_rfl) (by kernel_rfl) (fun _ _ d _ _ h => by cases d <;> exact h) ⟨e0, e4, rB, hck⟩ ?_
          refine sch_still (o := ⟨some 69, _, _, _, _, _⟩) (v := .pointer (some ⟨G, 0, none⟩)) rfl rfl ?_ ?_
          · intro wx hSx
            go_simp
          simp only [Act.put, List.setIfInBounds_toArray, List.set_cons_zero, List.set_cons_succ]
          refine sch_still (o := ⟨some 70, _, _, _, _, _⟩) (v := .pointer (some ⟨G, 0, none⟩)) rfl rfl ?_ ?_
          · intro wx hSx
            go_simp
          simp only [Act.put, List.setIfInBounds_toArray, List.set_cons_zero, List.set_cons_succ]
          refine sch_still (o := ⟨some 71, _, _, _, _, _⟩) (v := .pointer (some ⟨G, 0, none⟩)) rfl rfl ?_ ?_
          · intro wx hSx
            go_simp
          simp only [Act.put, List.setIfInBounds_toArray, List.set_cons_zero, List.set_cons_succ]
          refine sch_still (o := ⟨some 72, _, _, _, _, _⟩) (v := .agg #[x]) rfl rfl ?_ ?_
          · intro wx hSx
            obtain ⟨s1, s4, s2, s3⟩ := hSx; go_simp
          simp only [Act.put, List.setIfInBounds_toArray, List.set_cons_zero, List.set_cons_succ]
          refine sch_still (o := ⟨some 73, _, _, _, _, _⟩) (v := .pointer (some ⟨G, 0, none⟩)) rfl rfl ?_ ?_
          · intro wx hSx
            go_simp
          simp only [Act.put, List.setIfInBounds_toArray, List.set_cons_zero, List.set_cons_succ]
          refine sch_still (o := ⟨some 74, _, _, _, _, _⟩) (v := .pointer (some ⟨G, 0, none⟩)) rfl rfl ?_ ?_
          · intro wx hSx
            go_simp
          simp only [Act.put, List.setIfInBounds_toArray, List.set_cons_zero, List.set_cons_succ]
          refine sch_still (o := ⟨some 75, _, _, _, _, _⟩) (v := .pointer (some ⟨G, 4, none⟩)) rfl rfl ?_ ?_
          · intro wx hSx
            go_simp
          simp only [Act.put, List.setIfInBounds_toArray, List.set_cons_zero, List.set_cons_succ]
          refine sch_still (o := ⟨some 76, _, _, _, _, _⟩) (v := .slice (some ⟨gb, 0, none⟩) N cap) rfl rfl ?_ ?_
          · intro wx hSx
            obtain ⟨s1, s4, s2, s3⟩ := hSx; go_simp
          simp only [Act.put, List.setIfInBounds_toArray, List.set_cons_zero, List.set_cons_succ]
          refine sch_still (o := ⟨some 77, _, _, _, _, _⟩) (v := .int .i64 (k : Int)) rfl rfl ?_ ?_
          · intro wx hSx
            go_simp
          simp only [Act.put, List.setIfInBounds_toArray, List.set_cons_zero, List.set_cons_succ]
          refine sch_still (o := ⟨some 78, _, _, _, _, _⟩) (v := .pointer (some ⟨gb, k * 9, none⟩)) rfl rfl ?_ ?_
          · intro wx hSx
            go_simp
          simp only [Act.put, List.setIfInBounds_toArray, List.set_cons_zero, List.set_cons_succ]
          refine sch_still (o := ⟨some 79, _, _, _, _, _⟩) (v := b.val) rfl rfl ?_ ?_
          · intro wx hSx
            exact still_bodL _ rfl gb (k * 9) rfl b hSx.2.2.1
          simp only [Act.put, List.setIfInBounds_toArray, List.set_cons_zero, List.set_cons_succ]
          refine sch_still (o := ⟨some 80, _, _, _, _, _⟩) (v := .slice (some ⟨gr, off, none⟩) n rcap) rfl rfl ?_ ?_
          · intro wx hSx
            go_simp
          simp only [Act.put, List.setIfInBounds_toArray, List.set_cons_zero, List.set_cons_succ]
          refine sch_still (o := ⟨some 81, _, _, _, _, _⟩) (v := .int .i64 (k : Int)) rfl rfl ?_ ?_
          · intro wx hSx
            go_simp
          simp only [Act.put, List.setIfInBounds_toArray, List.set_cons_zero, List.set_cons_succ]
          refine sch_still (o := ⟨some 82, _, _, _, _, _⟩) (v := .pointer (some ⟨gr, off + k, none⟩)) rfl rfl ?_ ?_
          · intro wx hSx
            go_simp
          simp only [Act.put, List.setIfInBounds_toArray, List.set_cons_zero, List.set_cons_succ]
          refine sch_still (o := ⟨some 83, _, _, _, _, _⟩) (v := .int .i64 z) rfl rfl ?_ ?_
          · intro wx hSx
            obtain ⟨s1, s4, s2, s3⟩ := hSx; go_simp
          simp only [Act.put, List.setIfInBounds_toArray, List.set_cons_zero, List.set_cons_succ]
          generalize wr.drew = wq at *
          refine sch_2 (o := ⟨some 84, _, _, _, _, _⟩) (p := ⟨some 6, _, _, _, _, _⟩) rfl rfl ?_ ?_
          · refine wpList_callC rfl 128 _ _ rfl Try.func128 (by kernel_rfl) (by kernel_rfl) #[.agg #[x], b.val, .int .i64 z] (by kernel_rfl) (HSTk _ _ _ hHd) ?_
            rintro e w3 ⟨rfl, hk3⟩
            refine ⟨_, rfl, ?_⟩
            have hH3 := hHd.below hk3
            have hb3 := hbD.trans (hk3.mono (Nat.le_trans hsz0 hszD))
            have hE3 := hH3.elemAt (k := k) hkL
            simp only at hE3
            rw [HBE.out] at hE3
            have hsz3 := Nat.le_trans hszD hk3.size
            have hck3 := (hk3.cell (p := ⟨gr, off + k, none⟩) (by show gr < _; omega)).trans hck
            have hzz3 := hk3.size
            refine sch_next ⟨hH3.blk.c0, hH3.blk.c4, hE3.range, hck3⟩ ?_
            simp only [Act.put, List.setIfInBounds_toArray, List.set_cons_zero, List.set_cons_succ]
            refine sch_still (o := ⟨some 68, _, _, _, _, _⟩) (v := .tuple #[c.val, .bool f]) rfl rfl ?_ ?_
            · intro wx hSx
              go_simp
            simp only [Act.put, List.setIfInBounds_toArray, List.set_cons_zero, List.set_cons_succ]
            refine sch_still (o := ⟨some 85, _, _, _, _, _⟩) (v := c.val) rfl rfl ?_ ?_
            · intro wx hSx
              go_simp
            simp only [Act.put, List.setIfInBounds_toArray, List.set_cons_zero, List.set_cons_succ]
            refine sch_sw (o := ⟨some 86, _, _, _, _, _⟩) (v := .bool f) rfl rfl ?_ ?_
            · intro wx
              go_simp
            simp only [Act.put, List.setIfInBounds_toArray, List.set_cons_zero, List.set_cons_succ]
            refine sch_ef (o := ⟨some 6, _, _, _, _, _⟩) rfl ?_
            refine alloc_bod rfl rfl ?_
            have hC := Blk.new w3 42 zB
            change Blk (w3.alloc (.cells zB.cells.toArray 42)) w3.heap.size zB at hC
            have hk4 : Below w3.heap.size w3 (w3.alloc (.cells zB.cells.toArray 42)) := (Below.refl _ _).alloc (Nat.le_refl _) _
            generalize World.alloc w3 _ = w4 at hC hk4
            have hgl : bq ≤ w3.heap.size := by omega
            have hH4 := hH3.below hk4
            have hb4 := hb3.trans (hk4.mono (Nat.le_trans hsz0 hsz3))
            have hE4 := hH4.elemAt (k := k) hkL
            simp only at hE4
            rw [HBE.out] at hE4
            have hsz4 := Nat.le_trans hsz3 hk4.size
            have hck4 := (hk4.cell (p := ⟨gr, off + k, none⟩) (by show gr < _; omega)).trans hck3
            have hzz4 := hk4.size
            have hg5l : ∀ i, blkH G x (.slice (some ⟨gs, 0, none⟩) n scap) (.slice (some ⟨gb, 0, none⟩) N cap) i → i ≠ w3.heap.size := fun i hi e => by have := (hH3.lt i hi).2; omega
            generalize hge : w3.heap.size = g5 at *
            clear hge
            refine sch_next ⟨hH4.blk.c0, hH4.blk.c4, hE4.range, hck4⟩ ?_
            simp only [Act.put, List.setIfInBounds_toArray, List.set_cons_zero, List.set_cons_succ]
            refine sch_end (.cons (o := ⟨none, _, _, _, _, _⟩) rfl (.cons (o := ⟨some 7, _, _, _, _, _⟩) rfl .nil)) ?_
            refine store_bod (op := ⟨none, _, _, _, _, _⟩) rfl _ _ rfl g5 0 rfl c rfl hC.there ?_
            have hC4 := hC.setAll c
            have hg4 := setCells_grown w4 g5 0 c.cells
            generalize World.setCells w4 _ _ _ = w9 at hC4 hg4
            have hH9 := hH4.tch (Tch.of_grown1 (S := fun i => i = g5) hg4 rfl) (fun i hi e => hg5l i hi e)
            have hb9 := hb4.grown hg4 (Nat.le_trans hsz0 hsz4) (fun j h => by simp only [Option.some.injEq] at h; omega)
            have hsz9 := Nat.le_trans hsz4 hg4.size
            go_wp2_with fail
            go_meet
            case rel => exact ⟨hH9, hb9, hsz9, ⟨g5, rfl, hgl, hC4⟩, rfl⟩
          · refine alloc_bod rfl rfl ?_
            have hC := Blk.new wq 42 zB
            change Blk (wq.alloc (.cells zB.cells.toArray 42)) wq.heap.size zB at hC
            have hk4 : Below wq.heap.size wq (wq.alloc (.cells zB.cells.toArray 42)) := (Below.refl _ _).alloc (Nat.le_refl _) _
            generalize World.alloc wq _ = w3 at hC hk4
            have hgl : bq ≤ wq.heap.size := by omega
            have hH3 := hHd.below hk4
            have hb3 := hbD.trans (hk4.mono (Nat.le_trans hsz0 hszD))
            have hE3 := hH3.elemAt (k := k) hkL
            simp only at hE3
            rw [HBE.out] at hE3
            have hsz3 := Nat.le_trans hszD hk4.size
            have hck3 := (hk4.cell (p := ⟨gr, off + k, none⟩) (by show gr < _; omega)).trans hck
            have hzz3 := hk4.size
            have hg5l : ∀ i, blkH G x (.slice (some ⟨gs, 0, none⟩) n scap) (.slice (some ⟨gb, 0, none⟩) N cap) i → i ≠ wq.heap.size := fun i hi e => by have := (hHd.lt i hi).2; omega
            generalize hge : wq.heap.size = g5 at *
            clear hge
            refine sch_next ⟨hH3.blk.c0, hH3.blk.c4, hE3.range, hck3⟩ ?_
            simp only [Act.put, List.setIfInBounds_toArray, List.set_cons_zero, List.set_cons_succ]
            refine sch_ef (o := ⟨some 84, _, _, _, _, _⟩) rfl ?_
            refine wpList_callC rfl 128 _ _ rfl Try.func128 (by kernel_rfl) (by kernel_rfl) #[.agg #[x], b.val, .int .i64 z] (by kernel_rfl) (HSTk _ _ _ hH3) ?_
            rintro e w4 ⟨rfl, hk3⟩
            refine ⟨_, rfl, ?_⟩
            have hH4 := hH3.below hk3
            have hb4 := hb3.trans (hk3.mono (Nat.le_trans hsz0 hsz3))
            have hE4 := hH4.elemAt (k := k) hkL
            simp only at hE4
            rw [HBE.out] at hE4
            have hsz4 := Nat.le_trans hsz3 hk3.size
            have hck4 := (hk3.cell (p := ⟨gr, off + k, none⟩) (by show gr < _; omega)).trans hck3
            have hzz4 := hk3.size
            have hC' := hC.below hk3 hC.lt
            clear hC
            have hC := hC'
            refine sch_next ⟨hH4.blk.c0, hH4.blk.c4, hE4.range, hck4⟩ ?_
            simp only [Act.put, List.setIfInBounds_toArray, List.set_cons_zero, List.set_cons_succ]
            refine sch_still (o := ⟨some 68, _, _, _, _, _⟩) (v := .tuple #[c.val, .bool f]) rfl rfl ?_ ?_
            · intro wx hSx
              go_simp
            simp only [Act.put, List.setIfInBounds_toArray, List.set_cons_zero, List.set_cons_succ]
            refine sch_still (o := ⟨some 85, _, _, _, _, _⟩) (v := c.val) rfl rfl ?_ ?_
            · intro wx hSx
              go_simp
            simp only [Act.put, List.setIfInBounds_toArray, List.set_cons_zero, List.set_cons_succ]
            refine sch_sw (o := ⟨some 86, _, _, _, _, _⟩) (v := .bool f) rfl rfl ?_ ?_
            · intro wx
              go_simp
            simp only [Act.put, List.setIfInBounds_toArray, List.set_cons_zero, List.set_cons_succ]
            refine sch_end (.cons (o := ⟨none, _, _, _, _, _⟩) rfl (.cons (o := ⟨some 7, _, _, _, _, _⟩) rfl .nil)) ?_
            refine store_bod (op := ⟨none, _, _, _, _, _⟩) rfl _ _ rfl g5 0 rfl c rfl hC.there ?_
            have hC4 := hC.setAll c
            have hg4 := setCells_grown w4 g5 0 c.cells
            generalize World.setCells w4 _ _ _ = w9 at hC4 hg4
            have hH9 := hH4.tch (Tch.of_grown1 (S := fun i => i = g5) hg4 rfl) (fun i hi e => hg5l i hi e)
            have hb9 := hb4.grown hg4 (Nat.le_trans hsz0 hsz4) (fun j h => by simp only [Option.some.injEq] at h; omega)
            have hsz9 := Nat.le_trans hsz4 hg4.size
            go_wp2_with fail
            go_meet
            case rel => exact ⟨hH9, hb9, hsz9, ⟨g5, rfl, hgl, hC4⟩, rfl⟩
        case rest =>
        clear hHd hbD hszD hzzD e0 e4 rB HSTk hrow hck
        obtain ⟨hH3, hb3, hsz3, ⟨g6, rfl, hg6, hB3⟩, rfl⟩ := hcut
        obtain ⟨w3, rfl⟩ : ∃ w3 : World, w3 = wc := ⟨_, rfl⟩
        go_upto_region 9 with (fail)
        have hHd := hH3.drew
        have hbD := hb3.drew
        have hBd := hB3.drew
        have hszD : w.heap.size ≤ w3.drew.heap.size := hsz3
        have e4 := hHd.blk.c4
        have rB := hBd.range
        clear hH3 hb3 hB3 hsz3
        refine wp_region_sch (fun wx => wx.cell? ⟨G, 4, none⟩ = some (.slice (some ⟨gb, 0, none⟩) N cap) ∧ wx.rangeAt g6 0 (c : Bd).cells) 7 9 (.st 0 (.st 1 (.st 2 (.st 3 (.st 4 (.st 5 (.st 6 (.fin [7])))))))) (by kernel_rfl) (by kernel_rfl) (fun _ _ d _ _ h => by cases d <;> exact h) ⟨e4, rB⟩ ?_
        refine sch_still (o := ⟨some 87, _, _, _, _, _⟩) (v := .pointer (some ⟨G, 0, none⟩)) rfl rfl ?_ ?_
        · intro wx hSx
          go_simp
        simp only [Act.put, List.setIfInBounds_toArray, List.set_cons_zero, List.set_cons_succ]
        refine sch_still (o := ⟨some 88, _, _, _, _, _⟩) (v := .pointer (some ⟨G, 0, none⟩)) rfl rfl ?_ ?_
        · intro wx hSx
          go_simp
        simp only [Act.put, List.setIfInBounds_toArray, List.set_cons_zero, List.set_cons_succ]
        refine sch_still (o := ⟨some 89, _, _, _, _, _⟩) (v := .pointer (some ⟨G, 4, none⟩)) rfl rfl ?_ ?_
        · intro wx hSx
          go_simp
        simp only [Act.put, List.setIfInBounds_toArray, List.set_cons_zero, List.set_cons_succ]
        refine sch_still (o := ⟨some 90, _, _, _, _, _⟩) (v := .slice (some ⟨gb, 0, none⟩) N cap) rfl rfl ?_ ?_
        · intro wx hSx
          obtain ⟨s1, s2⟩ := hSx; go_simp
        simp only [Act.put, List.setIfInBounds_toArray, List.set_cons_zero, List.set_cons_succ]
        refine sch_still (o := ⟨some 91, _, _, _, _, _⟩) (v := .int .i64 (k : Int)) rfl rfl ?_ ?_
        · intro wx hSx
          go_simp
        simp only [Act.put, List.setIfInBounds_toArray, List.set_cons_zero, List.set_cons_succ]
        refine sch_still (o := ⟨some 92, _, _, _, _, _⟩) (v := (c : Bd).val) rfl rfl ?_ ?_
        · intro wx hSx
          exact still_bodL _ rfl g6 0 rfl c hSx.2
        simp only [Act.put, List.setIfInBounds_toArray, List.set_cons_zero, List.set_cons_succ]
        refine sch_still (o := ⟨some 93, _, _, _, _, _⟩) (v := .pointer (some ⟨gb, k * 9, none⟩)) rfl rfl ?_ ?_
        · intro wx hSx
          go_simp
        simp only [Act.put, List.setIfInBounds_toArray, List.set_cons_zero, List.set_cons_succ]
        refine sch_end (.cons (o := ⟨none, _, _, _, _, _⟩) rfl .nil) ?_
        generalize w3.drew = wq at *
        refine store_bod (op := ⟨none, _, _, _, _, _⟩) rfl _ _ rfl gb (k * 9) rfl c rfl (hHd.there9 hkL) ?_
        have hq := hHd.elemB hkL c
        have hB9 := hBd.grown hq.2 (by simp only [ne_eq, Option.some.injEq]; have := (hlow gb (.inr (.inr (.inr rfl)))).2; omega)
        generalize World.setCells wq _ _ _ = w9 at hq hB9
        obtain ⟨hH9, hg9⟩ := hq
        have hb9 := hbD.grown hg9 (Nat.le_trans hsz0 hszD) (fun j h => by simp only [Option.some.injEq] at h; have := (hlow gb (.inr (.inr (.inr rfl)))).1; omega)
        have hsz9 := Nat.le_trans hszD hg9.size
        clear hHd hbD hBd hszD e4 rB hg9
        simp only at hH9
        have hlen : (L.set k c).length = N := by rw [List.length_set]; exact HN.out
        have HLEN := Lib.hid hlen
        clear hlen
        have q4 := hH9.blk.c4
        cases f with
        | false =>
          have HS1 := Lib.hid (HD2.out (fun e => by cases e.1))
          clear HD1 HD2
          go_wp2_with fail
          go_roundw
          case rel => exact ⟨k + 1, by omega, by go_num, by rw [HS1.out]; exact ⟨⟨_, hH9⟩, hb9, hsz9⟩⟩
          case measure => simp [intOf]; omega
        | true =>
          by_cases h24 : N < 24
          · have HS1 := Lib.hid (HD1.out ⟨rfl, h24⟩)
            have x2 : decide ((N : Int) < 24) = true := decide_eq_true (by omega)
            clear HD1 HD2
            go_upto_region 11 with (fail)
            clear x2 q4
            have hHd := hH9.drew
            have hbD := hb9.drew
            have hBd := hB9.drew
            have hszD : w.heap.size ≤ w9.drew.heap.size := hsz9
            have e4 := hHd.blk.c4
            have rB := hBd.range
            clear hH9 hb9 hB9 hsz9
            refine wp_region_sch (fun wx => wx.cell? ⟨G, 4, none⟩ = some (.slice (some ⟨gb, 0, none⟩) N cap) ∧ wx.rangeAt g6 0 c.cells) 11 13 (.st 0 (.st 1 (.st 2 (.st 3 (.st 4 (.st 5 (.ef 6 (.ef 7 (.ef 8 (.st 9 (.st 10 (.fin [11])))))))))))) (by kernel_rfl) (by kernel_rfl) (fun _ _ d _ _ h => by cases d <;> exact h) ⟨e4, rB⟩ ?_
            refine sch_still (o := ⟨some 103, _, _, _, _, _⟩) (v := .pointer (some ⟨G, 0, none⟩)) rfl rfl ?_ ?_
            · intro wx hSx
              go_simp
            simp only [Act.put, List.setIfInBounds_toArray, List.set_cons_zero, List.set_cons_succ]
            refine sch_still (o := ⟨some 104, _, _, _, _, _⟩) (v := .pointer (some ⟨G, 0, none⟩)) rfl rfl ?_ ?_
            · intro wx hSx
              go_simp
            simp only [Act.put, List.setIfInBounds_toArray, List.set_cons_zero, List.set_cons_succ]
            refine sch_still (o := ⟨some 105, _, _, _, _, _⟩) (v := .pointer (some ⟨G, 0, none⟩)) rfl rfl ?_ ?_
            · intro wx hSx
              go_simp
            simp only [Act.put, List.setIfInBounds_toArray, List.set_cons_zero, List.set_cons_succ]
            refine sch_still (o := ⟨some 106, _, _, _, _, _⟩) (v := .pointer (some ⟨G, 4, none⟩)) rfl rfl ?_ ?_
            · intro wx hSx
              go_simp
            simp only [Act.put, List.setIfInBounds_toArray, List.set_cons_zero, List.set_cons_succ]
            refine sch_still (o := ⟨some 107, _, _, _, _, _⟩) (v := .slice (some ⟨gb, 0, none⟩) N cap) rfl rfl ?_ ?_
            · intro wx hSx
              obtain ⟨s1, s2⟩ := hSx; go_simp
            simp only [Act.put, List.setIfInBounds_toArray, List.set_cons_zero, List.set_cons_succ]
            refine sch_still (o := ⟨some 108, _, _, _, _, _⟩) (v := c.val) rfl rfl ?_ ?_
            · intro wx hSx
              exact still_bodL _ rfl g6 0 rfl c hSx.2
            simp only [Act.put, List.setIfInBounds_toArray, List.set_cons_zero, List.set_cons_succ]
            generalize w9.drew = wq at *
            refine sch_ef (o := ⟨some 109, _, _, _, _, _⟩) rfl ?_
            refine wpList_callC rfl 129 _ _ rfl Try.func129 (by kernel_rfl) (by kernel_rfl) #[c.val] (by kernel_rfl) (shotV_spec c wq) ?_
            rintro e wa ⟨rfl, hk5⟩
            refine ⟨_, rfl, ?_⟩
            have hHa := hHd.below hk5
            have hba := hbD.trans (hk5.mono (Nat.le_trans hsz0 hszD))
            have hBa := hBd.below hk5 hBd.lt
            have hsza := Nat.le_trans hszD hk5.size
            clear hHd hbD hBd hszD hk5 e4 rB
            generalize shotB c = sb at *
            refine sch_next ⟨hHa.blk.c4, hBa.range⟩ ?_
            simp only [Act.put, List.setIfInBounds_toArray, List.set_cons_zero, List.set_cons_succ]
            refine sch_ef (o := ⟨some 110, _, _, _, _, _⟩) rfl ?_
            refine lit_bod (o := ⟨some 110, _, _, _, _, _⟩) rfl _ rfl sb rfl ?_
            have hq := own_lit wa sb
            have hk6 : Below wa.heap.size wa (wa.alloc (.cells sb.cells.toArray 42)) := (Below.refl _ _).alloc (Nat.le_refl _) _
            generalize World.alloc wa _ = wb at hq hk6
            have hHb := hHa.below hk6
            have hbb := hba.trans (hk6.mono (Nat.le_trans hsz0 hsza))
            have hBb := hBa.below hk6 hBa.lt
            have hszb := Nat.le_trans hsza hk6.size
            clear hHa hba hBa hsza hk6
            refine sch_next ⟨hHb.blk.c4, hBb.range⟩ ?_
            simp only [Act.put, List.setIfInBounds_toArray, List.set_cons_zero, List.set_cons_succ]
            refine sch_ef (o := ⟨some 111, _, _, _, _, _⟩) rfl ?_
            have hob := hHb.own.b
            simp only at hob
            rw [HLEN.out] at hob
            refine app_bods (o := ⟨some 111, _, _, _, _, _⟩) wb rfl _ _ rfl B hob rfl hq.at_ rfl (by omega) (Nat.le_trans hsz0 hszb) ?_
            intro v5 wd hv hg hvb
            have hHe := hHb.appB hv hg hvb
            have g4 := (hHb.blk.grown hg hHb.n3).c4
            have p4 := (hHb.blk.grown hg hHb.n3).f4
            have ov := slice_one hv.at_
            have hBd2 := hBb.grown hg (fun e => by simp only [Value.ownBlock, Option.some.injEq] at e; have := (hlow gb (.inr (.inr (.inr rfl)))).2; omega)
            clear hv hg hvb hq hob
            refine sch_next ⟨g4, hBd2.range⟩ ?_
            simp only [Act.put, List.setIfInBounds_toArray, List.set_cons_zero, List.set_cons_succ]
            refine sch_still (o := ⟨some 112, _, _, _, _, _⟩) (v := .pointer (some ⟨G, 0, none⟩)) rfl rfl ?_ ?_
            · intro wx hSx
              go_simp
            simp only [Act.put, List.setIfInBounds_toArray, List.set_cons_zero, List.set_cons_succ]
            refine sch_still (o := ⟨some 113, _, _, _, _, _⟩) (v := .pointer (some ⟨G, 4, none⟩)) rfl rfl ?_ ?_
            · intro wx hSx
              go_simp
            simp only [Act.put, List.setIfInBounds_toArray, List.set_cons_zero, List.set_cons_succ]
            refine sch_end (.cons (o := ⟨none, _, _, _, _, _⟩) rfl .nil) ?_
            refine store_cell (o := ⟨none, _, _, _, _, _⟩) rfl _ _ _ rfl G 4 rfl v5 rfl ov size_bods g4 p4 ?_
            generalize World.setCell wd _ _ = wf at hHe
            obtain ⟨hHf, ht⟩ := hHe
            have hbf := hbb.trans (hHb.tchBelow ht (fun i hi => hi.imp id fun e => .inr (.inr e)))
            have hszf := Nat.le_trans hszb ht.size
            clear hHb hbb hBb hszb ht g4 p4 ov hBd2
            go_wp2_with fail
            go_roundw
            case rel => exact ⟨k + 1, by omega, by go_num, by rw [HS1.out]; exact ⟨⟨_, hHf⟩, hbf, hszf⟩⟩
            case measure => simp [intOf]; omega
          · have HS1 := Lib.hid (HD2.out (fun e => h24 e.2))
            have x2 : decide ((N : Int) < 24) = false := decide_eq_false (by omega)
            clear HD1 HD2
            go_wp2_with fail
            go_roundw
            case rel => exact ⟨k + 1, by omega, by go_num, by rw [HS1.out]; exact ⟨⟨_, hH9⟩, hb9, hsz9⟩⟩
            case measure => simp [intOf]; omega
    · obtain rfl : n = k := by omega
      have hB1 := HUP.out n (Nat.le_refl _)
      clear HDE HLI HST HFR HFS HF0 hrow hri HUP hGlt hGge
      obtain ⟨Y, hY⟩ : ∃ Y : Wd, Y = { X with bodies := F n } := ⟨_, rfl⟩
      rw [← hY] at hH
      have hYr : Y.rows = X.rows := by rw [hY]
      have hYs : Y.scores = X.scores := by rw [hY]
      have hYb : Y.bodies = F n := by rw [hY]
      have hlY := HLV.out
      rw [← hYr, ← hYb] at hB1
      rw [← hYr] at hlY
      have hYn : Y.scores.length = n := by rw [hYs]; exact Hn.out
      have HY := Lib.hid hY
      clear hY hYr hYs hYb HLV
      have hN1 : 1 ≤ Y.bodies.length := Nat.le_trans h1 hB1.le
      have hN24 := hB1.most
      obtain ⟨gb, cap, hxb, hgb⟩ := hH.formB (by omega)
      subst hxb
      obtain ⟨wA, rfl⟩ : ∃ wA : World, wA = wr := ⟨_, rfl⟩
      have HOK : Hid (∀ k, k < Y.bodies.length → AnyOk Y.rows (bAt Y.bodies k) ∧ ((bAt Y.bodies k).kind = 0 ↔ k < n)) := Lib.hid (fun k hk => ⟨hB1.anyOk hk, fun e => by
        by_cases hkn : k < n
        · exact hkn
        · have o := (hB1.ot_at (by omega) hk).kind
          rw [← bAt_eq hk] at o
          omega, fun e => (hB1.pl k e).kind⟩)
      have HLY := Lib.hid hlY
      have HB1 := Lib.hid hB1
      obtain ⟨hl12, hl20⟩ := lv_sizes hlY
      have HMV : ∀ (b : Bd) (wx : World), Hd wx B G x (.slice (some ⟨gs, 0, none⟩) n scap) (.slice (some ⟨gb, 0, none⟩) Y.bodies.length cap) Y → AnyOk Y.rows b → Calls Try.prog 130 #[.agg #[x], b.val] wx fun e w' => e = .returned (.tuple #[(moveU Y.rows b).1.val, .bool (moveU Y.rows b).2]) ∧ Below wx.heap.size wx w' := fun b wx hx hb =>
        l02move_ret b wx hx.own.at_.r (by omega) (fun s hs => by have := hl20 s hs; omega) hlY (by have := hb.kind; omega) hb.free hb.vx hb.vy
      obtain ⟨F2, hF0, hFN, hFS, hFL⟩ := mv_fold (l := Y.rows) (N := Y.bodies.length) (bs := Y.bodies) rfl
      have HFN := Lib.hid hFN.symm
      have HFS := Lib.hid hFS
      have HFL := Lib.hid hFL
      have hszA : B ≤ wA.heap.size := Nat.le_trans hsz0 hsz
      have hlow := hH.lt
      go_upto_region 12 with (fail)
      apply wp_region_lit
      iterate 3 go_step
      have hk1 : Below wA.heap.size wA (wA.alloc (.cells #[] 42)) := (Below.refl _ _).alloc (Nat.le_refl _) _
      have hE : Own (wA.alloc (.cells #[] 42)) wA.heap.size 9 (.slice (some ⟨wA.heap.size, 0, none⟩) 0 0) 0 (cellsB []) := Own.lit (n := 0) 42 rfl rfl (Nat.le_refl _) (by unfold maxLen; omega)
      generalize World.alloc wA _ = w1 at hk1 hE
      have hI : MvI wA w1 B G x (.slice (some ⟨gs, 0, none⟩) n scap) (.slice (some ⟨gb, 0, none⟩) Y.bodies.length cap) Y (.slice (some ⟨wA.heap.size, 0, none⟩) 0 0) (F2 0) := by rw [hF0]; exact ⟨hH.below hk1, hE, hk1.mono hszA, hk1.size⟩
      have q4 := (hH.below hk1).blk.c4
      have hbA := hb
      clear hF0 hFN hFS hFL hlY hB1 hl12 hl20 hH hk1 hE hb
      obtain ⟨N, hN⟩ : ∃ N, Y.bodies.length = N := ⟨_, rfl⟩
      have HN := Lib.hid hN
      rw [hN] at HMV hI q4 hN1 hN24 HFN HFS HOK hlow
      clear hN
      go_wp2_with fail
      clear q4
      go_loopw [8, 9] (fun v i wx => ∃ k : Nat, k ≤ N ∧ i = .int .i64 k ∧ MvI wA wx B G x (.slice (some ⟨gs, 0, none⟩) n scap) (.slice (some ⟨gb, 0, none⟩) N cap) Y v (F2 k)) (fun _ i _ => N - (intOf i).toNat)
      case atStart => exact ⟨0, Nat.zero_le _, rfl, hI⟩
      case round =>
        clear hI
        obtain ⟨k, hk, rfl, hI⟩ := hrel
        by_cases hlt : k < N
        · have HST := Lib.hid (HFS.out k hlt)
          have hle1 := HFL.out k
          obtain ⟨hok, hkn0⟩ := HOK.out k hlt
          generalize F2 k = L at *
          obtain ⟨hH, hO, hb, hsz⟩ := hI
          have hE := hH.elemAt (k := k) (by rw [HN.out]; exact hlt)
          have hR := hE.range
          generalize bAt Y.bodies k = b at *
          obtain ⟨⟨m, stp⟩, hMU⟩ : ∃ q, moveU Y.rows b = q := ⟨_, rfl⟩
          have HLIVE := Lib.hid (mv_live hMU)
          have HGONE := Lib.hid (mv_gone hMU)
          have HSHOT := Lib.hid (mv_shot hMU)
          have HSTIL := Lib.hid (mv_still (l := Y.rows) (b := b))
          have hmt : m.timer = b.timer := by rw [show m = (moveU Y.rows b).1 by rw [hMU]]; exact moveU_timer
          have HMB := fun wx hx => HMV b wx hx hok
          rw [hMU] at HMB
          have hmt1 : b.kind = 1 → 1 ≤ m.timer ∧ m.timer ≤ 25 := fun e => by rw [hmt]; exact hok.shot e
          have hlife := hok.life
          have hkd := hok.kind
          obtain ⟨lo0, lc0, rfl⟩ := hO.slice_
          clear hE HFS HFL HMV HOK hMU hmt hok
          have c1 : (0 : Int) ≤ (k : Int) := by omega
          have c2 : (k : Int) < (N : Int) := by omega
          have q4 := hH.blk.c4
          go_upto_region 16 with (fail)
          apply wp_region_lit
          iterate 18 go_step
          refine load_bod (op := ⟨some 130, _, _, _, _, _⟩) rfl _ rfl gb (k * 9) rfl b hR ?_
          refine alloc_bod rfl rfl ?_
          have hBk := Blk.new wr 42 zB
          have hk0 : Below wr.heap.size wr (wr.alloc (.cells zB.cells.toArray 42)) := (Below.refl _ _).alloc (Nat.le_refl _) _
          change Blk (wr.alloc (.cells zB.cells.toArray 42)) wr.heap.size zB at hBk
          generalize World.alloc wr _ = w1 at hBk hk0
          refine store_bod (op := ⟨none, _, _, _, _, _⟩) rfl _ _ rfl wr.heap.size 0 rfl b rfl hBk.there ?_
          have hB2 := hBk.setAll b
          have hk1 : Below wr.heap.size wr (w1.setCells wr.heap.size 0 b.cells) := setCells_below hk0 (Nat.le_refl _)
          generalize World.setCells w1 _ _ _ = w2 at hB2 hk1
          have hH2 := hH.below hk1
          have hO2 := hO.belowS hk1
          have hb2 := hb.trans (hk1.mono (Nat.le_trans hszA hsz))
          have hsz2 := Nat.le_trans hsz hk1.size
          have hbq : wA.heap.size ≤ wr.heap.size := hsz
          have hbO : ∀ i, (Value.slice lo0 L.length lc0).ownBlock = some i → i < wr.heap.size := fun i hi => (hO.ge i hi).2
          clear hBk hk0 hk1 hH hO hb hsz hR q4
          generalize wr.heap.size = bq at *
          have c0' := hB2.c0
          have c7' := hB2.c7
          by_cases hk2 : b.kind = 2
          · have HL3 := Lib.hid (HST.out.trans (congrArg (fun q => L ++ q) (HSTIL.out (fun e => by omega) (by omega))))
            have x1 : (b.kind == 2) = true := beq_iff_eq.2 hk2
            clear HST HLIVE HGONE HSHOT HSTIL hk2 HMB hmt1
            go_upto_region 18 with (fail)
            clear x1 c0' c7'
            apply wp_region_lit
            iterate 3 go_step
            refine load_bod (op := ⟨some 145, _, _, _, _, _⟩) rfl _ rfl bq 0 rfl b hB2.range ?_
            refine lit_bod (o := ⟨some 146, _, _, _, _, _⟩) rfl _ rfl b rfl ?_
            have hq := own_lit w2 b
            have hk4 : Below w2.heap.size w2 (w2.alloc (.cells (b : Bd).cells.toArray 42)) := (Below.refl _ _).alloc (Nat.le_refl _) _
            generalize World.alloc w2 _ = w8 at hq hk4
            have hH8 := hH2.below hk4
            have hO8 := hO2.belowS hk4
            have hb8 := hb2.trans (hk4.mono (Nat.le_trans hszA hsz2))
            have hsz8 := Nat.le_trans hsz2 hk4.size
            clear hH2 hO2 hb2 hsz2 hk4
            refine app_bods (o := ⟨some 147, _, _, _, _, _⟩) w8 rfl _ _ rfl wA.heap.size hO8 rfl hq.at_ rfl (by omega) hsz8 ?_
            intro v9 w9 hv hg hvb
            have hO9 : Own w9 wA.heap.size 9 v9 (L ++ [b]).length (cellsB (L ++ [b])) := by rw [List.length_append]; exact hv
            have hH9 := hH8.tch (Tch.of_grown hg fun i hi => (show (fun i => wA.heap.size ≤ i) i from (hO8.ge i hi).1)) (fun i hi e => by have := (hlow i hi).2; have e' : wA.heap.size ≤ i := e; omega)
            have hb9 := hb8.grown hg (by omega) (fun j h => by have := (hO8.ge j h).1; omega)
            have hsz9 := Nat.le_trans hsz8 hg.size
            obtain ⟨vo, vc, rfl⟩ := hO9.slice_
            clear hv hg hvb hH8 hO8 hb8 hsz8 hq hB2
            have q4 := hH9.blk.c4
            simp only [Act.put, List.setIfInBounds_toArray, List.set_cons_zero, List.set_cons_succ]
            go_wp2_with fail
            go_roundw
            case rel => exact ⟨k + 1, by omega, by go_num, by rw [HL3.out]; exact ⟨hH9, hO9, hb9, hsz9⟩⟩
            case measure => simp [intOf]; omega
          have x1 : (b.kind == 2) = false := by simp; omega
          by_cases hkn : k < n
          · have x3 : decide ((k : Int) < (n : Int)) = true := decide_eq_true (by omega)
            have hk0 := hkn0.2 hkn
            by_cases hl0 : b.life = 0
            · have HL3 := Lib.hid (HST.out.trans (congrArg (fun q => L ++ q) (HSTIL.out (fun e => by omega) (by omega))))
              have x4 : (b.life == 0) = true := beq_iff_eq.2 hl0
              clear HST HLIVE HGONE HSHOT HSTIL hk2 HMB hmt1 hkn0 hk0 hl0
              go_upto_region 18 with (fail)
              clear x1 x3 x4 c0' c7'
              apply wp_region_lit
              iterate 3 go_step
              refine load_bod (op := ⟨some 145, _, _, _, _, _⟩) rfl _ rfl bq 0 rfl b hB2.range ?_
              refine lit_bod (o := ⟨some 146, _, _, _, _, _⟩) rfl _ rfl b rfl ?_
              have hq := own_lit w2 b
              have hk4 : Below w2.heap.size w2 (w2.alloc (.cells (b : Bd).cells.toArray 42)) := (Below.refl _ _).alloc (Nat.le_refl _) _
              generalize World.alloc w2 _ = w8 at hq hk4
              have hH8 := hH2.below hk4
              have hO8 := hO2.belowS hk4
              have hb8 := hb2.trans (hk4.mono (Nat.le_trans hszA hsz2))
              have hsz8 := Nat.le_trans hsz2 hk4.size
              clear hH2 hO2 hb2 hsz2 hk4
              refine app_bods (o := ⟨some 147, _, _, _, _, _⟩) w8 rfl _ _ rfl wA.heap.size hO8 rfl hq.at_ rfl (by omega) hsz8 ?_
              intro v9 w9 hv hg hvb
              have hO9 : Own w9 wA.heap.size 9 v9 (L ++ [b]).length (cellsB (L ++ [b])) := by rw [List.length_append]; exact hv
              have hH9 := hH8.tch (Tch.of_grown hg fun i hi => (show (fun i => wA.heap.size ≤ i) i from (hO8.ge i hi).1)) (fun i hi e => by have := (hlow i hi).2; have e' : wA.heap.size ≤ i := e; omega)
              have hb9 := hb8.grown hg (by omega) (fun j h => by have := (hO8.ge j h).1; omega)
              have hsz9 := Nat.le_trans hsz8 hg.size
              obtain ⟨vo, vc, rfl⟩ := hO9.slice_
              clear hv hg hvb hH8 hO8 hb8 hsz8 hq hB2
              have q4 := hH9.blk.c4
              simp only [Act.put, List.setIfInBounds_toArray, List.set_cons_zero, List.set_cons_succ]
              go_wp2_with fail
              go_roundw
              case rel => exact ⟨k + 1, by omega, by go_num, by rw [HL3.out]; exact ⟨hH9, hO9, hb9, hsz9⟩⟩
              case measure => simp [intOf]; omega
            · have HL3 := Lib.hid (HST.out.trans (congrArg (fun q => L ++ q) (HLIVE.out hk0 (by omega))))
              have x4 : (b.life == 0) = false := by simp [hl0]
              have x5 : (b.kind == 1) = false := by simp; omega
              clear HST HLIVE HGONE HSHOT HSTIL hk2 hmt1 hkn0 hk0 hl0
              go_upto_region 19 with (fail)
              clear x1 x3 x4 c0' c7'
              have hHd := hH2.drew
              have hOd := hO2.drew
              have hbD := hb2.drew
              have hBd := hB2.drew
              have hszD : wA.heap.size ≤ w2.drew.heap.size := hsz2
              have e0 := hHd.blk.c0
              have rB := hBd.range
              clear hH2 hO2 hb2 hB2 hsz2
              go_cut [11, 12] (fun p q wx => MvE wA wx B G x (.slice (some ⟨gs, 0, none⟩) n scap) (.slice (some ⟨gb, 0, none⟩) N cap) Y (.slice lo0 L.length lc0) L bq b m stp p q)
              case first =>
                refine wp_region_sch (fun wx => wx.cell? ⟨G, 0, none⟩ = some x ∧ wx.rangeAt bq 0 b.cells) 10 12 (.st 0 (.st 1 (.st 2 (.st 3 (.st 4 (.two 5 (.st 6 (.st 7 (.sw 8 (.ef 9 (.fin [10, 11]))))) 9 (.ef 5 (.st 6 (.st 7 (.sw 8 (.fin [10, 11]))))))))))) (by kernel_rfl) (by kernel_rfl) (fun _ _ d _ _ h => by cases d <;> exact h) ⟨e0, rB⟩ ?_
                refine sch_still (o := ⟨some 149, _, _, _, _, _⟩) (v := .pointer (some ⟨G, 0, none⟩)) rfl rfl ?_ ?_
                · intro wx hSx
                  go_simp
                simp only [Act.put, List.setIfInBounds_toArray, List.set_cons_zero, List.set_cons_succ]
                refine sch_still (o := ⟨some 150, _, _, _, _, _⟩) (v := .pointer (some ⟨G, 0, none⟩)) rfl rfl ?_ ?_
                · intro wx hSx
                  go_simp
                simp only [Act.put, List.setIfInBounds_toArray, List.set_cons_zero, List.set_cons_succ]
                refine sch_still (o := ⟨some 151, _, _, _, _, _⟩) (v := .pointer (some ⟨G, 0, none⟩)) rfl rfl ?_ ?_
                · intro wx hSx
                  go_simp
                simp only [Act.put, List.setIfInBounds_toArray, List.set_cons_zero, List.set_cons_succ]
                refine sch_still (o := ⟨some 152, _, _, _, _, _⟩) (v := .agg #[x]) rfl rfl ?_ ?_
                · intro wx hSx
                  obtain ⟨s1, s2⟩ := hSx; go_simp
                simp only [Act.put, List.setIfInBounds_toArray, List.set_cons_zero, List.set_cons_succ]
                refine sch_still (o := ⟨some 153, _, _, _, _, _⟩) (v := b.val) rfl rfl ?_ ?_
                · intro wx hSx
                  exact still_bodL _ rfl bq 0 rfl b hSx.2
                simp only [Act.put, List.setIfInBounds_toArray, List.set_cons_zero, List.set_cons_succ]
                generalize w2.drew = wq at *
                refine sch_2 (o := ⟨some 154, _, _, _, _, _⟩) (p := ⟨some 11, _, _, _, _, _⟩) rfl rfl ?_ ?_
                · refine wpList_callC rfl 130 _ _ rfl Try.func130 (by kernel_rfl) (by kernel_rfl) #[.agg #[x], b.val] (by kernel_rfl) (HMB _ hHd) ?_
                  rintro e w3 ⟨rfl, hk3⟩
                  refine ⟨_, rfl, ?_⟩
                  have hH3 := hHd.below hk3
                  have hO3 := hOd.belowS hk3
                  have hb3 := hbD.trans (hk3.mono (Nat.le_trans hszA hszD))
                  have hB3 := hBd.below hk3 hBd.lt
                  have hsz3 := Nat.le_trans hszD hk3.size
                  refine sch_next ⟨hH3.blk.c0, hB3.range⟩ ?_
                  simp only [Act.put, List.setIfInBounds_toArray, List.set_cons_zero, List.set_cons_succ]
                  refine sch_still (o := ⟨some 148, _, _, _, _, _⟩) (v := .tuple #[m.val, .bool stp]) rfl rfl ?_ ?_
                  · intro wx hSx
                    go_simp
                  simp only [Act.put, List.setIfInBounds_toArray, List.set_cons_zero, List.set_cons_succ]
                  refine sch_still (o := ⟨some 155, _, _, _, _, _⟩) (v := m.val) rfl rfl ?_ ?_
                  · intro wx hSx
                    go_simp
                  simp only [Act.put, List.setIfInBounds_toArray, List.set_cons_zero, List.set_cons_succ]
                  refine sch_sw (o := ⟨some 156, _, _, _, _, _⟩) (v := .bool stp) rfl rfl ?_ ?_
                  · intro wx
                    go_simp
                  simp only [Act.put, List.setIfInBounds_toArray, List.set_cons_zero, List.set_cons_succ]
                  refine sch_ef (o := ⟨some 11, _, _, _, _, _⟩) rfl ?_
                  refine alloc_bod rfl rfl ?_
                  have hC := Blk.new w3 42 zB
                  change Blk (w3.alloc (.cells zB.cells.toArray 42)) w3.heap.size zB at hC
                  have hk4 : Below w3.heap.size w3 (w3.alloc (.cells zB.cells.toArray 42)) := (Below.refl _ _).alloc (Nat.le_refl _) _
                  generalize World.alloc w3 _ = w4 at hC hk4
                  have hgl : bq < w3.heap.size := hB3.lt
                  have hH4 := hH3.below hk4
                  have hO4 := hO3.belowS hk4
                  have hb4 := hb3.trans (hk4.mono (Nat.le_trans hszA hsz3))
                  have hB4 := hB3.below hk4 hB3.lt
                  have hsz4 := Nat.le_trans hsz3 hk4.size
                  generalize w3.heap.size = g5 at *
                  refine sch_next ⟨hH4.blk.c0, hB4.range⟩ ?_
                  simp only [Act.put, List.setIfInBounds_toArray, List.set_cons_zero, List.set_cons_succ]
                  refine sch_end (.cons (o := ⟨none, _, _, _, _, _⟩) rfl (.cons (o := ⟨some 12, _, _, _, _, _⟩) rfl .nil)) ?_
                  refine store_bod (op := ⟨none, _, _, _, _, _⟩) rfl _ _ rfl g5 0 rfl m rfl hC.there ?_
                  have hC4 := hC.setAll m
                  have hg4 := setCells_grown w4 g5 0 m.cells
                  generalize World.setCells w4 _ _ _ = w9 at hC4 hg4
                  have hH9 := hH4.tch (Tch.of_grown1 (S := fun i => i = g5) hg4 rfl) (fun i hi e => by have := (hlow i hi).2; omega)
                  have hO9 := hO4.kept hg4 (.inr (fun e => by have := hbO _ e; omega))
                  have hb9 := hb4.grown hg4 (Nat.le_trans hszA hsz4) (fun j h => by simp only [Option.some.injEq] at h; omega)
                  have hsz9 := Nat.le_trans hsz4 hg4.size
                  have hB9 := hB4.grown hg4 (by simp only [ne_eq, Option.some.injEq]; omega)
                  go_wp2_with fail
                  go_meet
                  case rel => exact ⟨⟨hH9, hO9, hb9, hsz9⟩, hB9, ⟨g5, rfl, by omega, hC4⟩, rfl⟩
                · refine alloc_bod rfl rfl ?_
                  have hC := Blk.new wq 42 zB
                  change Blk (wq.alloc (.cells zB.cells.toArray 42)) wq.heap.size zB at hC
                  have hk4 : Below wq.heap.size wq (wq.alloc (.cells zB.cells.toArray 42)) := (Below.refl _ _).alloc (Nat.le_refl _) _
                  generalize World.alloc wq _ = w3 at hC hk4
                  have hgl : bq < wq.heap.size := hBd.lt
                  have hH3 := hHd.below hk4
                  have hO3 := hOd.belowS hk4
                  have hb3 := hbD.trans (hk4.mono (Nat.le_trans hszA hszD))
                  have hB3 := hBd.below hk4 hBd.lt
                  have hsz3 := Nat.le_trans hszD hk4.size
                  generalize wq.heap.size = g5 at *
                  refine sch_next ⟨hH3.blk.c0, hB3.range⟩ ?_
                  simp only [Act.put, List.setIfInBounds_toArray, List.set_cons_zero, List.set_cons_succ]
                  refine sch_ef (o := ⟨some 154, _, _, _, _, _⟩) rfl ?_
                  refine wpList_callC rfl 130 _ _ rfl Try.func130 (by kernel_rfl) (by kernel_rfl) #[.agg #[x], b.val] (by kernel_rfl) (HMB _ hH3) ?_
                  rintro e w4 ⟨rfl, hk3⟩
                  refine ⟨_, rfl, ?_⟩
                  have hH4 := hH3.below hk3
                  have hO4 := hO3.belowS hk3
                  have hb4 := hb3.trans (hk3.mono (Nat.le_trans hszA hsz3))
                  have hB4 := hB3.below hk3 hB3.lt
                  have hsz4 := Nat.le_trans hsz3 hk3.size
                  have hC' := hC.below hk3 hC.lt
                  clear hC
                  have hC := hC'
                  refine sch_next ⟨hH4.blk.c0, hB4.range⟩ ?_
                  simp only [Act.put, List.setIfInBounds_toArray, List.set_cons_zero, List.set_cons_succ]
                  refine sch_still (o := ⟨some 148, _, _, _, _, _⟩) (v := .tuple #[m.val, .bool stp]) rfl rfl ?_ ?_
                  · intro wx hSx
                    go_simp
                  simp only [Act.put, List.setIfInBounds_toArray, List.set_cons_zero, List.set_cons_succ]
                  refine sch_still (o := ⟨some 155, _, _, _, _, _⟩) (v := m.val) rfl rfl ?_ ?_
                  · intro wx hSx
                    go_simp
                  simp only [Act.put, List.setIfInBounds_toArray, List.set_cons_zero, List.set_cons_succ]
                  refine sch_sw (o := ⟨some 156, _, _, _, _, _⟩) (v := .bool stp) rfl rfl ?_ ?_
                  · intro wx
                    go_simp
                  simp only [Act.put, List.setIfInBounds_toArray, List.set_cons_zero, List.set_cons_succ]
                  refine sch_end (.cons (o := ⟨none, _, _, _, _, _⟩) rfl (.cons (o := ⟨some 12, _, _, _, _, _⟩) rfl .nil)) ?_
                  refine store_bod (op := ⟨none, _, _, _, _, _⟩) rfl _ _ rfl g5 0 rfl m rfl hC.there ?_
                  have hC4 := hC.setAll m
                  have hg4 := setCells_grown w4 g5 0 m.cells
                  generalize World.setCells w4 _ _ _ = w9 at hC4 hg4
                  have hH9 := hH4.tch (Tch.of_grown1 (S := fun i => i = g5) hg4 rfl) (fun i hi e => by have := (hlow i hi).2; omega)
                  have hO9 := hO4.kept hg4 (.inr (fun e => by have := hbO _ e; omega))
                  have hb9 := hb4.grown hg4 (Nat.le_trans hszA hsz4) (fun j h => by simp only [Option.some.injEq] at h; omega)
                  have hsz9 := Nat.le_trans hsz4 hg4.size
                  have hB9 := hB4.grown hg4 (by simp only [ne_eq, Option.some.injEq]; omega)
                  go_wp2_with fail
                  go_meet
                  case rel => exact ⟨⟨hH9, hO9, hb9, hsz9⟩, hB9, ⟨g5, rfl, by omega, hC4⟩, rfl⟩
              case rest =>
              clear hHd hOd hbD hBd hszD e0 rB HMB
              obtain ⟨⟨hH3, hO3, hb3, hsz3⟩, hB3, ⟨g5, rfl, hg5, hC3⟩, rfl⟩ := hcut
              have c0' := hB3.c0
              go_upto_region 23 with (fail)
              clear x5 c0' hB3
              obtain ⟨w3, rfl⟩ : ∃ w3 : World, w3 = wc := ⟨_, rfl⟩
              have hB3 := hC3
              clear hC3
              apply wp_region_lit
              iterate 3 go_step
              refine load_bod (op := ⟨some 171, _, _, _, _, _⟩) rfl _ rfl g5 0 rfl m hB3.range ?_
              refine lit_bod (o := ⟨some 172, _, _, _, _, _⟩) rfl _ rfl m rfl ?_
              have hq := own_lit w3 m
              have hk4 : Below w3.heap.size w3 (w3.alloc (.cells (m : Bd).cells.toArray 42)) := (Below.refl _ _).alloc (Nat.le_refl _) _
              generalize World.alloc w3 _ = w8 at hq hk4
              have hH8 := hH3.below hk4
              have hO8 := hO3.belowS hk4
              have hb8 := hb3.trans (hk4.mono (Nat.le_trans hszA hsz3))
              have hsz8 := Nat.le_trans hsz3 hk4.size
              clear hH3 hO3 hb3 hsz3 hk4
              refine app_bods (o := ⟨some 173, _, _, _, _, _⟩) w8 rfl _ _ rfl wA.heap.size hO8 rfl hq.at_ rfl (by omega) hsz8 ?_
              intro v9 w9 hv hg hvb
              have hO9 : Own w9 wA.heap.size 9 v9 (L ++ [m]).length (cellsB (L ++ [m])) := by rw [List.length_append]; exact hv
              have hH9 := hH8.tch (Tch.of_grown hg fun i hi => (show (fun i => wA.heap.size ≤ i) i from (hO8.ge i hi).1)) (fun i hi e => by have := (hlow i hi).2; have e' : wA.heap.size ≤ i := e; omega)
              have hb9 := hb8.grown hg (by omega) (fun j h => by have := (hO8.ge j h).1; omega)
              have hsz9 := Nat.le_trans hsz8 hg.size
              obtain ⟨vo, vc, rfl⟩ := hO9.slice_
              clear hv hg hvb hH8 hO8 hb8 hsz8 hq hB3
              have q4 := hH9.blk.c4
              simp only [Act.put, List.setIfInBounds_toArray, List.set_cons_zero, List.set_cons_succ]
              go_wp2_with fail
              go_roundw
              case rel => exact ⟨k + 1, by omega, by go_num, by rw [HL3.out]; exact ⟨hH9, hO9, hb9, hsz9⟩⟩
              case measure => simp [intOf]; omega
          · have x3 : decide ((k : Int) < (n : Int)) = false := decide_eq_false (by omega)
            have hk3 : b.kind = 1 := by
              have : b.kind ≠ 0 := fun e => hkn (hkn0.1 e)
              omega
            have hmt1' := hmt1 hk3
            have HG3 := Lib.hid (fun q => HST.out.trans (congrArg (fun q => L ++ q) (HGONE.out hk3 q)))
            have HS3 := Lib.hid (fun q => HST.out.trans (congrArg (fun q => L ++ q) (HSHOT.out hk3 q)))
            have x5 : (b.kind == 1) = true := beq_iff_eq.2 hk3
            have x3n : decide (k < n) = false := decide_eq_false hkn
            clear HST HLIVE HGONE HSHOT HSTIL hk2 hk3 hmt1 hkn0
            go_upto_region 19 with (fail)
            clear x1 x3 x3n c0' c7'
            have hHd := hH2.drew
            have hOd := hO2.drew
            have hbD := hb2.drew
            have hBd := hB2.drew
            have hszD : wA.heap.size ≤ w2.drew.heap.size := hsz2
            have e0 := hHd.blk.c0
            have rB := hBd.range
            clear hH2 hO2 hb2 hB2 hsz2
            go_cut [11, 12] (fun p q wx => MvE wA wx B G x (.slice (some ⟨gs, 0, none⟩) n scap) (.slice (some ⟨gb, 0, none⟩) N cap) Y (.slice lo0 L.length lc0) L bq b m stp p q)
            case first =>
              refine wp_region_sch (fun wx => wx.cell? ⟨G, 0, none⟩ = some x ∧ wx.rangeAt bq 0 b.cells) 10 12 (.st 0 (.st 1 (.st 2 (.st 3 (.st 4 (.two 5 (.st 6 (.st 7 (.sw 8 (.ef 9 (.fin [10, 11]))))) 9 (.ef 5 (.st 6 (.st 7 (.sw 8 (.fin [10, 11]))))))))))) (by kernel_rfl) (by kernel_rfl) (fun _ _ d _ _ h => by cases d <;> exact h) ⟨e0, rB⟩ ?_
              refine sch_still (o := ⟨some 149, _, _, _, _, _⟩) (v := .pointer (some ⟨G, 0, none⟩)) rfl rfl ?_ ?_
              · intro wx hSx
                go_simp
              simp only [Act.put, List.setIfInBounds_toArray, List.set_cons_zero, List.set_cons_succ]
              refine sch_still (o := ⟨some 150, _, _, _, _, _⟩) (v := .pointer (some ⟨G, 0, none⟩)) rfl rfl ?_ ?_
              · intro wx hSx
                go_simp
              simp only [Act.put, List.setIfInBounds_toArray, List.set_cons_zero, List.set_cons_succ]
              refine sch_still (o := ⟨some 151, _, _, _, _, _⟩) (v := .pointer (some ⟨G, 0, none⟩)) rfl rfl ?_ ?_
              · intro wx hSx
                go_simp
              simp only [Act.put, List.setIfInBounds_toArray, List.set_cons_zero, List.set_cons_succ]
              refine sch_still (o := ⟨some 152, _, _, _, _, _⟩) (v := .agg #[x]) rfl rfl ?_ ?_
              · intro wx hSx
                obtain ⟨s1, s2⟩ := hSx; go_simp
              simp only [Act.put, List.setIfInBounds_toArray, List.set_cons_zero, List.set_cons_succ]
              refine sch_still (o := ⟨some 153, _, _, _, _, _⟩) (v := b.val) rfl rfl ?_ ?_
              · intro wx hSx
                exact still_bodL _ rfl bq 0 rfl b hSx.2
              simp only [Act.put, List.setIfInBounds_toArray, List.set_cons_zero, List.set_cons_succ]
              generalize w2.drew = wq at *
              refine sch_2 (o := ⟨some 154, _, _, _, _, _⟩) (p := ⟨some 11, _, _, _, _, _⟩) rfl rfl ?_ ?_
              · refine wpList_callC rfl 130 _ _ rfl Try.func130 (by kernel_rfl) (by kernel_rfl) #[.agg #[x], b.val] (by kernel_rfl) (HMB _ hHd) ?_
                rintro e w3 ⟨rfl, hk3⟩
                refine ⟨_, rfl, ?_⟩
                have hH3 := hHd.below hk3
                have hO3 := hOd.belowS hk3
                have hb3 := hbD.trans (hk3.mono (Nat.le_trans hszA hszD))
                have hB3 := hBd.below hk3 hBd.lt
                have hsz3 := Nat.le_trans hszD hk3.size
                refine sch_next ⟨hH3.blk.c0, hB3.range⟩ ?_
                simp only [Act.put, List.setIfInBounds_toArray, List.set_cons_zero, List.set_cons_succ]
                refine sch_still (o := ⟨some 148, _, _, _, _, _⟩) (v := .tuple #[m.val, .bool stp]) rfl rfl ?_ ?_
                · intro wx hSx
                  go_simp
                simp only [Act.put, List.setIfInBounds_toArray, List.set_cons_zero, List.set_cons_succ]
                refine sch_still (o := ⟨some 155, _, _, _, _, _⟩) (v := m.val) rfl rfl ?_ ?_
                · intro wx hSx
                  go_simp
                simp only [Act.put, List.setIfInBounds_toArray, List.set_cons_zero, List.set_cons_succ]
                refine sch_sw (o := ⟨some 156, _, _, _, _, _⟩) (v := .bool stp) rfl rfl ?_ ?_
                · intro wx
                  go_simp
                simp only [Act.put, List.setIfInBounds_toArray, List.set_cons_zero, List.set_cons_succ]
                refine sch_ef (o := ⟨some 11, _, _, _, _, _⟩) rfl ?_
                refine alloc_bod rfl rfl ?_
                have hC := Blk.new w3 42 zB
                change Blk (w3.alloc (.cells zB.cells.toArray 42)) w3.heap.size zB at hC
                have hk4 : Below w3.heap.size w3 (w3.alloc (.cells zB.cells.toArray 42)) := (Below.refl _ _).alloc (Nat.le_refl _) _
                generalize World.alloc w3 _ = w4 at hC hk4
                have hgl : bq < w3.heap.size := hB3.lt
                have hH4 := hH3.below hk4
                have hO4 := hO3.belowS hk4
                have hb4 := hb3.trans (hk4.mono (Nat.le_trans hszA hsz3))
                have hB4 := hB3.below hk4 hB3.lt
                have hsz4 := Nat.le_trans hsz3 hk4.size
                generalize w3.heap.size = g5 at *
                refine sch_next ⟨hH4.blk.c0, hB4.range⟩ ?_
                simp only [Act.put, List.setIfInBounds_toArray, List.set_cons_zero, List.set_cons_succ]
                refine sch_end (.cons (o := ⟨none, _, _, _, _, _⟩) rfl (.cons (o := ⟨some 12, _, _, _, _, _⟩) rfl .nil)) ?_
                refine store_bod (op := ⟨none, _, _, _, _, _⟩) rfl _ _ rfl g5 0 rfl m rfl hC.there ?_
                have hC4 := hC.setAll m
                have hg4 := setCells_grown w4 g5 0 m.cells
                generalize World.setCells w4 _ _ _ = w9 at hC4 hg4
                have hH9 := hH4.tch (Tch.of_grown1 (S := fun i => i = g5) hg4 rfl) (fun i hi e => by have := (hlow i hi).2; omega)
                have hO9 := hO4.kept hg4 (.inr (fun e => by have := hbO _ e; omega))
                have hb9 := hb4.grown hg4 (Nat.le_trans hszA hsz4) (fun j h => by simp only [Option.some.injEq] at h; omega)
                have hsz9 := Nat.le_trans hsz4 hg4.size
                have hB9 := hB4.grown hg4 (by simp only [ne_eq, Option.some.injEq]; omega)
                go_wp2_with fail
                go_meet
                case rel => exact ⟨⟨hH9, hO9, hb9, hsz9⟩, hB9, ⟨g5, rfl, by omega, hC4⟩, rfl⟩
              · refine alloc_bod rfl rfl ?_
                have hC := Blk.new wq 42 zB
                change Blk (wq.alloc (.cells zB.cells.toArray 42)) wq.heap.size zB at hC
                have hk4 : Below wq.heap.size wq (wq.alloc (.cells zB.cells.toArray 42)) := (Below.refl _ _).alloc (Nat.le_refl _) _
                generalize World.alloc wq _ = w3 at hC hk4
                have hgl : bq < wq.heap.size := hBd.lt
                have hH3 := hHd.below hk4
                have hO3 := hOd.belowS hk4
                have hb3 := hbD.trans (hk4.mono (Nat.le_trans hszA hszD))
                have hB3 := hBd.below hk4 hBd.lt
                have hsz3 := Nat.le_trans hszD hk4.size
                generalize wq.heap.size = g5 at *
                refine sch_next ⟨hH3.blk.c0, hB3.range⟩ ?_
                simp only [Act.put, List.setIfInBounds_toArray, List.set_cons_zero, List.set_cons_succ]
                refine sch_ef (o := ⟨some 154, _, _, _, _, _⟩) rfl ?_
                refine wpList_callC rfl 130 _ _ rfl Try.func130 (by kernel_rfl) (by kernel_rfl) #[.agg #[x], b.val] (by kernel_rfl) (HMB _ hH3) ?_
                rintro e w4 ⟨rfl, hk3⟩
                refine ⟨_, rfl, ?_⟩
                have hH4 := hH3.below hk3
                have hO4 := hO3.belowS hk3
                have hb4 := hb3.trans (hk3.mono (Nat.le_trans hszA hsz3))
                have hB4 := hB3.below hk3 hB3.lt
                have hsz4 := Nat.le_trans hsz3 hk3.size
                have hC' := hC.below hk3 hC.lt
                clear hC
                have hC := hC'
                refine sch_next ⟨hH4.blk.c0, hB4.range⟩ ?_
                simp only [Act.put, List.setIfInBounds_toArray, List.set_cons_zero, List.set_cons_succ]
                refine sch_still (o := ⟨some 148, _, _, _, _, _⟩) (v := .tuple #[m.val, .bool stp]) rfl rfl ?_ ?_
                · intro wx hSx
                  go_simp
                simp only [Act.put, List.setIfInBounds_toArray, List.set_cons_zero, List.set_cons_succ]
                refine sch_still (o := ⟨some 155, _, _, _, _, _⟩) (v := m.val) rfl rfl ?_ ?_
                · intro wx hSx
                  go_simp
                simp only [Act.put, List.setIfInBounds_toArray, List.set_cons_zero, List.set_cons_succ]
                refine sch_sw (o := ⟨some 156, _, _, _, _, _⟩) (v := .bool stp) rfl rfl ?_ ?_
                · intro wx
                  go_simp
                simp only [Act.put, List.setIfInBounds_toArray, List.set_cons_zero, List.set_cons_succ]
                refine sch_end (.cons (o := ⟨none, _, _, _, _, _⟩) rfl (.cons (o := ⟨some 12, _, _, _, _, _⟩) rfl .nil)) ?_
                refine store_bod (op := ⟨none, _, _, _, _, _⟩) rfl _ _ rfl g5 0 rfl m rfl hC.there ?_
                have hC4 := hC.setAll m
                have hg4 := setCells_grown w4 g5 0 m.cells
                generalize World.setCells w4 _ _ _ = w9 at hC4 hg4
                have hH9 := hH4.tch (Tch.of_grown1 (S := fun i => i = g5) hg4 rfl) (fun i hi e => by have := (hlow i hi).2; omega)
                have hO9 := hO4.kept hg4 (.inr (fun e => by have := hbO _ e; omega))
                have hb9 := hb4.grown hg4 (Nat.le_trans hszA hsz4) (fun j h => by simp only [Option.some.injEq] at h; omega)
                have hsz9 := Nat.le_trans hsz4 hg4.size
                have hB9 := hB4.grown hg4 (by simp only [ne_eq, Option.some.injEq]; omega)
                go_wp2_with fail
                go_meet
                case rel => exact ⟨⟨hH9, hO9, hb9, hsz9⟩, hB9, ⟨g5, rfl, by omega, hC4⟩, rfl⟩
            case rest =>
            clear hHd hOd hbD hBd hszD e0 rB HMB
            obtain ⟨⟨hH3, hO3, hb3, hsz3⟩, hB3, ⟨g5, rfl, hg5, hC3⟩, rfl⟩ := hcut
            have c0' := hB3.c0
            have e8 := hC3.c8
            have f8 := hC3.f8
            go_upto_region 21 with (fail)
            clear x5 c0' hB3
            apply wp_region_lit
            iterate 12 go_step
            refine store_cell (o := ⟨none, _, _, _, _, _⟩) rfl _ _ _ rfl g5 8 rfl (.int .i64 (m.timer - 1)) rfl rfl size_int e8 f8 ?_
            have hB5 := hC3.set8 (m.timer - 1)
            have hg5' := setCell_grown wc g5 8 (.int .i64 (m.timer - 1))
            generalize World.setCell wc _ _ = w5 at hB5 hg5'
            have hH5 := hH3.tch (Tch.of_grown1 (S := fun i => i = g5) hg5' rfl) (fun i hi e => by have := (hlow i hi).2; omega)
            have hO5 := hO3.kept hg5' (.inr (fun e => by have := hbO _ e; omega))
            have hb5 := hb3.grown hg5' (Nat.le_trans hszA hsz3) (fun j h => by simp only [Option.some.injEq] at h; omega)
            have hsz5 := Nat.le_trans hsz3 hg5'.size
            clear hH3 hO3 hb3 hC3 hsz3 hg5' e8 f8
            have e8 := hB5.c8
            simp only at e8
            by_cases hgn : stp = true ∨ m.timer - 1 = 0
            · have HL3 := Lib.hid ((HG3.out hgn).trans (List.append_nil L))
              clear HG3 HS3
              have q4 := hH5.blk.c4
              cases stp with
              | true =>
                clear hgn
                go_wp2_with fail
                go_roundw
                case rel => exact ⟨k + 1, by omega, by go_num, by rw [HL3.out]; exact ⟨hH5, hO5, hb5, hsz5⟩⟩
                case measure => simp [intOf]; omega
              | false =>
                have x6 : (m.timer - 1 == 0) = true := by rcases hgn with e | e; (· cases e); (· simp; omega)
                clear hgn
                go_wp2_with fail
                go_roundw
                case rel => exact ⟨k + 1, by omega, by go_num, by rw [HL3.out]; exact ⟨hH5, hO5, hb5, hsz5⟩⟩
                case measure => simp [intOf]; omega
            · have HL3 := Lib.hid (HS3.out hgn)
              clear HG3 HS3
              cases stp with
              | true => exact absurd (.inl rfl) hgn
              | false =>
                have x6 : (m.timer - 1 == 0) = false := by simp; omega
                clear hgn
                go_upto_region 23 with (fail)
                clear x6 e8
                apply wp_region_lit
                iterate 3 go_step
                refine load_bod (op := ⟨some 171, _, _, _, _, _⟩) rfl _ rfl g5 0 rfl { m with timer := m.timer - 1 } hB5.range ?_
                refine lit_bod (o := ⟨some 172, _, _, _, _, _⟩) rfl _ rfl { m with timer := m.timer - 1 } rfl ?_
                have hq := own_lit w5 { m with timer := m.timer - 1 }
                have hk4 : Below w5.heap.size w5 (w5.alloc (.cells ({ m with timer := m.timer - 1 } : Bd).cells.toArray 42)) := (Below.refl _ _).alloc (Nat.le_refl _) _
                generalize World.alloc w5 _ = w8 at hq hk4
                have hH8 := hH5.below hk4
                have hO8 := hO5.belowS hk4
                have hb8 := hb5.trans (hk4.mono (Nat.le_trans hszA hsz5))
                have hsz8 := Nat.le_trans hsz5 hk4.size
                clear hH5 hO5 hb5 hsz5 hk4
                refine app_bods (o := ⟨some 173, _, _, _, _, _⟩) w8 rfl _ _ rfl wA.heap.size hO8 rfl hq.at_ rfl (by omega) hsz8 ?_
                intro v9 w9 hv hg hvb
                have hO9 : Own w9 wA.heap.size 9 v9 (L ++ [{ m with timer := m.timer - 1 }]).length (cellsB (L ++ [{ m with timer := m.timer - 1 }])) := by rw [List.length_append]; exact hv
                have hH9 := hH8.tch (Tch.of_grown hg fun i hi => (show (fun i => wA.heap.size ≤ i) i from (hO8.ge i hi).1)) (fun i hi e => by have := (hlow i hi).2; have e' : wA.heap.size ≤ i := e; omega)
                have hb9 := hb8.grown hg (by omega) (fun j h => by have := (hO8.ge j h).1; omega)
                have hsz9 := Nat.le_trans hsz8 hg.size
                obtain ⟨vo, vc, rfl⟩ := hO9.slice_
                clear hv hg hvb hH8 hO8 hb8 hsz8 hq hB5
                have q4 := hH9.blk.c4
                simp only [Act.put, List.setIfInBounds_toArray, List.set_cons_zero, List.set_cons_succ]
                go_wp2_with fail
                go_roundw
                case rel => exact ⟨k + 1, by omega, by go_num, by rw [HL3.out]; exact ⟨hH9, hO9, hb9, hsz9⟩⟩
                case measure => simp [intOf]; omega
        · obtain rfl : N = k := by omega
          obtain ⟨hH, hO, hb, hsz⟩ := hI
          rw [← HFN.out] at hO
          clear HMV HFS HFL HOK
          obtain ⟨lo, lc, rfl⟩ := hO.slice_
          have hq := hH.putB (hO.mono hszA) (fun e => by have := (hO.ge _ e).1; have := (hlow G (.inl rfl)).2; omega) (dj_ge fun i j hi hj e => by have := (hO.ge j hj).1; have := (hlow i (.inr (.inl hi))).2; omega) (dj_ge fun i j hi hj e => by have := (hO.ge j hj).1; have := (hlow i (.inr (.inr (.inl hi)))).2; omega)
          have q4 := hH.blk.c4
          have p4 := hH.blk.f4
          go_upto_region 24 with (fail)
          apply wp_region_lit
          iterate 12 go_step
          refine store_cell (o := ⟨none, _, _, _, _, _⟩) rfl _ _ _ rfl G 4 rfl (.slice lo (mvAll Y.rows Y.bodies).length lc) rfl rfl size_bods q4 p4 ?_
          generalize World.setCell wr _ _ = w6 at hq
          obtain ⟨hH6, hg⟩ := hq
          have hb6 := hbA.trans (hb.grown hg (Nat.le_trans hszA hsz) (fun j h => by simp only [Option.some.injEq] at h; have := (hlow G (.inl rfl)).1; omega))
          have hBM := mvAll_ok HB1.out
          have hYr : Y.rows = X.rows := by rw [HY.out]
          have hb1e : bodies1 X row = mvAll Y.rows Y.bodies := by
            rw [HY.out]
            show mvAll X.rows (plUp X.rows row X.bodies X.scores.length) = mvAll X.rows (F n)
            rw [HFE.out, Hn.out]
          have hYX : ({ Y with bodies := bodies1 X row } : Wd) = { X with bodies := bodies1 X row } := by rw [HY.out]
          rw [← hb1e, hYX] at hH6
          rw [← hb1e, hYr] at hBM
          clear hH hO hb q4 p4 hg hb1e hYX hbA hgb HFE HB1 HLY HFN HN hN1 hN24 hlow hsz hYr
          have hHT := hits_spec w6 hH6 (by show 1 ≤ X.scores.length; rw [Hn.out]; exact h1) (by show X.scores.length ≤ 4; rw [Hn.out]; exact h4) (by show Bods X.rows X.scores.length (bodies1 X row); rw [Hn.out]; exact hBM) (by show Scs X.scores.length X.scores; rw [Hn.out]; exact HSC.out)
          have hHO := hits_ok (n := X.scores.length) (by rw [Hn.out]; exact HSC.out) (l := X.rows) (bs := bodies1 X row) (by rw [Hn.out]; exact hBM)
          change Calls _ _ _ _ (fun e w' => _ ∧ (∃ xb', Hd w' B G x _ xb' { X with scores := (hits1 X row).1, bodies := (hits1 X row).2 }) ∧ _) at hHT
          change Scs _ (hits1 X row).1 ∧ _ ∧ Bods _ _ (hits1 X row).2 at hHO
          clear hBM
          go_upto_region 25 with (fail)
          apply wp_region_lit
          iterate 3 go_step
          refine wpList_callC rfl 131 _ _ rfl Try.func131 (by kernel_rfl) (by kernel_rfl) #[.pointer (some ⟨G, 0, none⟩)] (by kernel_rfl) hHT ?_
          rintro e w8 ⟨rfl, ⟨xb8, hH8⟩, hk⟩
          refine ⟨_, rfl, ?_⟩
          have hb8 := hb6.trans hk
          clear hb6 hH6 hk hHT
          simp only [Act.put, List.setIfInBounds_toArray, List.set_cons_zero, List.set_cons_succ]
          obtain ⟨H, hHe⟩ : ∃ H, hits1 X row = H := ⟨_, rfl⟩
          rw [hHe] at hH8 hHO
          have HA := Lib.hid (fun q => step_a (row := row) hHe q)
          have HB := Lib.hid (fun p q hp hi => step_b (p := p) hHe q hp hi)
          have HC := Lib.hid (fun p q hp hi => step_c (p := p) hHe q hp hi)
          have htk := HX.out.tick
          have hsd := HX.out.seed
          have hlv := HX.out.lv
          obtain ⟨hHsc, _, hHb⟩ := hHO
          have hHle := hHb.le
          have hHmo := hHb.most
          have hscl := hHsc.len
          rw [Hn.out] at hHle hscl
          have HPK := Lib.hid (fun j (hj : j < n) => (hHb.pl j (by rw [Hn.out]; exact hj)).kind)
          clear hHe hrl hHsc hHb HX HSC
          obtain ⟨H1, H2⟩ := H
          simp only at hH8 HA HB HC hHle hHmo HPK
          have q1 := hH8.blk.c1
          have p1 := hH8.blk.f1
          simp only at q1
          go_upto_region 26 with (fail)
          apply wp_region_lit
          iterate 21 go_step
          refine store_cell (o := ⟨none, _, _, _, _, _⟩) rfl _ _ _ rfl G 1 rfl (.int .i64 (X.tick + 1)) rfl rfl size_int q1 p1 ?_
          have hq := hH8.setTick (X.tick + 1)
          generalize World.setCell w8 _ _ = w9 at hq
          obtain ⟨hH9, hg⟩ := hq
          have hb9 := hb8.grown hg (by have := hH8.ge; have := hH8.blk.lt; omega) (fun j h => by simp only [Option.some.injEq] at h; have := hH8.ge; omega)
          clear hH8 hb8 hg q1 p1
          simp only at hH9
          have q2 := hH9.blk.c2
          have p2 := hH9.blk.f2
          simp only at q2
          go_upto_region 27 with (fail)
          apply wp_region_lit
          iterate 15 go_step
          refine wpList_callC rfl 132 _ _ rfl Try.func132 (by kernel_rfl) (by kernel_rfl) #[.int .i64 X.seed] (by kernel_rfl) (next_spec X.seed w9) ?_
          rintro e wx ⟨rfl, rfl⟩
          refine ⟨_, rfl, ?_⟩
          simp only [Act.put, List.setIfInBounds_toArray, List.set_cons_zero, List.set_cons_succ]
          iterate 6 go_step
          refine store_cell (o := ⟨none, _, _, _, _, _⟩) rfl _ _ _ rfl G 2 rfl (.int .i64 (nextR X.seed)) rfl rfl size_int q2 p2 ?_
          have hq := hH9.setSeed (nextR X.seed)
          generalize World.setCell w9 _ _ = wa at hq
          obtain ⟨hHa, hg⟩ := hq
          have hba := hb9.grown hg (by have := hH9.ge; have := hH9.blk.lt; omega) (fun j h => by simp only [Option.some.injEq] at h; have := hH9.ge; omega)
          clear hH9 hb9 hg q2 p2
          simp only at hHa
          have q0 := hHa.blk.c0
          obtain ⟨hl12, hl20⟩ := lv_sizes hlv
          have hSP := spots_spec wa hHa.own.at_.r (by show X.rows.length ≤ 1048576; omega) (fun s hs => by have := hl20 s hs; omega)
          simp only at hSP
          have hsn := spots_len X.rows
          have hsl := spL_len (spotsT X.rows)
          have HSA := Lib.hid (fun k hk => spL_at (l := spotsT X.rows) (k := k) hk)
          go_upto_region 28 with (fail)
          apply wp_region_lit
          iterate 12 go_step
          refine wpList_callC rfl 133 _ _ rfl Try.func133 (by kernel_rfl) (by kernel_rfl) #[.agg #[x]] (by kernel_rfl) hSP ?_
          rintro e wb ⟨v, us, rfl, hSS, hk⟩
          refine ⟨_, rfl, ?_⟩
          have hHb := hHa.below hk
          have hBle : B ≤ wa.heap.size := by have := hHa.ge; have := hHa.blk.lt; omega
          have hbb := hba.trans (hk.mono hBle)
          have hGa := hHa.lt
          clear hHa hba hk q0 hSP hl12 hl20
          have hul := hSS.n
          rw [hsl] at hul
          clear hsl
          obtain ⟨sn, hsne⟩ : ∃ sn, (spotsT X.rows).length = sn := ⟨_, rfl⟩
          rw [hsne] at hul hsn HA HB HC
          have HSN := Lib.hid hsne
          clear hsne
          obtain ⟨vo, vc, rfl⟩ := hSS.o.slice_
          simp only [Act.put, List.setIfInBounds_toArray, List.set_cons_zero, List.set_cons_succ]
          obtain ⟨gb, cap, hxb, hgb⟩ := hHb.formB (by show 0 < H2.length; omega)
          subst hxb
          simp only at hHb
          have q1 := hHb.blk.c1
          have q4 := hHb.blk.c4
          simp only at q1
          rw [hul]
          have b6 : (0 : Int) ≤ X.tick + 1 := by omega
          by_cases ht : (X.tick + 1) % 16 ≠ 0
          · have HN := Lib.hid (HA.out (.inl ht))
            have x1 : ((X.tick + 1) % 16 != 0) = true := by simpa using ht
            clear HA HB HC ht
            go_wp2_with fail
            refine bodyPost_ret (v := .tuple #[]) (by simp [results, Try.results102, go_sem]) rfl ?_
            exact ⟨rfl, ⟨_, by rw [HN.out]; exact hHb⟩, hbb⟩
          have x1 : ((X.tick + 1) % 16 != 0) = false := by simp at ht ⊢; omega
          by_cases hs0 : sn = 0
          · have HN := Lib.hid (HA.out (.inr (.inl hs0)))
            have x2 : ((sn : Int) == 0) = true := by simp; omega
            clear HA HB HC ht hs0
            go_wp2_with fail
            refine bodyPost_ret (v := .tuple #[]) (by simp [results, Try.results102, go_sem]) rfl ?_
            exact ⟨rfl, ⟨_, by rw [HN.out]; exact hHb⟩, hbb⟩
          have x2 : ((sn : Int) == 0) = false := by simp; omega
          by_cases h24 : 24 ≤ H2.length
          · have HN := Lib.hid (HA.out (.inr (.inr h24)))
            have x3 : decide ((H2.length : Int) ≥ 24) = true := decide_eq_true (by omega)
            clear HA HB HC ht hs0 h24
            go_wp2_with fail
            refine bodyPost_ret (v := .tuple #[]) (by simp [results, Try.results102, go_sem]) rfl ?_
            exact ⟨rfl, ⟨_, by rw [HN.out]; exact hHb⟩, hbb⟩
          have x3 : decide ((H2.length : Int) ≥ 24) = false := decide_eq_false (by omega)
          have HNA : ¬ ((X.tick + 1) % 16 ≠ 0 ∨ sn = 0 ∨ 24 ≤ H2.length) := by omega
          obtain ⟨hrn1, hrn2⟩ := rnd_in (n := sn) (nextR_bd X.seed).1 (nextR_bd X.seed).2 (by omega) (by omega)
          have hrd := rand_lt (s := nextR X.seed) hs0
          rw [HSN.out] at HSA
          obtain ⟨q, hqe⟩ : ∃ q : Nat, randT (nextR X.seed) sn = q := ⟨(randT (nextR X.seed) sn).toNat, by omega⟩
          rw [hqe] at hrn2 hrd HB HC
          rw [Int.toNat_natCast] at hrd HB HC
          have hqn := hrd.2
          have HAT := Lib.hid (HSA.out q hqn)
          obtain ⟨⟨px, py⟩, hp⟩ : ∃ p, pAt (spotsT X.rows) q = p := ⟨_, rfl⟩
          rw [hp] at HAT
          have HBB := Lib.hid (fun hi => HB.out (px, py) HNA hp hi)
          have HCC := Lib.hid (fun hi => HC.out (px, py) HNA hp hi)
          have hRO := hSS.r q (by rw [← hSS.n]; omega)
          rw [HAT.out] at hRO
          simp only [List.length_cons, List.length_nil, Nat.zero_add, Nat.reduceAdd, ints, List.map_cons, List.map_nil] at hRO
          have hvq : us[q]? = some (vAt us q) := vAt_get (by omega)
          have hrx := rnd_spec (nextR X.seed) sn wb
          rw [hrn1, hrn2] at hrx
          have q2 := hHb.blk.c2
          simp only at q2
          clear HA HB HC HNA hp HSA hrn1 hrn2 hqe hrd hs0 ht h24 HAT
          generalize vAt us q = rq at *
          go_upto_region 30 with (fail)
          apply wp_region_lit
          iterate 18 go_step
          refine wpList_callC rfl 134 _ _ rfl Try.func134 (by kernel_rfl) (by kernel_rfl) #[.int .i64 (nextR X.seed), .int .i64 (sn : Int)] (by kernel_rfl) hrx ?_
          rintro e wc ⟨rfl, kd, rfl⟩
          refine ⟨_, rfl, ?_⟩
          have hkd : Below wb.heap.size wb (wb.drewN kd) := below_drewN (Below.refl _ _) kd
          have hHc := hHb.below hkd
          have hbc := hbb.trans (hkd.mono (by have := hHb.ge; have := hHb.blk.lt; omega))
          have hSc := hSS.belowS hkd
          have hOc := hRO.belowS hkd
          clear hHb hbb hSS hRO hkd hrx q1 q4 q2 x1 x2 x3
          generalize wb.drewN kd = wc at *
          simp only [Act.put, List.setIfInBounds_toArray, List.set_cons_zero, List.set_cons_succ]
          have q2 := hHc.blk.c2
          have p2 := hHc.blk.f2
          simp only at q2
          go_upto_region 31 with (fail)
          apply wp_region_lit
          iterate 12 go_step
          refine store_cell (o := ⟨none, _, _, _, _, _⟩) rfl _ _ _ rfl G 2 rfl (.int .i64 (nextR (nextR X.seed))) rfl rfl size_int q2 p2 ?_
          have hq := hHc.setSeed (nextR (nextR X.seed))
          generalize World.setCell wc _ _ = wd at hq
          obtain ⟨hHd, hg⟩ := hq
          have hbd := hbc.grown hg (by have := hHc.ge; have := hHc.blk.lt; omega) (fun j h => by simp only [Option.some.injEq] at h; have := hHc.ge; omega)
          have hGlt := (hGa G (.inl rfl)).2
          have hSd := hSc.o.kept hg (.inr (fun e => by have := (hSc.o.ge _ e).1; omega))
          have hOd := hOc.kept hg (.inr (fun e => by have := (hOc.ge _ e).1; omega))
          clear hHc hbc hSc hOc hg q2 p2
          simp only at hHd
          obtain ⟨go, oc, hgo, hgol⟩ : ∃ go oc, Value.slice vo us.length vc = .slice (some ⟨go, 0, none⟩) us.length oc ∧ go < wd.heap.size := by
            rcases hSd.val with ⟨_, e⟩ | ⟨g, c, e, _, hg, _⟩
            · omega
            · exact ⟨g, c, e, hg⟩
          obtain ⟨gr, rc, hgr, hgrl⟩ : ∃ gr rc, rq = .slice (some ⟨gr, 0, none⟩) 2 rc ∧ gr < wd.heap.size := by
            rcases hOd.val with ⟨_, e⟩ | ⟨g, c, e, _, hg, _⟩
            · omega
            · exact ⟨g, c, e, hg⟩
          simp only [Value.slice.injEq, true_and] at hgo
          obtain ⟨rfl, rfl⟩ := hgo
          subst hgr
          have s0 : wd.cell? ⟨go, q, none⟩ = some (.slice (some ⟨gr, 0, none⟩) 2 rc) := by rw [hSd.cell (by omega)]; exact hvq
          have s1 : wd.cell? ⟨gr, 0, none⟩ = some (.int .i64 px) := by rw [hOd.cell (by omega)]; rfl
          have s2 : wd.cell? ⟨gr, 1, none⟩ = some (.int .i64 py) := by rw [hOd.cell (by omega)]; rfl
          rw [hul] at *
          have d1 : (0 : Int) ≤ (q : Int) := by omega
          have d2 : (q : Int) < (sn : Int) := by omega
          have hgo2 := (hSd.ge go rfl).1
          have hgr2 := (hOd.ge gr rfl).1
          have hgb2 := (hGa gb (.inr (.inr (.inr rfl)))).2
          clear hvq hSd hOd
          obtain ⟨XX, hXX⟩ : ∃ XX : Wd, (⟨X.rows, X.tick + 1, nextR (nextR X.seed), H1, H2⟩ : Wd) = XX := ⟨_, rfl⟩
          have hXb : XX.bodies = H2 := by rw [← hXX]
          have HIY := Lib.hid (fun k hk h1 => (HBB.out (hasI_yes (bs := H2) (p := (px, py)) (k := k) hk h1)).trans hXX)
          have HIN := Lib.hid (fun h1 => (HCC.out (hasI_no (bs := H2) (p := (px, py)) h1)).trans (show (⟨X.rows, X.tick + 1, nextR (nextR X.seed), H1, H2 ++ [itemB (px, py)]⟩ : Wd) = { XX with bodies := H2 ++ [itemB (px, py)] } by rw [← hXX]))
          rw [hXX] at hHd
          have HXB := Lib.hid hXb
          clear HBB HCC hXb hXX
          have q4 := hHd.blk.c4
          obtain ⟨N2, hNe⟩ : ∃ N2, H2.length = N2 := ⟨_, rfl⟩
          rw [hNe] at hHd q4 hHle hHmo
          have HNE := Lib.hid hNe
          clear hNe
          go_wp2_with fail
          clear q4
          go_loopw [16] (fun v wx => ∃ k : Nat, n ≤ k ∧ k ≤ N2 ∧ v = .int .i64 k ∧ (∀ j, j < k → ¬ ((bAt H2 j).kind = 2 ∧ (bAt H2 j).x = px ∧ (bAt H2 j).y = py)) ∧ Below wd.heap.size wd wx) (fun v _ => N2 - (intOf v).toNat)
          case atStart => exact ⟨n, Nat.le_refl _, hHle, rfl, fun j hj e => by have := HPK.out j hj; omega, Below.refl _ _⟩
          case round =>
            obtain ⟨k, hnk, hk, rfl, hno, hw⟩ := hrel
            have HNX := Lib.hid hno
            clear hno
            have hH := hHd.below hw
            have hbe := hbd.trans (hw.mono (by have := hHd.ge; have := hHd.blk.lt; omega))
            have t0 := (hw.cell (p := ⟨go, q, none⟩) hgol).trans s0
            have t1 := (hw.cell (p := ⟨gr, 0, none⟩) hgrl).trans s1
            have t2 := (hw.cell (p := ⟨gr, 1, none⟩) hgrl).trans s2
            have q4 := hH.blk.c4
            clear s0 s1 s2 hHd hbd
            by_cases hlt : k < N2
            · have hE := hH.elemAt (k := k) (by rw [HXB.out, HNE.out]; exact hlt)
              rw [HXB.out] at hE
              have HYk := Lib.hid (fun h1 => HIY.out k (by rw [HNE.out]; exact hlt) h1)
              have HNk := Lib.hid (fun (h1 : ¬ ((bAt H2 k).kind = 2 ∧ (bAt H2 k).x = px ∧ (bAt H2 k).y = py)) => show ∀ j, j < k + 1 → ¬ ((bAt H2 j).kind = 2 ∧ (bAt H2 j).x = px ∧ (bAt H2 j).y = py) from fun j hj => by
                by_cases e : j = k
                · subst e; exact h1
                · exact HNX.out j (by omega))
              clear HIY HIN HNX
              obtain ⟨b, hbq⟩ : ∃ b, bAt H2 k = b := ⟨_, rfl⟩
              rw [hbq] at hE HYk HNk
              clear hbq
              have c1 : (0 : Int) ≤ (k : Int) := by omega
              have c2 : (k : Int) < (N2 : Int) := by omega
              have g0 := hE.c0
              have g2 := hE.c2
              have g3 := hE.c3
              clear hE
              by_cases hall : b.kind = 2 ∧ b.x = px ∧ b.y = py
              · have HN := Lib.hid (HYk.out hall)
                obtain ⟨a1, a2, a3⟩ := hall
                have x1 : (b.kind == 2) = true := beq_iff_eq.2 a1
                have x2 : (b.x == px) = true := beq_iff_eq.2 a2
                have x3 : (b.y == py) = true := beq_iff_eq.2 a3
                clear a1 a2 a3 HYk HNk
                go_upto_region 35 with (fail)
                go_quiet (fail)
                go_wp2_with fail
                refine bodyPost_ret (v := .tuple #[]) (by simp [results, Try.results102, go_sem]) rfl ?_
                exact ⟨rfl, ⟨_, by rw [HN.out]; exact hH.below (below_drewN (Below.refl _ _) _)⟩, below_drewN hbe _⟩
              · have HNN := Lib.hid (HNk.out hall)
                have hcs : (b.kind == 2) = false ∨ ((b.kind == 2) = true ∧ (b.x == px) = false) ∨ ((b.kind == 2) = true ∧ (b.x == px) = true ∧ (b.y == py) = false) := by
                  by_cases a1 : b.kind = 2
                  · by_cases a2 : b.x = px
                    · exact .inr (.inr ⟨by simpa using a1, by simpa using a2, by simpa using fun a3 => hall ⟨a1, a2, a3⟩⟩)
                    · exact .inr (.inl ⟨by simpa using a1, by simpa using a2⟩)
                  · exact .inl (by simpa using a1)
                clear HYk HNk hall
                rcases hcs with x1 | ⟨x1, x2⟩ | ⟨x1, x2, x3⟩
                all_goals
                  go_upto_region 35 with (fail)
                  go_quiet (fail)
                  go_wp2_with fail
                  go_roundw
                  case rel => exact ⟨k + 1, by omega, by omega, by go_num, HNN.out, below_drewN hw _⟩
                  case measure => simp [intOf]; omega
            · obtain rfl : N2 = k := by omega
              have HN := Lib.hid (HIN.out (fun j hj => by rw [HNE.out] at hj; exact HNX.out j hj))
              clear HIN HIY HNX
              go_upto_region 36 with (fail)
              have hHe := hH.drew
              have hbE := hbe.drew
              have r4 := hHe.blk.c4
              have hwE : wd.heap.size ≤ wr.drew.heap.size := hw.size
              have y0 : wr.drew.cell? ⟨go, q, none⟩ = some (.slice (some ⟨gr, 0, none⟩) 2 rc) := t0
              have y1 : wr.drew.cell? ⟨gr, 0, none⟩ = some (.int .i64 px) := t1
              have y2 : wr.drew.cell? ⟨gr, 1, none⟩ = some (.int .i64 py) := t2
              clear hH hbe q4 t0 t1 t2 hw
              refine wp_region_sch (fun wx => wx.cell? ⟨G, 4, none⟩ = some (.slice (some ⟨gb, 0, none⟩) N2 cap) ∧ wx.cell? ⟨go, q, none⟩ = some (.slice (some ⟨gr, 0, none⟩) 2 rc) ∧ wx.cell? ⟨gr, 0, none⟩ = some (.int .i64 px) ∧ wx.cell? ⟨gr, 1, none⟩ = some (.int .i64 py)) 22 24 (.st 0 (.st 1 (.st 2 (.st 3 (.st 4 (.st 5 (.st 6 (.st 7 (.st 8 (.st 9 (.st 10 (.st 11 (.st 12 (.st 13 (.st 14 (.st 15 (.st 16 (.st 17 (.ef 18 (.ef 19 (.st 20 (.st 21 (.fin [22]))))))))))))))))))))))) (by kernel_rfl) (by kernel_rfl) (fun _ _ d _ _ h => by cases d <;> exact h) ⟨r4, y0, y1, y2⟩ ?_
              refine sch_still (o := ⟨some 286, _, _, _, _, _⟩) (v := .pointer (some ⟨G, 0, none⟩)) rfl rfl ?_ ?_
              · intro wx hSx
                go_simp
              simp only [Act.put, List.setIfInBounds_toArray, List.set_cons_zero, List.set_cons_succ]
              refine sch_still (o := ⟨some 287, _, _, _, _, _⟩) (v := .pointer (some ⟨G, 0, none⟩)) rfl rfl ?_ ?_
              · intro wx hSx
                go_simp
              simp only [Act.put, List.setIfInBounds_toArray, List.set_cons_zero, List.set_cons_succ]
              refine sch_still (o := ⟨some 288, _, _, _, _, _⟩) (v := .pointer (some ⟨G, 0, none⟩)) rfl rfl ?_ ?_
              · intro wx hSx
                go_simp
              simp only [Act.put, List.setIfInBounds_toArray, List.set_cons_zero, List.set_cons_succ]
              refine sch_still (o := ⟨some 289, _, _, _, _, _⟩) (v := .pointer (some ⟨G, 4, none⟩)) rfl rfl ?_ ?_
              · intro wx hSx
                go_simp
              simp only [Act.put, List.setIfInBounds_toArray, List.set_cons_zero, List.set_cons_succ]
              refine sch_still (o := ⟨some 290, _, _, _, _, _⟩) (v := .slice (some ⟨gb, 0, none⟩) N2 cap) rfl rfl ?_ ?_
              · intro wx hSx
                obtain ⟨s4, s0, s1, s2⟩ := hSx; go_simp
              simp only [Act.put, List.setIfInBounds_toArray, List.set_cons_zero, List.set_cons_succ]
              refine sch_still (o := ⟨some 291, _, _, _, _, _⟩) (v := .slice (some ⟨go, 0, none⟩) sn vc) rfl rfl ?_ ?_
              · intro wx hSx
                go_simp
              simp only [Act.put, List.setIfInBounds_toArray, List.set_cons_zero, List.set_cons_succ]
              refine sch_still (o := ⟨some 292, _, _, _, _, _⟩) (v := .int .i64 (q : Int)) rfl rfl ?_ ?_
              · intro wx hSx
                go_simp
              simp only [Act.put, List.setIfInBounds_toArray, List.set_cons_zero, List.set_cons_succ]
              refine sch_still (o := ⟨some 293, _, _, _, _, _⟩) (v := .pointer (some ⟨go, q, none⟩)) rfl rfl ?_ ?_
              · intro wx hSx
                go_simp
              simp only [Act.put, List.setIfInBounds_toArray, List.set_cons_zero, List.set_cons_succ]
              refine sch_still (o := ⟨some 294, _, _, _, _, _⟩) (v := .slice (some ⟨gr, 0, none⟩) 2 rc) rfl rfl ?_ ?_
              · intro wx hSx
                obtain ⟨s4, s0, s1, s2⟩ := hSx; go_simp
              simp only [Act.put, List.setIfInBounds_toArray, List.set_cons_zero, List.set_cons_succ]
              refine sch_still (o := ⟨some 295, _, _, _, _, _⟩) (v := .pointer (some ⟨gr, 0, none⟩)) rfl rfl ?_ ?_
              · intro wx hSx
                go_simp
              simp only [Act.put, List.setIfInBounds_toArray, List.set_cons_zero, List.set_cons_succ]
              refine sch_still (o := ⟨some 296, _, _, _, _, _⟩) (v := .int .i64 px) rfl rfl ?_ ?_
              · intro wx hSx
                obtain ⟨s4, s0, s1, s2⟩ := hSx; go_simp
              simp only [Act.put, List.setIfInBounds_toArray, List.set_cons_zero, List.set_cons_succ]
              refine sch_still (o := ⟨some 297, _, _, _, _, _⟩) (v := .slice (some ⟨go, 0, none⟩) sn vc) rfl rfl ?_ ?_
              · intro wx hSx
                go_simp
              simp only [Act.put, List.setIfInBounds_toArray, List.set_cons_zero, List.set_cons_succ]
              refine sch_still (o := ⟨some 298, _, _, _, _, _⟩) (v := .int .i64 (q : Int)) rfl rfl ?_ ?_
              · intro wx hSx
                go_simp
              simp only [Act.put, List.setIfInBounds_toArray, List.set_cons_zero, List.set_cons_succ]
              refine sch_still (o := ⟨some 299, _, _, _, _, _⟩) (v := .pointer (some ⟨go, q, none⟩)) rfl rfl ?_ ?_
              · intro wx hSx
                go_simp
              simp only [Act.put, List.setIfInBounds_toArray, List.set_cons_zero, List.set_cons_succ]
              refine sch_still (o := ⟨some 300, _, _, _, _, _⟩) (v := .slice (some ⟨gr, 0, none⟩) 2 rc) rfl rfl ?_ ?_
              · intro wx hSx
                obtain ⟨s4, s0, s1, s2⟩ := hSx; go_simp
              simp only [Act.put, List.setIfInBounds_toArray, List.set_cons_zero, List.set_cons_succ]
              refine sch_still (o := ⟨some 301, _, _, _, _, _⟩) (v := .pointer (some ⟨gr, 1, none⟩)) rfl rfl ?_ ?_
              · intro wx hSx
                go_simp
              simp only [Act.put, List.setIfInBounds_toArray, List.set_cons_zero, List.set_cons_succ]
              refine sch_still (o := ⟨some 302, _, _, _, _, _⟩) (v := .int .i64 py) rfl rfl ?_ ?_
              · intro wx hSx
                obtain ⟨s4, s0, s1, s2⟩ := hSx; go_simp
              simp only [Act.put, List.setIfInBounds_toArray, List.set_cons_zero, List.set_cons_succ]
              refine sch_still (o := ⟨some 303, _, _, _, _, _⟩) (v := (itemB (px, py)).val) rfl rfl ?_ ?_
              · intro wx hSx
                go_simp; rfl
              simp only [Act.put, List.setIfInBounds_toArray, List.set_cons_zero, List.set_cons_succ]
              generalize wr.drew = wq at *
              refine sch_ef (o := ⟨some 304, _, _, _, _, _⟩) rfl ?_
              refine lit_bod (o := ⟨some 304, _, _, _, _, _⟩) rfl _ rfl (itemB (px, py)) rfl ?_
              have hq := own_lit wq (itemB (px, py))
              have hk6 : Below wq.heap.size wq (wq.alloc (.cells (itemB (px, py)).cells.toArray 42)) := (Below.refl _ _).alloc (Nat.le_refl _) _
              generalize World.alloc wq _ = wy at hq hk6
              have hH6 := hHe.below hk6
              have hBq : B ≤ wq.heap.size := by have := hHe.ge; have := hHe.blk.lt; omega
              have hb6 := hbE.trans (hk6.mono hBq)
              have z0 := (hk6.cell (p := ⟨go, q, none⟩) (by show go < _; omega)).trans y0
              have z1 := (hk6.cell (p := ⟨gr, 0, none⟩) (by show gr < _; omega)).trans y1
              have z2 := (hk6.cell (p := ⟨gr, 1, none⟩) (by show gr < _; omega)).trans y2
              have hzy := hk6.size
              clear hHe hbE hk6 y0 y1 y2 r4
              generalize itemB (px, py) = ib at *
              refine sch_next ⟨hH6.blk.c4, z0, z1, z2⟩ ?_
              simp only [Act.put, List.setIfInBounds_toArray, List.set_cons_zero, List.set_cons_succ]
              refine sch_ef (o := ⟨some 305, _, _, _, _, _⟩) rfl ?_
              have hob := hH6.own.b
              rw [HXB.out, HNE.out] at hob
              refine app_bods (o := ⟨some 305, _, _, _, _, _⟩) wy rfl _ _ rfl B hob rfl hq.at_ rfl (by omega) (by omega) ?_
              intro v5 wz hv hg hvb
              have hHe := hH6.appB hv hg hvb
              have g4 := (hH6.blk.grown hg hH6.n3).c4
              have p4 := (hH6.blk.grown hg hH6.n3).f4
              have ov := slice_one hv.at_
              have u0 := World.grownBy.cell hg z0 (by simp only [Value.ownBlock, ne_eq, Option.some.injEq]; omega)
              have u1 := World.grownBy.cell hg z1 (by simp only [Value.ownBlock, ne_eq, Option.some.injEq]; omega)
              have u2 := World.grownBy.cell hg z2 (by simp only [Value.ownBlock, ne_eq, Option.some.injEq]; omega)
              clear hv hg hvb hq hob
              refine sch_next ⟨g4, u0, u1, u2⟩ ?_
              simp only [Act.put, List.setIfInBounds_toArray, List.set_cons_zero, List.set_cons_succ]
              refine sch_still (o := ⟨some 306, _, _, _, _, _⟩) (v := .pointer (some ⟨G, 0, none⟩)) rfl rfl ?_ ?_
              · intro wx hSx
                go_simp
              simp only [Act.put, List.setIfInBounds_toArray, List.set_cons_zero, List.set_cons_succ]
              refine sch_still (o := ⟨some 307, _, _, _, _, _⟩) (v := .pointer (some ⟨G, 4, none⟩)) rfl rfl ?_ ?_
              · intro wx hSx
                go_simp
              simp only [Act.put, List.setIfInBounds_toArray, List.set_cons_zero, List.set_cons_succ]
              refine sch_end (.cons (o := ⟨none, _, _, _, _, _⟩) rfl .nil) ?_
              refine store_cell (o := ⟨none, _, _, _, _, _⟩) rfl _ _ _ rfl G 4 rfl v5 rfl ov size_bods g4 p4 ?_
              generalize World.setCell wz _ _ = wf at hHe
              obtain ⟨hHf, ht⟩ := hHe
              have hbf := hb6.trans (hH6.tchBelow ht (fun i hi => hi.imp id fun e => .inr (.inr e)))
              clear hH6 hb6 ht g4 p4 ov u0 u1 u2 z0 z1 z2
              go_wp2_with fail
              refine Great.bodyPost_end0 rfl rfl ⟨rfl, ⟨v5, ?_⟩, hbf⟩
              rw [HN.out]
              exact hHf
end Go.Proofs.Ytmamihkcikgmcaa
