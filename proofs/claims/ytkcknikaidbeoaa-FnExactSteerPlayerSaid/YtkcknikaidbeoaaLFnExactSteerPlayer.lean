/- For every input the law FnExactSteerPlayer returns true and leaves what was in memory as it was. No condition. -/
import Derived.Test.YtkcknikaidbeoaaSps
import Derived.Test.YtkcknikaidbeoaaArb
import Derived.Test.YtkcknikaidbeoaaWor
import Derived.Deep.RegionWith
import Derived.Deep.RegionHeld3
import Derived.Deep.DeepCutAuto
import Derived.Deep.CutRange
import Derived.Test.YtkcknikaidbeoaaFrame
import Derived.Test.YtkcknikaidbeoaaOrd
namespace Go.Proofs.Ytkcknikaidbeoaa.fnExactSteerPlayer
open Go.ChangeShapes Go.WideShapes Go.ChangeAt Go.RowKit
open Go.ChangeMaps (open_string shut_string)
set_option linter.unusedVariables false

theorem leaf_put9 {B : Nat} {a w : World} {g : Nat} {z : Bd} (h : Below B a w) (hg : B ≤ g) (hz : Blk w g z) (b : Bd) : Blk (put9 w g b) g b ∧ Below B a (put9 w g b) ∧ B ≤ g := ⟨hz.put9 b, below_put9 h hg b, hg⟩
theorem leaf_alloc {B : Nat} {a w : World} (h : Below B a w) (hs : B ≤ w.heap.size) (t : TypeId) (b : Bd) : Blk (w.alloc (.cells #[.int .i64 b.kind, .int .i64 b.owner, .int .i64 b.x, .int .i64 b.y, .int .i64 b.vx, .int .i64 b.vy, .int .i64 b.aim, .int .i64 b.life, .int .i64 b.timer] t)) w.heap.size b ∧ Below B a (w.alloc (.cells #[.int .i64 b.kind, .int .i64 b.owner, .int .i64 b.x, .int .i64 b.y, .int .i64 b.vx, .int .i64 b.vy, .int .i64 b.aim, .int .i64 b.life, .int .i64 b.timer] t)) ∧ B ≤ w.heap.size := ⟨Blk.new w t b, h.alloc hs _, hs⟩
theorem zblk_new (w : World) (t : TypeId) : Blk (w.alloc (.cells #[.int .i64 0, .int .i64 0, .int .i64 0, .int .i64 0, .int .i64 0, .int .i64 0, .int .i64 0, .int .i64 0, .int .i64 0] t)) w.heap.size zB := Blk.new w t zB
set_option maxRecDepth 100000 in
set_option maxHeartbeats 32000000 in
theorem walk (w : World) (a0 : Value) (w0 : Arg_level w a0) (a1 : Value) (w1 : Arg_bodyW w a1) (a2 : Int) (w2 : (Lit.int .i64 a2).wf = true) :
    Calls Try.prog 11 #[a0, a1, .int .i64 a2] w fun e w' => e = .returned (.bool true) ∧ Below w.heap.size w w' := by
  obtain ⟨u, rfl, l, hat, hwf⟩ := w0
  obtain ⟨b, rfl, hbw⟩ := w1
  have hat0 := hat
  have hmx : l.length ≤ maxLen := by
    obtain ⟨_, ao, cap, _, hn, hmx, _⟩ := hat
    omega
  unfold maxLen at hmx hwf
  have HZ : ∀ wx, At wx 1 u l.length (l.map Value.string) → Calls Try.prog 24 #[.agg #[u], .int .i64 1048576] wx fun e w' => e = .returned (.int .i64 (szS l 1048576)) ∧ Below wx.heap.size wx w' := fun wx hx =>
    szlevel_ret (u := u) (l := l) 1048576 wx hx (by omega) (fun s hs => by have := hwf s hs; omega) (by omega) (by omega)
  obtain ⟨R, ST, hR⟩ : ∃ R ST, steerB l b a2 = (R, ST) := ⟨_, _, rfl⟩
  have HS0 : (l.length ≤ 1048576) → (∀ s ∈ l, s.size ≤ 1048576) → ∀ (v : Value) (wx : World), At wx 1 v l.length (l.map Value.string) → Calls Try.prog 52 #[.agg #[v], b.val, .int .i64 a2] wx fun e w' => e = .returned (.tuple #[R.val, .bool ST]) ∧ Below wx.heap.size wx w' := fun hm hz v wx hx => by
    have := steer_spec b a2 wx hx hm hz
    rw [hR] at this
    exact this
  have HI0 : (l.length ≤ 1048576) → (∀ s ∈ l, s.size ≤ 1048576) → ∀ (v : Value) (wx : World), At wx 1 v l.length (l.map Value.string) → Calls Try.prog 53 #[.agg #[v], b.val, .int .i64 a2] wx fun e w' => e = .returned (.tuple #[R.val, .bool ST]) ∧ Below wx.heap.size wx w' := fun hm hz v wx hx => by
    have := steer_impl b a2 wx hx hm hz hbw
    rw [hR] at this
    exact this
  clear hR
  obtain ⟨k0, k1, k2, k3, k4, k5, k6, k7, k8⟩ := b
  obtain ⟨m0, m1, m2, m3, m4, m5, m6, m7, m8⟩ := R
  unfold Bd.val bod at HS0 HI0 ⊢
  simp only at HS0 HI0 ⊢
  obtain ⟨ao, cap, rfl, hc⟩ := hat.cellS
  clear hc hat
  go_enter Try.func11, Try.ntmps11
  go_wp2_with fail
  generalize hw1 : (w.alloc _).alloc _ = wz
  have hb1 : Below w.heap.size w wz := by rw [← hw1]; exact ((Below.refl _ _).alloc (Nat.le_refl _) _).alloc (by simp) _
  have hL1 : wz.cell? ⟨w.heap.size, 0, none⟩ = some (.slice ao l.length cap) := by rw [← hw1]; exact cell_alloc_lt (World.cell?_alloc_new w _ _ 0) _ (by simp)
  have hB1 : Blk wz (w.heap.size + 1) ⟨k0, k1, k2, k3, k4, k5, k6, k7, k8⟩ := by
    rw [← hw1]
    have := Blk.new (w.alloc (.cells #[.slice ao l.length cap] 24)) 54 ⟨k0, k1, k2, k3, k4, k5, k6, k7, k8⟩
    rwa [show (w.alloc (.cells #[.slice ao l.length cap] 24)).heap.size = w.heap.size + 1 by simp] at this
  clear hw1
  refine (HZ _ (hat0.below hb1)).mono ?_
  rintro e wa ⟨rfl, ha⟩
  have hba := hb1.trans (ha.mono hb1.size)
  have hBa := hB1.below ha hB1.lt
  have hLa : wa.cell? ⟨w.heap.size, 0, none⟩ = some (.slice ao l.length cap) := (ha.cell (by have := hB1.lt; show w.heap.size < _; omega)).trans hL1
  clear ha hb1 hB1 hL1 HZ
  rcases szS_bd l 1048576 (by omega) with hneg | ⟨hneg, _, hm, hz⟩
  · rw [hneg]
    clear hneg HS0 HI0
    go_wp2_with fail
    go_ret
    exact ⟨rfl, hba⟩
  replace hneg : ¬ (szS l 1048576 < 0) := by omega
  generalize szS l 1048576 = Z at *
  replace hm : l.length ≤ 1048576 := by omega
  have HS := HS0 hm (fun s hs => by have := hz s hs; omega)
  have HI := HI0 hm (fun s hs => by have := hz s hs; omega)
  clear HS0 HI0 hz
  have HTB : ∀ wx : World, Calls Try.prog 47 #[.agg #[.int .i64 k0, .int .i64 k1, .int .i64 k2, .int .i64 k3, .int .i64 k4, .int .i64 k5, .int .i64 k6, .int .i64 k7, .int .i64 k8]] wx fun e w' => e = .returned (.agg #[.int .i64 k0, .int .i64 k1, .int .i64 k2, .int .i64 k3, .int .i64 k4, .int .i64 k5, .int .i64 k6, .int .i64 k7, .int .i64 k8]) ∧ Below wx.heap.size wx w' := fun wx => tobody_ret k0 k1 k2 k3 k4 k5 k6 k7 k8 wx
  have hlt := hBa.lt
  -- the reference
  go_upto_region 5 with (fail)
  go_cut [8, 9] (fun p g wx => ∃ g6, p = .pointer (some ⟨g6, 0, none⟩) ∧ g = .bool ST ∧ wa.heap.size ≤ g6 ∧ Blk wx g6 ⟨m0, m1, m2, m3, m4, m5, m6, m7, m8⟩ ∧ Below wa.heap.size wa wx)
  case first =>
    have H := (Below.refl wa.heap.size wa).drew
    have HA : ∀ o, Below wa.heap.size wa (wa.alloc o).drew := fun o => ((Below.refl wa.heap.size wa).alloc (Nat.le_refl _) o).drew
    have HSof : ∀ wx, Below wa.heap.size wa wx → (wx.cell? ⟨w.heap.size, 0, none⟩ = some (.slice ao l.length cap) ∧ wx.cell? ⟨w.heap.size + 1, 0, none⟩ = some (.int .i64 k0) ∧ wx.cell? ⟨w.heap.size + 1, 1, none⟩ = some (.int .i64 k1) ∧ wx.cell? ⟨w.heap.size + 1, 2, none⟩ = some (.int .i64 k2) ∧ wx.cell? ⟨w.heap.size + 1, 3, none⟩ = some (.int .i64 k3) ∧ wx.cell? ⟨w.heap.size + 1, 4, none⟩ = some (.int .i64 k4) ∧ wx.cell? ⟨w.heap.size + 1, 5, none⟩ = some (.int .i64 k5) ∧ wx.cell? ⟨w.heap.size + 1, 6, none⟩ = some (.int .i64 k6) ∧ wx.cell? ⟨w.heap.size + 1, 7, none⟩ = some (.int .i64 k7) ∧ wx.cell? ⟨w.heap.size + 1, 8, none⟩ = some (.int .i64 k8)) := fun wx hb => by
      obtain ⟨_, d0, d1, d2, d3, d4, d5, d6, d7, d8, _⟩ := hBa.below hb hlt
      exact ⟨(hb.cell (p := ⟨w.heap.size, 0, none⟩) (by show w.heap.size < _; omega)).trans hLa, d0, d1, d2, d3, d4, d5, d6, d7, d8⟩
    go_region_held3 (fun wx => wx.cell? ⟨w.heap.size, 0, none⟩ = some (.slice ao l.length cap) ∧ wx.cell? ⟨w.heap.size + 1, 0, none⟩ = some (.int .i64 k0) ∧ wx.cell? ⟨w.heap.size + 1, 1, none⟩ = some (.int .i64 k1) ∧ wx.cell? ⟨w.heap.size + 1, 2, none⟩ = some (.int .i64 k2) ∧ wx.cell? ⟨w.heap.size + 1, 3, none⟩ = some (.int .i64 k3) ∧ wx.cell? ⟨w.heap.size + 1, 4, none⟩ = some (.int .i64 k4) ∧ wx.cell? ⟨w.heap.size + 1, 5, none⟩ = some (.int .i64 k5) ∧ wx.cell? ⟨w.heap.size + 1, 6, none⟩ = some (.int .i64 k6) ∧ wx.cell? ⟨w.heap.size + 1, 7, none⟩ = some (.int .i64 k7) ∧ wx.cell? ⟨w.heap.size + 1, 8, none⟩ = some (.int .i64 k8))
      (first | with_reducible exact HSof _ H | with_reducible exact HSof _ (H.alloc H.size _) | with_reducible exact HSof _ (HA _) | exact HSof _ (below_put9 H hZg ⟨m0, m1, m2, m3, m4, m5, m6, m7, m8⟩) | go_keep)
      (first
        | (go_at_call 26; (with_reducible refine (tolevel_ret _ (by first | exact hat0.below (hba.trans (H.mono hba.size)) | (with_reducible exact hat0.below (hba.trans ((HA _).mono hba.size))) | exact hat0.below (hba.trans ((H.alloc H.size _).mono hba.size))) hm).mono ?_); rintro e wg ⟨y, rfl, hy, hg⟩; obtain ⟨yo, yc, rfl⟩ := hy.slice_; (first | (replace hZ := hZ.below hg hZ.lt) | (with_reducible have hZ := (zblk_new wa _).drew.below hg (by simp); have hZg := Nat.le_refl wa.heap.size) | (have hZ := (zblk_new _ _).below hg (by simp); have hZg := H.size) | skip); (first | (with_reducible replace H := H.trans (hg.mono H.size)) | (with_reducible replace H := (HA _).trans (hg.mono (HA _).size)) | (replace H := (H.alloc H.size _).trans (hg.mono (H.alloc H.size _).size))); have HY := hy.at_; clear hg hy)
        | (go_at_call 47; (with_reducible refine (HTB _).mono ?_); rintro e wg ⟨rfl, hg⟩; (first | (replace HY := HY.below hg) | (replace HY := (HY.below ((Below.refl _ _).alloc (Nat.le_refl _) _)).below hg) | skip); (first | (replace hZ := hZ.below hg hZ.lt) | (with_reducible have hZ := (zblk_new wa _).drew.below hg (by simp); have hZg := Nat.le_refl wa.heap.size) | (have hZ := (zblk_new _ _).below hg (by simp); have hZg := H.size) | skip); (first | (with_reducible replace H := H.trans (hg.mono H.size)) | (with_reducible replace H := (HA _).trans (hg.mono (HA _).size)) | (replace H := (H.alloc H.size _).trans (hg.mono (H.alloc H.size _).size))); clear hg)
        | (go_at_call 52; (with_reducible refine (HS _ _ (by first | exact HY | exact HY.below ((Below.refl _ _).alloc (Nat.le_refl _) _))).mono ?_); rintro e wg ⟨rfl, hg⟩; (first | (replace hZ := hZ.below hg hZ.lt) | (with_reducible have hZ := (zblk_new wa _).drew.below hg (by simp); have hZg := Nat.le_refl wa.heap.size) | (have hZ := (zblk_new _ _).below hg (by simp); have hZg := H.size) | skip); (first | (with_reducible replace H := H.trans (hg.mono H.size)) | (with_reducible replace H := (HA _).trans (hg.mono (HA _).size)) | (replace H := (H.alloc H.size _).trans (hg.mono (H.alloc H.size _).size))); (first | (obtain ⟨_, z0, z1, z2, z3, z4, z5, z6, z7, z8, y0, y1, y2, y3, y4, y5, y6, y7, y8⟩ := id hZ; simp only [zB] at z0 z1 z2 z3 z4 z5 z6 z7 z8) | (obtain ⟨_, z0, z1, z2, z3, z4, z5, z6, z7, z8, y0, y1, y2, y3, y4, y5, y6, y7, y8⟩ := zblk_new wg 56; simp only [zB] at z0 z1 z2 z3 z4 z5 z6 z7 z8)); clear hg))
    all_goals
      rename_i hheld
      clear hheld
      first
        | (have hq := leaf_put9 H hZg hZ ⟨m0, m1, m2, m3, m4, m5, m6, m7, m8⟩
           obtain ⟨hBn, hbn, hgn⟩ := hq
           unfold put9 at hBn hbn
           dsimp only at hBn hbn
           generalize hwn : World.setCell _ _ _ = wn
           rw [hwn] at hBn hbn
           clear hwn)
        | (have hq := leaf_alloc H H.size 56 ⟨m0, m1, m2, m3, m4, m5, m6, m7, m8⟩
           obtain ⟨hBn, hbn, hgn⟩ := hq
           dsimp only at hBn hbn
           generalize hwn : World.alloc _ _ = wn
           rw [hwn] at hBn hbn
           clear hwn)
      go_wp2_with fail
      go_meet
      case rel => exact ⟨_, rfl, rfl, hgn, hBn, hbn⟩
  case rest =>
    obtain ⟨wq, rfl⟩ : ∃ wq : World, wq = wc := ⟨_, rfl⟩
    obtain ⟨g6, rfl, rfl, hg6, hB6, hz1⟩ := hcut
    have hbb := hba.trans (hz1.mono hba.size)
    have hLb : wq.cell? ⟨w.heap.size, 0, none⟩ = some (.slice ao l.length cap) := (hz1.cell (p := ⟨w.heap.size, 0, none⟩) (by show w.heap.size < _; omega)).trans hLa
    have hBb := hBa.below hz1 hBa.lt
    clear hLa hBa hba HS
    have hz1s := hz1.size
    clear hz1
    go_wp2_with fail
    refine (tolevel_ret _ (hat0.below hbb) hm).mono ?_
    rintro e wd ⟨x, rfl, hx, hd⟩
    obtain ⟨xo, xc, rfl⟩ := hx.slice_
    have hbd := hbb.trans (hd.mono hbb.size)
    have hLd : wd.cell? ⟨w.heap.size, 0, none⟩ = some (.slice ao l.length cap) := (hd.cell (p := ⟨w.heap.size, 0, none⟩) (by show w.heap.size < _; omega)).trans hLb
    have hBd := hBb.below hd hBb.lt
    have hB6d := hB6.below hd hB6.lt
    have hds := hd.size
    clear hLb hBb hbb hd hB6
    go_upto_region 7 with (fail)
    generalize hwe : wd.alloc _ = we
    have hbe : Below w.heap.size w we := by rw [← hwe]; exact hbd.alloc hbd.size _
    have hLe : we.cell? ⟨w.heap.size, 0, none⟩ = some (.slice ao l.length cap) := by rw [← hwe]; exact cell_alloc_lt hLd _ (by show w.heap.size < _; omega)
    have hBe : Blk we (w.heap.size + 1) ⟨k0, k1, k2, k3, k4, k5, k6, k7, k8⟩ := by rw [← hwe]; exact hBd.alloc _
    have hB6e : Blk we g6 ⟨m0, m1, m2, m3, m4, m5, m6, m7, m8⟩ := by rw [← hwe]; exact hB6d.alloc _
    have hXe : we.cell? ⟨wd.heap.size, 0, none⟩ = some (.slice xo l.length xc) := by rw [← hwe]; exact World.cell?_alloc_new _ _ _ 0
    have hxe : Own we wq.heap.size 1 (.slice xo l.length xc) l.length (l.map Value.string) := by rw [← hwe]; exact hx.alloc _
    have hes : wd.heap.size < we.heap.size := by rw [← hwe]; simp
    clear hwe hbd hLd hBd hx hB6d
    go_cut [11, 12] (fun p g wx => ∃ g9, p = .pointer (some ⟨g9, 0, none⟩) ∧ g = .bool ST ∧ we.heap.size ≤ g9 ∧ Blk wx g9 ⟨m0, m1, m2, m3, m4, m5, m6, m7, m8⟩ ∧ Below we.heap.size we wx)
    case first =>
      have H := (Below.refl we.heap.size we).drew
      have HA : ∀ o, Below we.heap.size we (we.alloc o).drew := fun o => ((Below.refl we.heap.size we).alloc (Nat.le_refl _) o).drew
      have HSof : ∀ wx, Below we.heap.size we wx → (wx.cell? ⟨wd.heap.size, 0, none⟩ = some (.slice xo l.length xc) ∧ wx.cell? ⟨w.heap.size + 1, 0, none⟩ = some (.int .i64 k0) ∧ wx.cell? ⟨w.heap.size + 1, 1, none⟩ = some (.int .i64 k1) ∧ wx.cell? ⟨w.heap.size + 1, 2, none⟩ = some (.int .i64 k2) ∧ wx.cell? ⟨w.heap.size + 1, 3, none⟩ = some (.int .i64 k3) ∧ wx.cell? ⟨w.heap.size + 1, 4, none⟩ = some (.int .i64 k4) ∧ wx.cell? ⟨w.heap.size + 1, 5, none⟩ = some (.int .i64 k5) ∧ wx.cell? ⟨w.heap.size + 1, 6, none⟩ = some (.int .i64 k6) ∧ wx.cell? ⟨w.heap.size + 1, 7, none⟩ = some (.int .i64 k7) ∧ wx.cell? ⟨w.heap.size + 1, 8, none⟩ = some (.int .i64 k8)) := fun wx hb => by
        obtain ⟨_, d0, d1, d2, d3, d4, d5, d6, d7, d8, _⟩ := hBe.below hb hBe.lt
        exact ⟨(hb.cell (p := ⟨wd.heap.size, 0, none⟩) (by show wd.heap.size < _; omega)).trans hXe, d0, d1, d2, d3, d4, d5, d6, d7, d8⟩
      go_region_held3 (fun wx => wx.cell? ⟨wd.heap.size, 0, none⟩ = some (.slice xo l.length xc) ∧ wx.cell? ⟨w.heap.size + 1, 0, none⟩ = some (.int .i64 k0) ∧ wx.cell? ⟨w.heap.size + 1, 1, none⟩ = some (.int .i64 k1) ∧ wx.cell? ⟨w.heap.size + 1, 2, none⟩ = some (.int .i64 k2) ∧ wx.cell? ⟨w.heap.size + 1, 3, none⟩ = some (.int .i64 k3) ∧ wx.cell? ⟨w.heap.size + 1, 4, none⟩ = some (.int .i64 k4) ∧ wx.cell? ⟨w.heap.size + 1, 5, none⟩ = some (.int .i64 k5) ∧ wx.cell? ⟨w.heap.size + 1, 6, none⟩ = some (.int .i64 k6) ∧ wx.cell? ⟨w.heap.size + 1, 7, none⟩ = some (.int .i64 k7) ∧ wx.cell? ⟨w.heap.size + 1, 8, none⟩ = some (.int .i64 k8))
        (first | with_reducible exact HSof _ H | with_reducible exact HSof _ (H.alloc H.size _) | with_reducible exact HSof _ (HA _) | exact HSof _ (below_put9 H hZg ⟨m0, m1, m2, m3, m4, m5, m6, m7, m8⟩) | go_keep)
        (first
          | (go_at_call 47; (with_reducible refine (HTB _).mono ?_); rintro e wg ⟨rfl, hg⟩; (first | (replace hZ := hZ.below hg hZ.lt) | (with_reducible have hZ := (zblk_new we _).drew.below hg (by simp); have hZg := Nat.le_refl we.heap.size) | (have hZ := (zblk_new _ _).below hg (by simp); have hZg := H.size) | skip); (first | (with_reducible replace H := H.trans (hg.mono H.size)) | (with_reducible replace H := (HA _).trans (hg.mono (HA _).size)) | (replace H := (H.alloc H.size _).trans (hg.mono (H.alloc H.size _).size))); clear hg)
          | (go_at_call 53; (with_reducible refine (HI _ _ (by first | exact hxe.at_.below H | (with_reducible exact hxe.at_.below (HA _)) | exact hxe.at_.below (H.alloc H.size _))).mono ?_); rintro e wg ⟨rfl, hg⟩; (first | (replace hZ := hZ.below hg hZ.lt) | (with_reducible have hZ := (zblk_new we _).drew.below hg (by simp); have hZg := Nat.le_refl we.heap.size) | (have hZ := (zblk_new _ _).below hg (by simp); have hZg := H.size) | skip); (first | (with_reducible replace H := H.trans (hg.mono H.size)) | (with_reducible replace H := (HA _).trans (hg.mono (HA _).size)) | (replace H := (H.alloc H.size _).trans (hg.mono (H.alloc H.size _).size))); (first | (obtain ⟨_, z0, z1, z2, z3, z4, z5, z6, z7, z8, y0, y1, y2, y3, y4, y5, y6, y7, y8⟩ := id hZ; simp only [zB] at z0 z1 z2 z3 z4 z5 z6 z7 z8) | (obtain ⟨_, z0, z1, z2, z3, z4, z5, z6, z7, z8, y0, y1, y2, y3, y4, y5, y6, y7, y8⟩ := zblk_new wg 56; simp only [zB] at z0 z1 z2 z3 z4 z5 z6 z7 z8)); clear hg))
      all_goals
        rename_i hheld
        clear hheld
        first
          | (have hq := leaf_put9 H hZg hZ ⟨m0, m1, m2, m3, m4, m5, m6, m7, m8⟩
             obtain ⟨hBn, hbn, hgn⟩ := hq
             unfold put9 at hBn hbn
             dsimp only at hBn hbn
             generalize hwn : World.setCell _ _ _ = wn
             rw [hwn] at hBn hbn
             clear hwn)
          | (have hq := leaf_alloc H H.size 56 ⟨m0, m1, m2, m3, m4, m5, m6, m7, m8⟩
             obtain ⟨hBn, hbn, hgn⟩ := hq
             dsimp only at hBn hbn
             generalize hwn : World.alloc _ _ = wn
             rw [hwn] at hBn hbn
             clear hwn)
        go_wp2_with fail
        go_meet
        case rel => exact ⟨_, rfl, rfl, hgn, hBn, hbn⟩
    case rest =>
      obtain ⟨g9, rfl, rfl, hg9, hB9, hz2⟩ := hcut
      have hbf := hbe.trans (hz2.mono hbe.size)
      have hLf : wc.cell? ⟨w.heap.size, 0, none⟩ = some (.slice ao l.length cap) := (hz2.cell (p := ⟨w.heap.size, 0, none⟩) (by show w.heap.size < _; omega)).trans hLe
      have hXf : wc.cell? ⟨wd.heap.size, 0, none⟩ = some (.slice xo l.length xc) := (hz2.cell (p := ⟨wd.heap.size, 0, none⟩) hes).trans hXe
      have hxf := hxe.belowS hz2
      have hB6f := hB6e.below hz2 hB6e.lt
      have hfs := hz2.size
      clear hLe hXe hBe hbe hxe hz2 HI HTB hB6e
      obtain ⟨_, p0, p1, p2, p3, p4, p5, p6, p7, p8, _⟩ := id hB9
      obtain ⟨_, q0, q1, q2, q3, q4, q5, q6, q7, q8, _⟩ := id hB6f
      simp only at p0 p1 p2 p3 p4 p5 p6 p7 p8 q0 q1 q2 q3 q4 q5 q6 q7 q8
      have HEB : Calls Try.prog 51 #[.agg #[.int .i64 m0, .int .i64 m1, .int .i64 m2, .int .i64 m3, .int .i64 m4, .int .i64 m5, .int .i64 m6, .int .i64 m7, .int .i64 m8], .agg #[.int .i64 m0, .int .i64 m1, .int .i64 m2, .int .i64 m3, .int .i64 m4, .int .i64 m5, .int .i64 m6, .int .i64 m7, .int .i64 m8]] wc fun e w' => e = .returned (.bool true) ∧ Below wc.heap.size wc w' := eqbody_ret m0 m1 m2 m3 m4 m5 m6 m7 m8 wc
      go_wp2_with fail
      refine HEB.mono ?_
      rintro e wk ⟨rfl, hk⟩
      have hbk := hbf.trans (hk.mono hbf.size)
      have hLk : wk.cell? ⟨w.heap.size, 0, none⟩ = some (.slice ao l.length cap) := (hk.cell (p := ⟨w.heap.size, 0, none⟩) (by show w.heap.size < _; omega)).trans hLf
      have hXk : wk.cell? ⟨wd.heap.size, 0, none⟩ = some (.slice xo l.length xc) := (hk.cell (p := ⟨wd.heap.size, 0, none⟩) (by show wd.heap.size < _; omega)).trans hXf
      have hxk := hxf.belowS hk
      have hks := hk.size
      clear hLf hXf hbf hxf hB9 hB6f p0 p1 p2 p3 p4 p5 p6 p7 p8 q0 q1 q2 q3 q4 q5 q6 q7 q8 HEB
      have hblD : Below w.heap.size w wk.drew := hbk.drew
      have hxD := hxk.drew
      go_wp2_with fail
      go_region_with (first
        | (go_at_call 26; (with_reducible refine (tolevel_ret _ (hat0.below hblD) hm).mono ?_); rintro e wg ⟨y, rfl, hy, hg⟩; obtain ⟨yo, yc, rfl⟩ := hy.slice_; have hblg := hblD.trans (hg.mono hblD.size); have cX : wg.cell? ⟨wd.heap.size, 0, none⟩ = some (.slice xo l.length xc) := (hg.cell (p := ⟨wd.heap.size, 0, none⟩) (by show wd.heap.size < wk.heap.size; omega)).trans hXk; have hxg := hxD.belowS hg)
        | (go_at_call 28; (with_reducible refine (eqlevel_ret _ hxg.at_ hy.at_ (by omega)).mono ?_); rintro e wh ⟨rfl, hh⟩; have hblh := hblg.trans (hh.mono hblg.size)))
      all_goals
        go_wp2_with fail
        go_ret
        exact ⟨rfl, hblh⟩

set_option maxRecDepth 100000 in
theorem lifted (os : Os) (started : os.Started) (H : Type) (enc : TypeId × Value → H) :
    ReturnsInHanded {} Try.checked os 11 .any (Rows.fnExactSteerPlayerSpec.pre6 enc Try.prog Try.f11 Rows.fnExactSteerPlayerRow.domain false) (Rows.fnExactSteerPlayerSpec.post enc Try.prog Try.f11 false true false false) := by
  refine returnsInHanded_of_change (C := Try.checked) own_ started (by kernel_rfl) Try.func11
    (ChangeSpec.witness6 (enc := enc) (C := Try.checked) false ⟨#[], #[.agg #[.slice none 0 0], .agg #[.int .i64 0, .int .i64 0, .int .i64 0, .int .i64 0, .int .i64 0, .int .i64 0, .int .i64 0, .int .i64 0, .int .i64 0], .int .i64 0], []⟩ 8 (by kernel_rfl) (by kernel_rfl) (by kernel_rfl) (by kernel_rfl)) ?_
  intro W base args ds gs before hval0 hW hcnd _
  have hval : ∀ (j : Nat) t v, Try.f11.params[j]? = some t → args[j]? = some v → Value.okWide Try.prog W .any base t v := hval0
  have hW' := hW
  obtain ⟨p, q, hA0, hV, rfl, hfz, hnd⟩ := hW
  have hA : DataW.TrodAll enc Try.prog W 0 (fun _ => true) true Try.f11.params.toList args.toList ds p := hA0
  rw [Try.params11] at hA hval
  obtain ⟨v0, vs0, d0, ds0, p0, q0, hargs, rfl, rfl, h0, r0⟩ := trodAll_cons hA
  obtain ⟨v1, vs1, d1, ds1, p1, q1, rfl, rfl, rfl, h1, r1⟩ := trodAll_cons r0
  obtain ⟨v2, vs2, d2, ds2, p2, q2, rfl, rfl, rfl, h2, r2⟩ := trodAll_cons r1
  obtain ⟨rfl, rfl, rfl⟩ := trodAll_nil r2
  obtain rfl : args = #[v0, v1, v2] := by cases args; simp_all
  have w0 := open_level (hval 0 24 v0 rfl rfl) h0
  have w1 := open_bodyW (hval 1 54 v1 rfl rfl) h1
  obtain ⟨a2, rfl, rfl, rfl, w2⟩ := open_int Try.underlying3 (hval 2 3 v2 rfl rfl) h2
  refine (walk W v0 w0 v1 w1 a2 w2).mono fun e W' ⟨he, hb⟩ => ?_
  subst he
  exact ⟨_, rfl, law_post laidOut (by kernel_rfl) rfl rfl Try.underlying4 (fun gs' h => by subst h; rfl) hW' hb⟩

theorem closed_ : joinedFacts Try.prog 11 Try.f11 Rows.fnExactSteerPlayerSpec Rows.fnExactSteerPlayerRow = true := by
  unfold joinedFacts
  rw [mayEnter_, liftsFinal_, make_, laidOut_, mapsRowed_, stopsHeard_]
  kernel_rfl

theorem proved : Rows.FnExactSteerPlayerSaid :=
  OpenClaim.holds_of_wide 11 Try.f11 rfl rfl rfl rfl rfl rfl rfl ⟨rfl, rfl, rfl, rfl, rfl⟩ rfl rfl rfl rfl rfl (by kernel_rfl) Try.func11 closed_
    (of_decide_eq_true (by kernel_rfl)) (by unfold Func.isWrapper; first | (rw [if_pos (by decide +kernel)]; kernel_rfl) | (rw [if_neg (by decide +kernel)]; exact ⟨rfl, rfl⟩))
    (fun os started H enc _ => lifted os started H enc)
end Go.Proofs.Ytkcknikaidbeoaa.fnExactSteerPlayer
