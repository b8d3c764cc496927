/- The laws' own functions on bodies: toBodyS, eqBodyS, markBodyS, heldBodyS. -/
import Derived.Test.YtkcknikaidbeoaaBmm
import Derived.Deep.RegionWith
namespace Go.Proofs.Ytkcknikaidbeoaa
open Go.RowKit

theorem tobodyV (b : Bd) (w : World) : Calls Try.prog 47 #[b.val] w fun e w' => e = .returned b.val ∧ Below w.heap.size w w' := by
  obtain ⟨k0, k1, k2, k3, k4, k5, k6, k7, k8⟩ := b
  exact tobody_ret k0 k1 k2 k3 k4 k5 k6 k7 k8 w
theorem eqbodyV (b : Bd) (w : World) : Calls Try.prog 51 #[b.val, b.val] w fun e w' => e = .returned (.bool true) ∧ Below w.heap.size w w' := by
  obtain ⟨k0, k1, k2, k3, k4, k5, k6, k7, k8⟩ := b
  exact eqbody_ret k0 k1 k2 k3 k4 k5 k6 k7 k8 w
set_option maxRecDepth 100000 in
set_option maxHeartbeats 4000000 in
theorem tobods_ret {v : Value} {l : List Bd} (w : World) (h : At w 9 v l.length (cellsB l)) (hm : l.length ≤ 1048576) :
    Calls Try.prog 96 #[v] w fun e w' => ∃ u, e = .returned u ∧ Own w' w.heap.size 9 u l.length (cellsB l) ∧ Below w.heap.size w w' := by
  have h0 := h
  obtain ⟨ao, cap, rfl, hc⟩ := h.cellB
  go_enter Try.func96, Try.ntmps96
  go_wp2_with (with_reducible refine make_bod (o := ⟨some 7, _, _, _, _, _⟩) _ rfl _ _ rfl w.heap.size l.length rfl rfl (by omega) (Nat.le_refl _) ?_)
  intro w1 hown hg
  have hbl : Below w.heap.size w w1 := (Below.refl _ _).grown hg (Nat.le_refl _) (fun k h => by cases h)
  replace hown : Own w1 w.heap.size 9 (.slice (some ⟨w.heap.size, 0, none⟩) l.length l.length) l.length (cellsB (setB l 0)) := by rw [setB_0]; exact hown
  clear hg
  generalize hBe : w.heap.size = B at *
  have HB := Lib.hid hBe; clear hBe
  go_wp2_with fail
  go_loopw [4] (fun i wr => ∃ k : Nat, k ≤ l.length ∧ i = .int .i64 k ∧ Own wr B 9 (.slice (some ⟨B, 0, none⟩) l.length l.length) l.length (cellsB (setB l k)) ∧ Below B w wr) (fun i _ => l.length - (intOf i).toNat)
  case atStart => exact ⟨0, Nat.zero_le _, rfl, hown, hbl⟩
  case round =>
    obtain ⟨k, hk, rfl, hown, hbl⟩ := hrel
    by_cases hlt : k < l.length
    · obtain ⟨g, off, rfl, hg, _⟩ := hc (by omega)
      clear hc
      have HR := ((h0.elem hlt).below hbl hg).range
      have HS := Lib.hid (setB_succ hlt)
      obtain ⟨b, hb⟩ : ∃ b, bAt l k = b := ⟨_, rfl⟩
      rw [hb] at HR HS
      clear hb
      go_wp2_with (with_reducible refine load_lbod (op := ⟨some 19, _, _, _, _, _⟩) rfl _ rfl g (off + k * 9) rfl b HR ?_)
      refine (tobodyV b _).mono ?_
      rintro e wa ⟨rfl, ha⟩
      have hown1 : Own wa B 9 (.slice (some ⟨B, 0, none⟩) l.length l.length) l.length (cellsB (setB l k)) := hown.below ha (fun i hi => (hown.ge i hi).2)
      have hbla := hbl.trans (ha.mono (Nat.le_of_lt (hown.ge B rfl).2))
      have hsl := setB_len (l := l) (k := k) (by omega)
      have HT := hown1.there9 hlt
      clear HR ha hown hbl
      go_wp2_with (with_reducible refine store_bod (op := ⟨none, _, _, _, _, _⟩) rfl _ _ rfl B (k * 9) rfl b rfl HT ?_)
      go_roundw
      case rel =>
        refine ⟨k + 1, by omega, by go_num, ?_, setCells_below hbla (Nat.le_refl _)⟩
        rw [HS.out]
        exact (hown1.storedB (k := k) (by rw [hsl]; exact hlt) b).1
      case measure => simp [intOf]; omega
    · go_wp2_with fail
      go_ret
      refine ⟨_, rfl, ?_, by rw [HB.out]; exact hbl⟩
      rw [show k = l.length by omega, setB_end] at hown
      rw [HB.out]
      exact hown
set_option maxRecDepth 100000 in
set_option maxHeartbeats 4000000 in
theorem eqbods_ret {va vb : Value} {l : List Bd} (w : World) (ha : At w 9 va l.length (cellsB l)) (hb : At w 9 vb l.length (cellsB l)) (hm : l.length ≤ 1048576) :
    Calls Try.prog 100 #[va, vb] w fun e w' => e = .returned (.bool true) ∧ Below w.heap.size w w' := by
  have ha0 := ha
  have hb0 := hb
  obtain ⟨ao, cap, rfl, hca⟩ := ha.cellB
  obtain ⟨bo, cap2, rfl, hcb⟩ := hb.cellB
  go_enter Try.func100, Try.ntmps100
  go_wp2_with fail
  go_loopw [5] (fun i wr => ∃ k : Nat, k ≤ l.length ∧ i = .int .i64 k ∧ Below w.heap.size w wr) (fun i _ => l.length - (intOf i).toNat)
  case atStart => exact ⟨0, Nat.zero_le _, rfl, Below.refl _ _⟩
  case round =>
    obtain ⟨k, hk, rfl, hbl⟩ := hrel
    by_cases hlt : k < l.length
    · obtain ⟨g, off, rfl, hg, _⟩ := hca (by omega)
      obtain ⟨g2, off2, rfl, hg2, _⟩ := hcb (by omega)
      clear hca hcb
      have HR := ((ha0.elem hlt).below hbl hg).range
      have HR2 := ((hb0.elem hlt).below hbl hg2).range
      obtain ⟨b, hb⟩ : ∃ b, bAt l k = b := ⟨_, rfl⟩
      rw [hb] at HR HR2
      clear hb ha0 hb0 ha
      go_wp2_with fail
      refine wp_region_tailV 8 (by kernel_rfl) (by kernel_rfl) ?_
      intro OPS HOPS
      simp only [List.take_succ_cons, List.take_zero, List.drop_succ_cons, List.drop_zero]
      still_step
      still_step
      still_step
      refine still_bodS (op := ⟨some 20, _, _, _, _, _⟩) rfl _ rfl g (off + k * 9) rfl b HR ?_
      simp only [Act.put, List.setIfInBounds_toArray, List.set_cons_zero, List.set_cons_succ]
      still_step
      still_step
      still_step
      refine still_bodS (op := ⟨some 24, _, _, _, _, _⟩) rfl _ rfl g2 (off2 + k * 9) rfl b HR2 ?_
      simp only [Act.put, List.setIfInBounds_toArray, List.set_cons_zero, List.set_cons_succ]
      refine wpStill_nil ?_
      change wpList _ _ _ _ _ wr.drew
      go_wp2_with fail
      refine (eqbodyV b wr.drew).mono ?_
      rintro e wa ⟨rfl, hw⟩
      have hbla := hbl.drew.trans (hw.mono hbl.drew.size)
      go_wp2_with fail
      go_roundw
      case rel => exact ⟨k + 1, by omega, by go_num, hbla⟩
      case measure => simp [intOf]; omega
    · go_wp2_with fail
      go_ret
      exact ⟨rfl, hbl⟩
end Go.Proofs.Ytkcknikaidbeoaa
