/- Marks with larger bounds. -/
import Derived.Test.YtiopbdodegopdaaDoorStr
namespace Go.Proofs.YtiopbdodegopdaaDoor
open Go.RowKit

set_option maxHeartbeats 800000 in
theorem markstrs2_ret {v : Value} {l : List ByteArray} {B : Nat} (w : World) (h : Own w B 1 v l.length (l.map Value.string)) (hm : l.length ≤ 1048576) :
    Calls Tryd.prog 34 #[v, .int .i64 1] w fun e w' => e = .returned (.int .i64 (1 + l.length)) ∧ Own w' B 1 v (marksS 1 l.length).length ((marksS 1 l.length).map Value.string) ∧ w.grownBy w' v.ownBlock := by
  rcases h.val with ⟨rfl, h0l⟩ | ⟨g, cap, rfl, hbg, hg, hn, hcm, hcl, hfr⟩
  · obtain rfl : l = [] := List.eq_nil_of_length_eq_zero h0l
    go_enter Tryd.func34, Tryd.ntmps34
    go_wp2_with fail
    go_loop [1, 5] (fun q i => q = .int .i64 1 ∧ i = .int .i64 0) (fun _ i => 0)
    case atStart => exact ⟨rfl, rfl⟩
    case round =>
      obtain ⟨rfl, rfl⟩ := hrel
      go_wp2_with fail
      go_ret
      exact ⟨ret_int (by simp), h, grownBy_self _ _⟩
  · clear hcl hfr
    go_enter Tryd.func34, Tryd.ntmps34
    go_wp2_with fail
    go_loopw [1, 5] (fun q i wr => ∃ k : Nat, k ≤ l.length ∧ q = .int .i64 (1 + k) ∧ i = .int .i64 k ∧ Own wr B 1 (.slice (some ⟨g, 0, none⟩) l.length cap) l.length ((markSTo 1 l k).map Value.string) ∧ w.grownBy wr (some g)) (fun _ i _ => l.length - (intOf i).toNat)
    case atStart => exact ⟨0, Nat.zero_le _, by simp, rfl, by simpa [markSTo, marksS] using h, grownBy_self _ _⟩
    case round =>
      obtain ⟨k, hk, rfl, rfl, hown, hgr⟩ := hrel
      by_cases hlt : k < l.length
      · have HS := Lib.hid (markSTo_succ (k0 := 1) hlt)
        go_wp2_with fail
        refine (marktext_ret _ _ (by omega) (by omega)).mono ?_
        rintro e wa ⟨rfl, ha⟩
        have hown1 : Own wa B 1 (.slice (some ⟨g, 0, none⟩) l.length cap) l.length ((markSTo 1 l k).map Value.string) := hown.below ha (fun i hi => (hown.ge i hi).2)
        have c2 : wa.cell? ⟨g, k, none⟩ = some (.string (l[k]'hlt)) := by
          rw [hown1.cell (by omega), List.getElem?_map, markSTo_at hlt]
          rfl
        have hf := hown1.free k (by omega)
        have hga : wr.grownBy wa (some g) := ⟨ha.os, ha.tape, ha.output, ha.size, fun i hi _ => ha.block i hi⟩
        go_wp2_with fail
        go_roundw
        case rel =>
          have hst := hown1.stored k (.string (markV (1 + k))) (by omega)
          refine ⟨k + 1, by omega, by go_num, by go_num, ?_, grownBy_trans (grownBy_trans hgr hga) hst.2⟩
          rw [HS.out, List.map_set]
          exact hst.1
        case measure => simp [intOf]; omega
      · obtain rfl : k = l.length := by omega
        go_wp2_with fail
        go_ret
        rw [markSTo_end] at hown
        exact ⟨rfl, by rw [marksS_len]; exact hown, hgr⟩
set_option maxHeartbeats 2000000 in
theorem heldstrs2_ret {v : Value} {n : Nat} (w : World) (h : At w 1 v (marksS 1 n).length ((marksS 1 n).map Value.string)) (hm : n ≤ 1048576) :
    Calls Tryd.prog 35 #[v, .int .i64 1] w fun e w' => e = .returned (.int .i64 (1 + n)) ∧ Below w.heap.size w w' := by
  obtain ⟨ao, cap, rfl, hc⟩ := h.cellS
  have hml := marksS_len 1 n
  rw [hml]
  go_enter Tryd.func35, Tryd.ntmps35
  go_wp2_with fail
  go_loopw [1, 5] (fun q i wr => ∃ k : Nat, k ≤ n ∧ q = .int .i64 (1 + k) ∧ i = .int .i64 k ∧ Below w.heap.size w wr) (fun _ i _ => n - (intOf i).toNat)
  case atStart => exact ⟨0, Nat.zero_le _, by simp, rfl, Below.refl _ _⟩
  case round =>
    obtain ⟨k, hk, rfl, rfl, hbl⟩ := hrel
    by_cases hlt : k < n
    · obtain ⟨g, off, rfl, hg, hcell⟩ := hc (by rw [hml]; omega)
      clear hc
      have c0 : w.cell? ⟨g, off + k, none⟩ = some (.string (markV (1 + k))) := (hcell k (by rw [hml]; exact hlt)).trans (by rw [marksS_at])
      have c1 : wr.cell? ⟨g, off + k, none⟩ = some (.string (markV (1 + k))) := (hbl.cell hg).trans c0
      clear hcell hml
      have hblD := hbl.drew
      go_wp2_with fail
      go_region_with ((go_at_call 45; refine (marktext_ret _ _ (by omega) (by omega)).mono ?_; rintro e wa ⟨rfl, ha⟩; have hbla := hblD.trans (ha.mono hblD.size); have c2 := (hbla.cell hg).trans c0))
      all_goals
        go_wp2_with fail
        (try go_simp)
        go_roundw
        case rel => exact ⟨k + 1, by omega, by omega, by omega⟩
        case measure => simp [intOf]; omega
    · obtain rfl : k = n := by omega
      go_wp2_with fail
      go_ret
      exact ⟨rfl, hbl⟩
end Go.Proofs.YtiopbdodegopdaaDoor
