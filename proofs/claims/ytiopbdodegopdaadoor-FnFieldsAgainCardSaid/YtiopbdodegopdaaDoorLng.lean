/- l01Long: n bytes of one kind; and what is drawn for EncodeHex. -/
import Derived.Test.YtiopbdodegopdaaDoorGe2
namespace Go.Proofs.YtiopbdodegopdaaDoor
open Go.RowKit

def repTo (n : Nat) (x : UInt8) (k : Nat) : List UInt8 := List.replicate k x ++ List.replicate (n - k) 0
theorem repTo_0 (n : Nat) (x : UInt8) : repTo n x 0 = List.replicate n 0 := by simp [repTo]
theorem repTo_end (n : Nat) (x : UInt8) : repTo n x n = List.replicate n x := by simp [repTo]
theorem repTo_at {n k : Nat} (x : UInt8) (h : k < n) : (u8s (repTo n x k))[k]? = some (.int .u8 0) := by
  unfold repTo u8s
  rw [List.getElem?_map, List.getElem?_append_right (by rw [List.length_replicate]; omega), List.getElem?_replicate, List.length_replicate, if_pos (by omega)]
  rfl
theorem repTo_succ {n k : Nat} {x : UInt8} (h : k < n) : repTo n x (k + 1) = (repTo n x k).set k x := by
  unfold repTo
  rw [List.set_append_right _ _ (by rw [List.length_replicate]; omega), List.length_replicate, Nat.sub_self, show n - k = (n - (k + 1)) + 1 by omega, List.replicate_succ (n := n - (k + 1)), List.set_cons_zero, List.replicate_succ' (n := k), List.append_assoc]
  rfl
def repB (n : Nat) (x : Int) : ByteArray := ⟨(List.replicate n (b8 x)).toArray⟩
theorem repB_size (n : Nat) (x : Int) : (repB n x).size = n := by show (List.replicate n (b8 x)).toArray.size = n; simp
set_option maxHeartbeats 1000000 in
theorem long_ret (n : Int) (m : Nat) (x : Int) (w : World) (hn : n = (m : Int)) (hm : m ≤ 1048576) (h0 : 0 ≤ x) (h1 : x < 256) :
    Calls Tryd.prog 28 #[.int .i64 n, .int .u8 x] w fun e w' => e = .returned (.string (repB m x)) ∧ Below w.heap.size w w' := by
  subst hn
  go_enter Tryd.func28, Tryd.ntmps28
  go_wp2_with (with_reducible refine make_u8 (o := ⟨some 8, _, _, _, _, _⟩) _ rfl _ _ rfl w.heap.size m rfl rfl (by omega) (Nat.le_refl _) ?_)
  intro w1 hown hg
  have hbl : Below w.heap.size w w1 := (Below.refl _ _).grown hg (Nat.le_refl _) (fun k h => by cases h)
  replace hown : Own w1 w.heap.size 1 (.slice (some ⟨w.heap.size, 0, none⟩) m m) m (u8s (repTo m (b8 x) 0)) := by rw [repTo_0]; exact hown
  clear hg
  generalize hBe : w.heap.size = B at *
  have HB := Lib.hid hBe; clear hBe
  go_wp2
  go_loopw [6] (fun i wr => ∃ k : Nat, k ≤ m ∧ i = .int .i64 k ∧ Own wr B 1 (.slice (some ⟨B, 0, none⟩) m m) m (u8s (repTo m (b8 x) k)) ∧ Below B w wr) (fun i _ => m - (intOf i).toNat)
  case atStart => exact ⟨0, Nat.zero_le _, rfl, hown, hbl⟩
  case round =>
    obtain ⟨k, hk, rfl, hown, hbl⟩ := hrel
    by_cases hlt : k < m
    · have c2 : wr.cell? ⟨B, k, none⟩ = some (.int .u8 0) := by
        rw [hown.cell (by omega), repTo_at _ hlt]
      have hf := hown.free k (by omega)
      have HS := Lib.hid (repTo_succ (x := b8 x) hlt)
      go_wp2
      go_roundw
      case rel =>
        refine ⟨k + 1, by omega, by go_num, ?_, ?_⟩
        · rw [HS.out, ← u8s_set, b8_nat h0 h1]
          exact (hown.stored k _ (by omega)).1
        · exact hbl.setCell (p := ⟨B, k, none⟩) (Nat.le_refl _) _
      case measure => simp [intOf]; omega
    · obtain rfl : k = m := by omega
      rw [repTo_end] at hown
      go_wp2_with (with_reducible refine str_law (o := ⟨some 19, _, _, _, _, _⟩) _ rfl _ rfl hown.at_ rfl ?_)
      go_ret
      exact ⟨rfl, by rw [HB.out]; exact hbl⟩
end Go.Proofs.YtiopbdodegopdaaDoor
