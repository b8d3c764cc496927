/- The draws' texts: l01Text, l01Holes, l01Twins, as far as bounds go. -/
import Derived.Test.YtiopbdodegopdaaDoorGen
import Derived.Deep.RegionWith
import Derived.Deep.RegionLaw
namespace Go.Proofs.YtiopbdodegopdaaDoor
open Go.RowKit

def zeroB (n : Nat) : ByteArray := ⟨(List.replicate n (0 : UInt8)).toArray⟩
theorem zeroB_size (n : Nat) : (zeroB n).size = n := by show (List.replicate n (0 : UInt8)).toArray.size = n; simp
theorem make_run (n : Nat) (h : n ≤ 1099511627776) (w : World) : (Instr.makeSlice 22 (.int .i64 (n : Int)) (.int .i64 (n : Int))).run Tryd.prog w = .ok (.slice (some ⟨w.heap.size, 0, none⟩) n n) (w.alloc (.cells (madeCells #[.int .u8 0] n) 5)) :=
  run_make_row' (P := Tryd.prog) 22 5 (.int .u8 0) 1 Tryd.underlying22 info_u8 rfl .i64 .i64 n (by omega) (by omega) w
theorem conv_run {w : World} {v : Value} {n : Nat} (h : At w 1 v n (u8s (List.replicate n (0 : UInt8)))) : (convert 22 9 v).run Tryd.prog w = .ok (.string (zeroB n)) w :=
  run_string_at (P := Tryd.prog) w 22 9 5 Tryd.underlying22 Tryd.underlying5 Tryd.underlying9 v n _ h
theorem Cur.ge_of {W0 w : World} {g : Nat} {v : Value} {n : Nat} (h : Cur W0 w g v n) {k : Nat} (hk : w.heap.size ≤ k) : W0.heap.size ≤ k ∧ k ≠ g := by
  have := h.lt
  have := h.ge
  omega
theorem Cur.drew {W0 w : World} {g : Nat} {v : Value} {n : Nat} (h : Cur W0 w g v n) : Cur W0 w.drew g v n := h.below (Below.refl _ _).drew
theorem made_facts {W0 wr w : World} {g : Nat} {v : Value} {n m : Nat} (hc : Cur W0 w g v n) (hg : wr.grownBy w (some g)) (hm : m ≤ 1000) :
    Cur W0 (w.alloc (.cells (madeCells #[.int .u8 0] m) 5)) g v n ∧ wr.grownBy (w.alloc (.cells (madeCells #[.int .u8 0] m) 5)) (some g) ∧
      Own (w.alloc (.cells (madeCells #[.int .u8 0] m) 5)) wr.heap.size 1 (.slice (some ⟨w.heap.size, 0, none⟩) m m) m (u8s (List.replicate m (0 : UInt8))) ∧
      (convert 22 9 (.slice (some ⟨w.heap.size, 0, none⟩) m m)).run Tryd.prog (w.alloc (.cells (madeCells #[.int .u8 0] m) 5)) = .ok (.string (zeroB m)) (w.alloc (.cells (madeCells #[.int .u8 0] m) 5)) := by
  have ho : Own (w.alloc (.cells (madeCells #[.int .u8 0] m) 5)) wr.heap.size 1 (.slice (some ⟨w.heap.size, 0, none⟩) m m) m (u8s (List.replicate m (0 : UInt8))) :=
    Own.lit 5 ((toList_madeCells_one _ m).trans (by unfold u8s; rw [List.map_replicate]; rfl)) (by rw [u8s_len]; simp) hg.size (by unfold maxLen; omega)
  exact ⟨hc.below ((Below.refl _ _).alloc (Nat.le_refl _) _), grown_new hg (World.grownBy_alloc w _ none) (fun i h => by cases h), ho, conv_run ho.at_⟩
end Go.Proofs.YtiopbdodegopdaaDoor
