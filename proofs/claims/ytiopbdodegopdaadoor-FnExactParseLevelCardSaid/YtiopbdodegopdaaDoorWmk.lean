/- The laws' own functions on bodies: markBodyS, heldBodyS. -/
import Derived.Test.YtiopbdodegopdaaDoorWls
namespace Go.Proofs.YtiopbdodegopdaaDoor
open Go.RowKit

/-- the marks of a body: m, m + 1, .. -/
def mkB (m : Int) : Bd := ⟨m, m + 1, m + 1 + 1, m + 1 + 1 + 1, m + 1 + 1 + 1 + 1, m + 1 + 1 + 1 + 1 + 1, m + 1 + 1 + 1 + 1 + 1 + 1, m + 1 + 1 + 1 + 1 + 1 + 1 + 1, m + 1 + 1 + 1 + 1 + 1 + 1 + 1 + 1⟩
def marksB (k0 : Int) (n : Nat) : List Bd := (List.range n).map fun (j : Nat) => mkB (k0 + 9 * (j : Int))
theorem marksB_len (k0 : Int) (n : Nat) : (marksB k0 n).length = n := by simp [marksB]
theorem marksB_at (k0 : Int) {n j : Nat} (h : j < n) : bAt (marksB k0 n) j = mkB (k0 + 9 * j) := by rw [bAt_eq (by rw [marksB_len]; exact h)]; simp [marksB]
def markBTo (k0 : Int) (l : List Bd) (k : Nat) : List Bd := marksB k0 k ++ l.drop k
theorem markBTo_len {k0 : Int} {l : List Bd} {k : Nat} (h : k ≤ l.length) : (markBTo k0 l k).length = l.length := by unfold markBTo; rw [List.length_append, List.length_drop, marksB_len]; omega
theorem markBTo_succ {k0 : Int} {l : List Bd} {k : Nat} (h : k < l.length) : markBTo k0 l (k + 1) = (markBTo k0 l k).set k (mkB (k0 + 9 * k)) := by
  unfold markBTo
  rw [List.set_append_right _ _ (by rw [marksB_len]; omega), marksB_len, Nat.sub_self, List.drop_eq_getElem_cons h, List.set_cons_zero]
  simp [marksB, List.range_succ]
theorem markBTo_end (k0 : Int) (l : List Bd) : markBTo k0 l l.length = marksB k0 l.length := by simp [markBTo]
end Go.Proofs.YtiopbdodegopdaaDoor
