/- The laws' own functions on bodies: markBodyS, heldBodyS. -/
import Derived.Test.YtkcknikaidbeoaaWls
namespace Go.Proofs.Ytkcknikaidbeoaa
open Go.RowKit

/-- the marks of a body: m, m + 1, .. -/
def mkB (m : Int) : Bd := ⟨m, m + 1, m + 1 + 1, m + 1 + 1 + 1, m + 1 + 1 + 1 + 1, m + 1 + 1 + 1 + 1 + 1, m + 1 + 1 + 1 + 1 + 1 + 1, m + 1 + 1 + 1 + 1 + 1 + 1 + 1, m + 1 + 1 + 1 + 1 + 1 + 1 + 1 + 1⟩
def marksB (k0 : Int) (n : Nat) : List Bd := (List.range n).map fun (j : Nat) => mkB (k0 + 9 * (j : Int))
theorem marksB_len (k0 : Int) (n : Nat) : (marksB k0 n).length = n := by simp [marksB]
theorem marksB_at (k0 : Int) {n j : Nat} (h : j < n) : bAt (marksB k0 n) j = mkB (k0 + 9 * j) := by rw [bAt_eq (by rw [marksB_len]; exact h)]; simp [marksB]
def markBTo (k0 : Int) (l : List Bd) (k : Nat) : List Bd := marksB k0 k ++ l.drop k
theorem markBTo_len {k0 : Int} {l : List Bd} {k : Nat} (h : k ≤ l.length) : (markBTo k0 l k).length = l.length := by unfold markBTo; rw [List.length_append, List.length_drop, marksB_len]; omega
theorem markBTo_succ {k0 : Int} {l : List Bd} {k : Nat} (h : k < l.length) : markBTo k0 l (k + 1) = (markBTo k0 l k).set k (mkB (k0 + 9 * k)) := by
  unfold markBTo
  rw [List.set_append_right _ _ (by rw [marksB_len]; omega), marksB_len, Nat.sub_self, List.drop_eq_getElem_cons h, List.set_cons_zero]
  simp [marksB, List.range_succ]
theorem markBTo_end (k0 : Int) (l : List Bd) : markBTo k0 l l.length = marksB k0 l.length := by simp [markBTo]
set_option maxRecDepth 100000 in
set_option maxHeartbeats 4000000 in
theorem markbods_ret {v : Value} {l : List Bd} {B : Nat} (k0 : Int) (w : World) (h : Own w B 9 v l.length (cellsB l)) (hm : l.length ≤ 1048576) (h0 : 0 ≤ k0) (h1 : k0 ≤ 100000000) :
    Calls Try.prog 120 #[v, .int .i64 k0] w fun e w' => e = .returned (.int .i64 (k0 + 9 * l.length)) ∧ Own w' B 9 v (marksB k0 l.length).length (cellsB (marksB k0 l.length)) ∧ w.grownBy w' v.ownBlock := by
  rcases h.val with ⟨rfl, h0l⟩ | ⟨g, cap, rfl, hbg, hg, hn, hcm, hcl, hfr⟩
  · obtain rfl : l = [] := List.eq_nil_of_length_eq_zero h0l
    go_enter Try.func120, Try.ntmps120
    go_wp2_with fail
    go_loop [1, 5] (fun q i => q = .int .i64 k0 ∧ i = .int .i64 0) (fun _ i => 0)
    case atStart => exact ⟨rfl, rfl⟩
    case round =>
      obtain ⟨rfl, rfl⟩ := hrel
      go_wp2_with fail
      go_ret
      exact ⟨ret_int (by simp), h, grownBy_self _ _⟩
  · clear hcl hfr
    go_enter Try.func120, Try.ntmps120
    go_wp2_with fail
    go_loopw [1, 5] (fun q i wr => ∃ (k : Nat) (m : Int), k ≤ l.length ∧ q = .int .i64 m ∧ Hid (m = k0 + 9 * k) ∧ 0 ≤ m ∧ m ≤ 200000000 ∧ i = .int .i64 k ∧ Own wr B 9 (.slice (some ⟨g, 0, none⟩) l.length cap) l.length (cellsB (markBTo k0 l k)) ∧ w.grownBy wr (some g)) (fun _ i _ => l.length - (intOf i).toNat)
    case atStart => exact ⟨0, k0, Nat.zero_le _, rfl, Lib.hid (by simp), h0, by omega, rfl, by simpa [markBTo, marksB] using h, grownBy_self _ _⟩
    case round =>
      obtain ⟨k, m, hk, rfl, HM, hm0, hm1, rfl, hown, hgr⟩ := hrel
      have hsl := markBTo_len (k0 := k0) hk
      by_cases hlt : k < l.length
      · have HS := Lib.hid (markBTo_succ (k0 := k0) hlt)
        have HL := Lib.hid hsl
        have hm9 : m + 9 ≤ 200000000 := by have := HM.out; omega
        have HE := hown.elem (l := markBTo k0 l k) (k := k) (by rw [hsl]; exact hlt)
        obtain ⟨b, hb⟩ : ∃ b, bAt (markBTo k0 l k) k = b := ⟨_, rfl⟩
        rw [hb] at HE
        obtain ⟨d0, d1, d2, d3, d4, d5, d6, d7, d8⟩ := b
        obtain ⟨c0, c1, c2, c3, c4, c5, c6, c7, c8⟩ := HE
        simp only at c0 c1 c2 c3 c4 c5 c6 c7 c8
        obtain ⟨_, _, _, _, _, _, _, _, _, f0, f1, f2, f3, f4, f5, f6, f7, f8⟩ := hown.free9 hlt
        clear hb hsl
        go_wp2_with fail
        go_roundw
        case rel =>
          have hst := hown.storedB (l := markBTo k0 l k) (k := k) (by rw [HL.out]; exact hlt) (mkB m)
          refine ⟨k + 1, m + 1 + 1 + 1 + 1 + 1 + 1 + 1 + 1 + 1, by omega, rfl, Lib.hid (by have := HM.out; omega), by omega, by omega, by go_num, ?_, grownBy_trans hgr hst.2⟩
          rw [HS.out, ← HM.out]
          exact hst.1
        case measure => simp [intOf]; omega
      · obtain rfl : k = l.length := by omega
        have HQ : m = k0 + 9 * (l.length : Int) := HM.out
        go_wp2_with fail
        go_ret
        rw [markBTo_end] at hown
        exact ⟨ret_int HQ, by rw [marksB_len]; exact hown, hgr⟩
set_option maxRecDepth 100000 in
set_option maxHeartbeats 4000000 in
theorem heldbods_ret {v : Value} {n : Nat} (k0 : Int) (w : World) (h : At w 9 v (marksB k0 n).length (cellsB (marksB k0 n))) (hm : n ≤ 1048576) (h0 : 0 ≤ k0) (h1 : k0 ≤ 100000000) :
    Calls Try.prog 122 #[v, .int .i64 k0] w fun e w' => e = .returned (.int .i64 (k0 + 9 * n)) ∧ w = w' := by
  have hA := h
  obtain ⟨ao, cap, rfl, hc⟩ := h.cellB
  have hml := marksB_len k0 n
  rw [hml]
  go_enter Try.func122, Try.ntmps122
  go_wp2_with fail
  go_loop [1, 5] (fun q i => ∃ (k : Nat) (m : Int), k ≤ n ∧ q = .int .i64 m ∧ Hid (m = k0 + 9 * k) ∧ 0 ≤ m ∧ m ≤ 200000000 ∧ i = .int .i64 k) (fun _ i => n - (intOf i).toNat)
  case atStart => exact ⟨0, k0, Nat.zero_le _, rfl, Lib.hid (by simp), h0, by omega, rfl⟩
  case round =>
    obtain ⟨k, m, hk, rfl, HM, hm0, hm1, rfl⟩ := hrel
    by_cases hlt : k < n
    · obtain ⟨g, off, rfl, hg, _⟩ := hc (by rw [hml]; omega)
      clear hc
      have hm9 : m + 9 ≤ 200000000 := by have := HM.out; omega
      have HE := At.elem hA (k := k) (by rw [hml]; exact hlt)
      rw [marksB_at k0 hlt, ← HM.out] at HE
      obtain ⟨c0, c1, c2, c3, c4, c5, c6, c7, c8⟩ := HE
      simp only [mkB] at c0 c1 c2 c3 c4 c5 c6 c7 c8
      clear hA h hml
      go_wp2_with fail
      go_round
      case rel => exact ⟨k + 1, m + 1 + 1 + 1 + 1 + 1 + 1 + 1 + 1 + 1, by omega, rfl, Lib.hid (by have := HM.out; omega), by omega, by omega, by go_num⟩
      case measure => simp [intOf]; omega
    · obtain rfl : k = n := by omega
      have HQ : m = k0 + 9 * (k : Int) := HM.out
      go_wp2_with fail
      go_ret
      first | exact ⟨ret_int HQ, rfl⟩ | exact ⟨rfl, rfl⟩
end Go.Proofs.Ytkcknikaidbeoaa
