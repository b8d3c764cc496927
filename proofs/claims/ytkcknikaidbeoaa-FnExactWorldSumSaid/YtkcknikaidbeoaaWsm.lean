/- WorldSum, the program's and the reference's. -/
import Derived.Test.YtkcknikaidbeoaaWby
import Derived.Test.YtkcknikaidbeoaaCk
namespace Go.Proofs.Ytkcknikaidbeoaa
open Go.RowKit

def sumW (X : Wd) : Int := cksum (bytesW X)
theorem bytesW_size (X : Wd) : (bytesW X).size ≤ 10000 := by
  unfold bytesW
  by_cases h : okW X = true
  · rw [if_pos h]
    obtain ⟨h1, h2⟩ := okW_sizes h
    unfold packI pkI
    by_cases h3 : okS (listW X) = true
    · rw [if_pos h3]
      have a1 := encV_len ((listW X).length : Nat)
      have a2 := encsL_len (listW X)
      have a3 := listW_len X
      show (List.toArray _).size ≤ _
      rw [List.size_toArray, List.length_append]
      omega
    · rw [if_neg h3]
      show (0 : Nat) ≤ _
      omega
  · rw [if_neg h]
    show (0 : Nat) ≤ _
    omega
set_option maxHeartbeats 1000000 in
theorem wsum_impl {u us ub : Value} {X : Wd} (w : World) (h : WAt w u us ub X) (hm : WSmall X) (hw : ∀ b ∈ X.bodies, BWf b) :
    Calls Try.prog 59 #[.agg #[u, .int .i64 X.tick, .int .i64 X.seed, us, ub]] w fun e w' => e = .returned (.int .i64 (sumW X)) ∧ Below w.heap.size w w' := by
  have HB : ∀ wx, Below w.heap.size w wx → Calls Try.prog 57 #[.agg #[u, .int .i64 X.tick, .int .i64 X.seed, us, ub]] wx fun e w' => e = .returned (.string (bytesW X)) ∧ Below wx.heap.size wx w' := fun wx hx => wbytes_impl wx (h.below hx) hm hw
  have hz := bytesW_size X
  have HE : Hid (sumW X = cksum (bytesW X)) := Lib.hid rfl
  generalize bytesW X = WB at *
  clear h
  go_enter Try.func59, Try.ntmps59
  go_upto_region 1 with (fail)
  generalize hw1 : w.alloc _ = w1
  have hb1 : Below w.heap.size w w1 := by rw [← hw1]; exact (Below.refl _ _).alloc (Nat.le_refl _) _
  have hA1 : WBlk w1 w.heap.size u X.tick X.seed us ub := by rw [← hw1]; exact WBlk.new w _ u X.tick X.seed us ub
  clear hw1
  go_wp2_with (with_reducible refine load_wld (op := ⟨some 3, _, _, _, _, _⟩) rfl _ rfl w.heap.size rfl u X.tick X.seed us ub hA1.range ?_)
  refine (HB _ hb1).mono ?_
  rintro e wa ⟨rfl, ha⟩
  have hba := hb1.trans (ha.mono hb1.size)
  go_wp2_with fail
  refine (ck_impl _ _ (by unfold maxLen; omega)).mono ?_
  rintro e wx ⟨rfl, rfl⟩
  go_wp2_with fail
  go_ret
  exact ⟨ret_int (by rw [HE.out]), hba⟩
set_option maxHeartbeats 1000000 in
theorem wsum_spec {u us ub : Value} {X : Wd} (w : World) (h : WAt w u us ub X) (hm : WSmall X) :
    Calls Try.prog 58 #[.agg #[u, .int .i64 X.tick, .int .i64 X.seed, us, ub]] w fun e w' => e = .returned (.int .i64 (sumW X)) ∧ Below w.heap.size w w' := by
  have HB : ∀ wx, Below w.heap.size w wx → Calls Try.prog 56 #[.agg #[u, .int .i64 X.tick, .int .i64 X.seed, us, ub]] wx fun e w' => e = .returned (.string (bytesW X)) ∧ Below wx.heap.size wx w' := fun wx hx => wbytes_spec wx (h.below hx) hm
  have hz := bytesW_size X
  have HE : Hid (sumW X = cksum (bytesW X)) := Lib.hid rfl
  generalize bytesW X = WB at *
  clear h
  go_enter Try.func58, Try.ntmps58
  go_upto_region 1 with (fail)
  generalize hw1 : w.alloc _ = w1
  have hb1 : Below w.heap.size w w1 := by rw [← hw1]; exact (Below.refl _ _).alloc (Nat.le_refl _) _
  have hA1 : WBlk w1 w.heap.size u X.tick X.seed us ub := by rw [← hw1]; exact WBlk.new w _ u X.tick X.seed us ub
  clear hw1
  go_wp2_with (with_reducible refine load_wld (op := ⟨some 3, _, _, _, _, _⟩) rfl _ rfl w.heap.size rfl u X.tick X.seed us ub hA1.range ?_)
  refine (HB _ hb1).mono ?_
  rintro e wa ⟨rfl, ha⟩
  have hba := hb1.trans (ha.mono hb1.size)
  go_wp2_with fail
  refine (ck_spec _ _ (by unfold maxLen; omega)).mono ?_
  rintro e wx ⟨rfl, rfl⟩
  go_wp2_with fail
  go_ret
  exact ⟨ret_int (by rw [HE.out]), hba⟩
end Go.Proofs.Ytkcknikaidbeoaa
