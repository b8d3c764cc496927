/- BodiesMeet. -/
import Derived.Test.YtkcknikaidbeoaaBod
import Derived.Outline
namespace Go.Proofs.Ytkcknikaidbeoaa
open Go.RowKit

def szOf (k : Int) : Int := if k = 0 then 12 else if k = 1 then 4 else if k = 2 then 8 else 0
theorem szOf_bd (k : Int) : 0 ≤ szOf k ∧ szOf k ≤ 12 := by unfold szOf; split <;> (try split) <;> (try split) <;> omega
theorem sz_cases (k : Int) : (k = 0) ∨ (k ≠ 0 ∧ k = 1) ∨ (k ≠ 0 ∧ k ≠ 1 ∧ k = 2) ∨ (k ≠ 0 ∧ k ≠ 1 ∧ k ≠ 2) := by omega
theorem sz_impl (k : Int) (w : World) : Calls Try.prog 64 #[.int .i64 k] w fun e w' => e = .returned (.int .i64 (szOf k)) ∧ w = w' := by
  have HS : Hid (szOf k = if k = 0 then 12 else if k = 1 then 4 else if k = 2 then 8 else 0) := Lib.hid rfl
  rcases sz_cases k with rfl | ⟨_, rfl⟩ | ⟨_, _, rfl⟩ | ⟨h1, h2, h3⟩
  all_goals
    go_enter Try.func64, Try.ntmps64
    go_wp2
    all_goals first
      | (exfalso; simp_all; done)
      | (go_ret; exact ⟨ret_int (by rw [HS.out]; first | rfl | (rw [if_neg h1, if_neg h2, if_neg h3])), rfl⟩)
theorem sz_spec (k : Int) (w : World) : Calls Try.prog 103 #[.int .i64 k] w fun e w' => e = .returned (.int .i64 (szOf k)) ∧ w = w' := by
  have HS : Hid (szOf k = if k = 0 then 12 else if k = 1 then 4 else if k = 2 then 8 else 0) := Lib.hid rfl
  rcases sz_cases k with rfl | ⟨_, rfl⟩ | ⟨_, _, rfl⟩ | ⟨h1, h2, h3⟩
  all_goals
    go_enter Try.func103, Try.ntmps103
    go_wp2
    all_goals first
      | (exfalso; simp_all; done)
      | (go_ret; exact ⟨ret_int (by rw [HS.out]; first | rfl | (rw [if_neg h1, if_neg h2, if_neg h3])), rfl⟩)

def inR (x : Int) : Prop := 0 ≤ x ∧ x ≤ 1000
instance (x : Int) : Decidable (inR x) := by unfold inR; infer_instance
def meetT (ka xa ya kb xb yb : Int) : Bool := decide (szOf ka ≠ 0 ∧ szOf kb ≠ 0 ∧ inR xa ∧ inR ya ∧ inR xb ∧ inR yb ∧ xa < xb + szOf kb ∧ xb < xa + szOf ka ∧ ya < yb + szOf kb ∧ yb < ya + szOf ka)
theorem meet_no {ka xa ya kb xb yb : Int} (h : szOf ka = 0 ∨ szOf kb = 0 ∨ ¬ inR xa ∨ ¬ inR ya ∨ ¬ inR xb ∨ ¬ inR yb) : meetT ka xa ya kb xb yb = false := by
  unfold meetT
  rw [decide_eq_false_iff_not]
  rintro ⟨h1, h2, h3, h4, h5, h6, _⟩
  rcases h with h | h | h | h | h | h
  · exact h1 h
  · exact h2 h
  · exact h h3
  · exact h h4
  · exact h h5
  · exact h h6
theorem meet_in {ka xa ya kb xb yb : Int} (h1 : szOf ka ≠ 0) (h2 : szOf kb ≠ 0) (h3 : inR xa) (h4 : inR ya) (h5 : inR xb) (h6 : inR yb) : meetT ka xa ya kb xb yb = (decide (xa < xb + szOf kb) && (decide (xb < xa + szOf ka) && (decide (ya < yb + szOf kb) && decide (yb < ya + szOf ka)))) := by
  unfold meetT
  simp only [h3, h4, h5, h6, ne_eq, h1, h2, not_false_eq_true, true_and, Bool.decide_and]
theorem notR {x : Int} (h : ¬ inR x) : x < 0 ∨ (0 ≤ x ∧ 1000 < x) := by unfold inR at h; omega

set_option maxHeartbeats 4000000 in
theorem meet_impl (k0 k1 k2 k3 k4 k5 k6 k7 k8 j0 j1 j2 j3 j4 j5 j6 j7 j8 : Int) (w : World) :
    Calls Try.prog 70 #[bod k0 k1 k2 k3 k4 k5 k6 k7 k8, bod j0 j1 j2 j3 j4 j5 j6 j7 j8] w fun e w' => e = .returned (.bool (meetT k0 k2 k3 j0 j2 j3)) ∧ Below w.heap.size w w' := by
  unfold bod
  have hz := szOf_bd k0
  have hy := szOf_bd j0
  by_cases h0 : szOf k0 = 0
  · have HM := Lib.hid (meet_no (ka := k0) (xa := k2) (ya := k3) (kb := j0) (xb := j2) (yb := j3) (.inl h0))
    have h0' : (szOf k0 == 0) = true := by rw [h0]; rfl
    go_enter Try.func70, Try.ntmps70
    go_wp2_with fail
    refine (sz_impl _ _).mono ?_
    rintro e wa ⟨rfl, rfl⟩
    go_wp2_with fail
    refine (sz_impl _ _).mono ?_
    rintro e wa ⟨rfl, rfl⟩
    go_wp2_with fail
    go_ret
    exact ⟨ret_bool (by rw [HM.out]), by repeat (first | exact Below.refl _ _ | refine Below.alloc ?_ (by simp <;> omega) _ | refine Below.setCell ?_ (by simp <;> omega) _)⟩
  by_cases h1 : szOf j0 = 0
  · have HM := Lib.hid (meet_no (ka := k0) (xa := k2) (ya := k3) (kb := j0) (xb := j2) (yb := j3) (.inr (.inl h1)))
    have h0' : (szOf k0 == 0) = false := beq_eq_false_iff_ne.2 h0
    have h1' : (szOf j0 == 0) = true := by rw [h1]; rfl
    go_enter Try.func70, Try.ntmps70
    go_wp2_with fail
    refine (sz_impl _ _).mono ?_
    rintro e wa ⟨rfl, rfl⟩
    go_wp2_with fail
    refine (sz_impl _ _).mono ?_
    rintro e wa ⟨rfl, rfl⟩
    go_wp2_with fail
    go_ret
    exact ⟨ret_bool (by rw [HM.out]), by repeat (first | exact Below.refl _ _ | refine Below.alloc ?_ (by simp <;> omega) _ | refine Below.setCell ?_ (by simp <;> omega) _)⟩
  have h0' : (szOf k0 == 0) = false := beq_eq_false_iff_ne.2 h0
  have h1' : (szOf j0 == 0) = false := beq_eq_false_iff_ne.2 h1
  go_enter Try.func70, Try.ntmps70
  go_wp2_with fail
  refine (sz_impl _ _).mono ?_
  rintro e wa ⟨rfl, rfl⟩
  go_wp2_with fail
  refine (sz_impl _ _).mono ?_
  rintro e wa ⟨rfl, rfl⟩
  go_wp2_with fail
  go_loop [31] (fun i => (i = .int .i64 0) ∨ (i = .int .i64 1 ∧ inR k2) ∨ (i = .int .i64 2 ∧ inR k2 ∧ inR k3) ∨ (i = .int .i64 3 ∧ inR k2 ∧ inR k3 ∧ inR j2) ∨ (i = .int .i64 4 ∧ inR k2 ∧ inR k3 ∧ inR j2 ∧ inR j3)) (fun i => 4 - (intOf i).toNat)
  case atStart => exact .inl rfl
  case round =>
    rcases hrel with rfl | ⟨rfl, p0⟩ | ⟨rfl, p0, p1⟩ | ⟨rfl, p0, p1, p2⟩ | ⟨rfl, p0, p1, p2, p3⟩
    · by_cases q : inR k2
      · have q' := Lib.hid q
        obtain ⟨q1, q2⟩ := q
        go_wp2_with fail
        go_round
        case rel => exact (.inr (.inl ⟨rfl, q'.out⟩))
        case measure => simp [intOf]
      · have HM := Lib.hid (meet_no (ka := k0) (xa := k2) (ya := k3) (kb := j0) (xb := j2) (yb := j3) (.inr (.inr (.inl q))))
        rcases notR q with q1 | ⟨q1, q2⟩
        all_goals
          go_wp2_with fail
          go_ret
          exact ⟨ret_bool (by rw [HM.out]), by repeat (first | exact Below.refl _ _ | refine Below.alloc ?_ (by simp <;> omega) _ | refine Below.setCell ?_ (by simp <;> omega) _)⟩
    · by_cases q : inR k3
      · have q' := Lib.hid q
        obtain ⟨q1, q2⟩ := q
        go_wp2_with fail
        go_round
        case rel => exact (.inr (.inr (.inl ⟨rfl, p0, q'.out⟩)))
        case measure => simp [intOf]
      · have HM := Lib.hid (meet_no (ka := k0) (xa := k2) (ya := k3) (kb := j0) (xb := j2) (yb := j3) (.inr (.inr (.inr (.inl q)))))
        rcases notR q with q1 | ⟨q1, q2⟩
        all_goals
          go_wp2_with fail
          go_ret
          exact ⟨ret_bool (by rw [HM.out]), by repeat (first | exact Below.refl _ _ | refine Below.alloc ?_ (by simp <;> omega) _ | refine Below.setCell ?_ (by simp <;> omega) _)⟩
    · by_cases q : inR j2
      · have q' := Lib.hid q
        obtain ⟨q1, q2⟩ := q
        go_wp2_with fail
        go_round
        case rel => exact (.inr (.inr (.inr (.inl ⟨rfl, p0, p1, q'.out⟩))))
        case measure => simp [intOf]
      · have HM := Lib.hid (meet_no (ka := k0) (xa := k2) (ya := k3) (kb := j0) (xb := j2) (yb := j3) (.inr (.inr (.inr (.inr (.inl q))))))
        rcases notR q with q1 | ⟨q1, q2⟩
        all_goals
          go_wp2_with fail
          go_ret
          exact ⟨ret_bool (by rw [HM.out]), by repeat (first | exact Below.refl _ _ | refine Below.alloc ?_ (by simp <;> omega) _ | refine Below.setCell ?_ (by simp <;> omega) _)⟩
    · by_cases q : inR j3
      · have q' := Lib.hid q
        obtain ⟨q1, q2⟩ := q
        go_wp2_with fail
        go_round
        case rel => exact (.inr (.inr (.inr (.inr ⟨rfl, p0, p1, p2, q'.out⟩))))
        case measure => simp [intOf]
      · have HM := Lib.hid (meet_no (ka := k0) (xa := k2) (ya := k3) (kb := j0) (xb := j2) (yb := j3) (.inr (.inr (.inr (.inr (.inr q))))))
        rcases notR q with q1 | ⟨q1, q2⟩
        all_goals
          go_wp2_with fail
          go_ret
          exact ⟨ret_bool (by rw [HM.out]), by repeat (first | exact Below.refl _ _ | refine Below.alloc ?_ (by simp <;> omega) _ | refine Below.setCell ?_ (by simp <;> omega) _)⟩
    · have HM := Lib.hid (meet_in h0 h1 p0 p1 p2 p3)
      obtain ⟨a1, a2⟩ := p0
      obtain ⟨a3, a4⟩ := p1
      obtain ⟨a5, a6⟩ := p2
      obtain ⟨a7, a8⟩ := p3
      go_wp2_with fail
      all_goals
        go_ret
        exact ⟨ret_bool (by rw [HM.out]; first | (simp_all; done) | (simp_all; omega)), by repeat (first | exact Below.refl _ _ | refine Below.alloc ?_ (by simp <;> omega) _ | refine Below.setCell ?_ (by simp <;> omega) _)⟩

set_option maxHeartbeats 4000000 in
theorem meet_spec (k0 k1 k2 k3 k4 k5 k6 k7 k8 j0 j1 j2 j3 j4 j5 j6 j7 j8 : Int) (w : World) :
    Calls Try.prog 169 #[bod k0 k1 k2 k3 k4 k5 k6 k7 k8, bod j0 j1 j2 j3 j4 j5 j6 j7 j8] w fun e w' => e = .returned (.bool (meetT k0 k2 k3 j0 j2 j3)) ∧ Below w.heap.size w w' := by
  unfold bod
  have hz := szOf_bd k0
  have hy := szOf_bd j0
  by_cases h0 : szOf k0 = 0
  · have HM := Lib.hid (meet_no (ka := k0) (xa := k2) (ya := k3) (kb := j0) (xb := j2) (yb := j3) (.inl h0))
    have h0' : (szOf k0 == 0) = true := by rw [h0]; rfl
    go_enter Try.func169, Try.ntmps169
    go_wp2_with fail
    refine (sz_spec _ _).mono ?_
    rintro e wa ⟨rfl, rfl⟩
    go_wp2_with fail
    refine (sz_spec _ _).mono ?_
    rintro e wa ⟨rfl, rfl⟩
    go_wp2
    all_goals first
      | (exfalso; simp only [Bool.not_eq_false', decide_eq_true_eq] at *; omega)
      | (go_ret; exact ⟨ret_bool (by rw [HM.out]), by repeat (first | exact Below.refl _ _ | refine Below.alloc ?_ (by simp <;> omega) _ | refine Below.setCell ?_ (by simp <;> omega) _)⟩)
  have h0' : (szOf k0 == 0) = false := beq_eq_false_iff_ne.2 h0
  by_cases h1 : szOf j0 = 0
  · have HM := Lib.hid (meet_no (ka := k0) (xa := k2) (ya := k3) (kb := j0) (xb := j2) (yb := j3) (.inr (.inl h1)))
    have h1' : (szOf j0 == 0) = true := by rw [h1]; rfl
    go_enter Try.func169, Try.ntmps169
    go_wp2_with fail
    refine (sz_spec _ _).mono ?_
    rintro e wa ⟨rfl, rfl⟩
    go_wp2_with fail
    refine (sz_spec _ _).mono ?_
    rintro e wa ⟨rfl, rfl⟩
    go_wp2
    all_goals first
      | (exfalso; simp only [Bool.not_eq_false', decide_eq_true_eq] at *; omega)
      | (go_ret; exact ⟨ret_bool (by rw [HM.out]), by repeat (first | exact Below.refl _ _ | refine Below.alloc ?_ (by simp <;> omega) _ | refine Below.setCell ?_ (by simp <;> omega) _)⟩)
  have h1' : (szOf j0 == 0) = false := beq_eq_false_iff_ne.2 h1
  by_cases q0 : inR k2
  rotate_left
  · have HM := Lib.hid (meet_no (ka := k0) (xa := k2) (ya := k3) (kb := j0) (xb := j2) (yb := j3) (.inr (.inr (.inl q0))))
    rcases notR q0 with e1 | ⟨e1, e2⟩
    all_goals
      clear q0
      go_enter Try.func169, Try.ntmps169
      go_wp2_with fail
      refine (sz_spec _ _).mono ?_
      rintro e wa ⟨rfl, rfl⟩
      go_wp2_with fail
      refine (sz_spec _ _).mono ?_
      rintro e wa ⟨rfl, rfl⟩
      go_wp2
      all_goals first
        | (exfalso; simp only [Bool.not_eq_false', decide_eq_true_eq] at *; omega)
        | (go_ret; exact ⟨ret_bool (by rw [HM.out]), by repeat (first | exact Below.refl _ _ | refine Below.alloc ?_ (by simp <;> omega) _ | refine Below.setCell ?_ (by simp <;> omega) _)⟩)
  by_cases q1 : inR k3
  rotate_left
  · have HM := Lib.hid (meet_no (ka := k0) (xa := k2) (ya := k3) (kb := j0) (xb := j2) (yb := j3) (.inr (.inr (.inr (.inl q1)))))
    obtain ⟨a0, b0⟩ := q0
    rcases notR q1 with e1 | ⟨e1, e2⟩
    all_goals
      clear q1
      go_enter Try.func169, Try.ntmps169
      go_wp2_with fail
      refine (sz_spec _ _).mono ?_
      rintro e wa ⟨rfl, rfl⟩
      go_wp2_with fail
      refine (sz_spec _ _).mono ?_
      rintro e wa ⟨rfl, rfl⟩
      go_wp2
      all_goals first
        | (exfalso; simp only [Bool.not_eq_false', decide_eq_true_eq] at *; omega)
        | (go_ret; exact ⟨ret_bool (by rw [HM.out]), by repeat (first | exact Below.refl _ _ | refine Below.alloc ?_ (by simp <;> omega) _ | refine Below.setCell ?_ (by simp <;> omega) _)⟩)
  by_cases q2 : inR j2
  rotate_left
  · have HM := Lib.hid (meet_no (ka := k0) (xa := k2) (ya := k3) (kb := j0) (xb := j2) (yb := j3) (.inr (.inr (.inr (.inr (.inl q2))))))
    obtain ⟨a0, b0⟩ := q0
    obtain ⟨a1, b1⟩ := q1
    rcases notR q2 with e1 | ⟨e1, e2⟩
    all_goals
      clear q2
      go_enter Try.func169, Try.ntmps169
      go_wp2_with fail
      refine (sz_spec _ _).mono ?_
      rintro e wa ⟨rfl, rfl⟩
      go_wp2_with fail
      refine (sz_spec _ _).mono ?_
      rintro e wa ⟨rfl, rfl⟩
      go_wp2
      all_goals first
        | (exfalso; simp only [Bool.not_eq_false', decide_eq_true_eq] at *; omega)
        | (go_ret; exact ⟨ret_bool (by rw [HM.out]), by repeat (first | exact Below.refl _ _ | refine Below.alloc ?_ (by simp <;> omega) _ | refine Below.setCell ?_ (by simp <;> omega) _)⟩)
  by_cases q3 : inR j3
  rotate_left
  · have HM := Lib.hid (meet_no (ka := k0) (xa := k2) (ya := k3) (kb := j0) (xb := j2) (yb := j3) (.inr (.inr (.inr (.inr (.inr (q3)))))))
    obtain ⟨a0, b0⟩ := q0
    obtain ⟨a1, b1⟩ := q1
    obtain ⟨a2, b2⟩ := q2
    rcases notR q3 with e1 | ⟨e1, e2⟩
    all_goals
      clear q3
      go_enter Try.func169, Try.ntmps169
      go_wp2_with fail
      refine (sz_spec _ _).mono ?_
      rintro e wa ⟨rfl, rfl⟩
      go_wp2_with fail
      refine (sz_spec _ _).mono ?_
      rintro e wa ⟨rfl, rfl⟩
      go_wp2
      all_goals first
        | (exfalso; simp only [Bool.not_eq_false', decide_eq_true_eq] at *; omega)
        | (go_ret; exact ⟨ret_bool (by rw [HM.out]), by repeat (first | exact Below.refl _ _ | refine Below.alloc ?_ (by simp <;> omega) _ | refine Below.setCell ?_ (by simp <;> omega) _)⟩)
  have HM := Lib.hid (meet_in h0 h1 q0 q1 q2 q3)
  obtain ⟨a0, b0⟩ := q0
  obtain ⟨a1, b1⟩ := q1
  obtain ⟨a2, b2⟩ := q2
  obtain ⟨a3, b3⟩ := q3
  go_enter Try.func169, Try.ntmps169
  go_wp2_with fail
  refine (sz_spec _ _).mono ?_
  rintro e wa ⟨rfl, rfl⟩
  go_wp2_with fail
  refine (sz_spec _ _).mono ?_
  rintro e wa ⟨rfl, rfl⟩
  go_wp2
  all_goals
    go_ret
    exact ⟨ret_bool (by rw [HM.out]; first | (simp_all; done) | (simp_all; omega)), by repeat (first | exact Below.refl _ _ | refine Below.alloc ?_ (by simp <;> omega) _ | refine Below.setCell ?_ (by simp <;> omega) _)⟩
end Go.Proofs.Ytkcknikaidbeoaa
