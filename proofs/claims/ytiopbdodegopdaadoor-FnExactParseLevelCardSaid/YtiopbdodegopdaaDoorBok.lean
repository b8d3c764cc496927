/- BodyOk: the program's and the reference's. -/
import Derived.Test.YtiopbdodegopdaaDoorSla
import Derived.Test.YtiopbdodegopdaaDoorStayLaw
import Derived.Test.YtiopbdodegopdaaDoorMem
import Derived.Test.YtiopbdodegopdaaDoorInts
import Derived.StillTailTactics
namespace Go.Proofs.YtiopbdodegopdaaDoor
open Go.RowKit

theorem okBd_iff {l : List ByteArray} {n : Int} {b : Bd} : okBd l n b = true ↔ lvT l = true ∧ (0 ≤ b.kind ∧ b.kind ≤ 2) ∧ (0 ≤ b.owner ∧ b.owner < n) ∧ solT l b.x b.y (szOf b.kind) = false ∧ inB b.vx (-15) 15 = true ∧ inB b.vy (-15) 15 = true ∧
    ((b.kind = 0 ∧ (b.aim = 1 ∨ b.aim = -1) ∧ inB b.life 0 3 = true ∧ ((b.life = 0 ∧ inB b.timer 1 20 = true) ∨ (b.life ≠ 0 ∧ inB b.timer 0 12 = true))) ∨ (b.kind ≠ 0 ∧ b.aim = 0 ∧ b.life = 0 ∧ ((b.kind = 1 ∧ inB b.timer 1 25 = true) ∨ (b.kind ≠ 1 ∧ b.owner = 0 ∧ b.timer = 0)))) := by
  unfold okBd okB
  simp only [Bool.and_eq_true, decide_eq_true_eq, Bool.not_eq_true', inB_iff]
  by_cases h0 : b.kind = 0
  · rw [if_pos h0]
    simp only [Bool.and_eq_true, decide_eq_true_eq]
    by_cases h1 : b.life = 0
    · rw [if_pos h1]; simp only [decide_eq_true_eq]; simp [h0, h1]
    · rw [if_neg h1]; simp only [decide_eq_true_eq]; simp [h0, h1]
  · rw [if_neg h0]
    simp only [Bool.and_eq_true, decide_eq_true_eq]
    by_cases h1 : b.kind = 1
    · rw [if_pos h1]; simp only [decide_eq_true_eq]; simp [h1]
    · rw [if_neg h1]; simp only [Bool.and_eq_true, decide_eq_true_eq]; simp [h0, h1]
section
variable {l : List ByteArray} {n : Int} {b : Bd}
theorem ok_no (h : ¬ (okBd l n b = true)) : okBd l n b = false := by simpa using h
/-- what the tests ahead of the kinds' own say -/
structure OkPre (l : List ByteArray) (n : Int) (b : Bd) : Prop where
  lv : lvT l = true
  kind : 0 ≤ b.kind ∧ b.kind ≤ 2
  owner : 0 ≤ b.owner ∧ b.owner < n
  free : solT l b.x b.y (szOf b.kind) = false
  vx : inB b.vx (-15) 15 = true
  vy : inB b.vy (-15) 15 = true
theorem ok_pl0 (p : OkPre l n b) (h0 : b.kind = 0) (ha : b.aim = 1 ∨ b.aim = -1) (hl : inB b.life 0 3 = true) (h : b.life = 0) : okBd l n b = inB b.timer 1 20 := by
  cases hb : inB b.timer 1 20 with
  | true => exact okBd_iff.2 ⟨p.lv, p.kind, p.owner, p.free, p.vx, p.vy, .inl ⟨h0, ha, hl, .inl ⟨h, hb⟩⟩⟩
  | false =>
    refine ok_no fun hk => ?_
    obtain ⟨_, _, _, _, _, _, h7⟩ := okBd_iff.1 hk
    rcases h7 with ⟨_, _, _, ⟨_, h8⟩ | ⟨h8, _⟩⟩ | ⟨h8, _⟩
    · rw [hb] at h8; cases h8
    · exact h8 h
    · exact h8 h0
theorem ok_pl1 (p : OkPre l n b) (h0 : b.kind = 0) (ha : b.aim = 1 ∨ b.aim = -1) (hl : inB b.life 0 3 = true) (h : b.life ≠ 0) : okBd l n b = inB b.timer 0 12 := by
  cases hb : inB b.timer 0 12 with
  | true => exact okBd_iff.2 ⟨p.lv, p.kind, p.owner, p.free, p.vx, p.vy, .inl ⟨h0, ha, hl, .inr ⟨h, hb⟩⟩⟩
  | false =>
    refine ok_no fun hk => ?_
    obtain ⟨_, _, _, _, _, _, h7⟩ := okBd_iff.1 hk
    rcases h7 with ⟨_, _, _, ⟨h8, _⟩ | ⟨_, h8⟩⟩ | ⟨h8, _⟩
    · exact h h8
    · rw [hb] at h8; cases h8
    · exact h8 h0
theorem ok_shot (p : OkPre l n b) (h0 : b.kind = 1) (ha : b.aim = 0) (hl : b.life = 0) : okBd l n b = inB b.timer 1 25 := by
  cases hb : inB b.timer 1 25 with
  | true => exact okBd_iff.2 ⟨p.lv, p.kind, p.owner, p.free, p.vx, p.vy, .inr ⟨by omega, ha, hl, .inl ⟨h0, hb⟩⟩⟩
  | false =>
    refine ok_no fun hk => ?_
    obtain ⟨_, _, _, _, _, _, h7⟩ := okBd_iff.1 hk
    rcases h7 with ⟨h8, _⟩ | ⟨_, _, _, ⟨_, h8⟩ | ⟨h8, _⟩⟩
    · omega
    · rw [hb] at h8; cases h8
    · exact h8 h0
theorem ok_item (p : OkPre l n b) (h0 : b.kind = 2) (ho : b.owner = 0) (ha : b.aim = 0) (hl : b.life = 0) : okBd l n b = (b.timer == 0) := by
  by_cases hb : b.timer = 0
  · rw [show okBd l n b = true from okBd_iff.2 ⟨p.lv, p.kind, p.owner, p.free, p.vx, p.vy, .inr ⟨by omega, ha, hl, .inr ⟨by omega, ho, hb⟩⟩⟩, hb]; rfl
  · rw [beq_eq_false_iff_ne.2 hb]
    refine ok_no fun hk => ?_
    obtain ⟨_, _, _, _, _, _, h7⟩ := okBd_iff.1 hk
    rcases h7 with ⟨h8, _⟩ | ⟨_, _, _, ⟨h8, _⟩ | ⟨_, _, h8⟩⟩
    · omega
    · omega
    · exact hb h8
theorem ok_bad_aim (h0 : b.kind = 0) (h : ¬ (b.aim = 1 ∨ b.aim = -1)) : okBd l n b = false := ok_no fun hk => by
  obtain ⟨_, _, _, _, _, _, h7⟩ := okBd_iff.1 hk
  rcases h7 with ⟨_, h8, _⟩ | ⟨h8, _⟩
  · exact h h8
  · exact h8 h0
theorem ok_bad_life (h0 : b.kind = 0) (h : inB b.life 0 3 = false) : okBd l n b = false := ok_no fun hk => by
  obtain ⟨_, _, _, _, _, _, h7⟩ := okBd_iff.1 hk
  rcases h7 with ⟨_, _, h8, _⟩ | ⟨h8, _⟩
  · rw [h] at h8; cases h8
  · exact h8 h0
theorem ok_bad_ot (h0 : b.kind ≠ 0) (h : b.aim ≠ 0 ∨ b.life ≠ 0) : okBd l n b = false := ok_no fun hk => by
  obtain ⟨_, _, _, _, _, _, h7⟩ := okBd_iff.1 hk
  rcases h7 with ⟨h8, _⟩ | ⟨_, h8, h9, _⟩
  · exact h0 h8
  · rcases h with h | h
    · exact h h8
    · exact h h9
theorem ok_bad_item (h0 : b.kind = 2) (h : b.owner ≠ 0 ∨ b.timer ≠ 0) : okBd l n b = false := ok_no fun hk => by
  obtain ⟨_, _, _, _, _, _, h7⟩ := okBd_iff.1 hk
  rcases h7 with ⟨h8, _⟩ | ⟨_, _, _, ⟨h8, _⟩ | ⟨_, h8, h9⟩⟩
  · omega
  · omega
  · rcases h with h | h
    · exact h h8
    · exact h h9
theorem ok_bad_kind (h : b.kind < 0 ∨ 2 < b.kind) : okBd l n b = false := ok_no fun hk => by have := (okBd_iff.1 hk).2.1; omega
theorem ok_bad_owner (h : b.owner < 0 ∨ n ≤ b.owner) : okBd l n b = false := ok_no fun hk => by have := (okBd_iff.1 hk).2.2.1; omega
theorem ok_bad_lv (h : lvT l = false) : okBd l n b = false := ok_no fun hk => by have := (okBd_iff.1 hk).1; rw [h] at this; cases this
theorem ok_bad_sol (h : solT l b.x b.y (szOf b.kind) = true) : okBd l n b = false := ok_no fun hk => by have := (okBd_iff.1 hk).2.2.2.1; rw [h] at this; cases this
theorem ok_bad_vx (h : inB b.vx (-15) 15 = false) : okBd l n b = false := ok_no fun hk => by have := (okBd_iff.1 hk).2.2.2.2.1; rw [h] at this; cases this
theorem ok_bad_vy (h : inB b.vy (-15) 15 = false) : okBd l n b = false := ok_no fun hk => by have := (okBd_iff.1 hk).2.2.2.2.2.1; rw [h] at this; cases this
end
/-- all fields are whole numbers of 64 bits -/
structure BWf (b : Bd) : Prop where
  x : -9223372036854775808 ≤ b.x ∧ b.x ≤ 9223372036854775807
  y : -9223372036854775808 ≤ b.y ∧ b.y ≤ 9223372036854775807
theorem szOf_pos {k : Int} (h0 : 0 ≤ k) (h2 : k ≤ 2) : 1 ≤ szOf k ∧ szOf k ≤ 16 := by
  rcases (show k = 0 ∨ k = 1 ∨ k = 2 by omega) with rfl | rfl | rfl <;> decide
end Go.Proofs.YtiopbdodegopdaaDoor
