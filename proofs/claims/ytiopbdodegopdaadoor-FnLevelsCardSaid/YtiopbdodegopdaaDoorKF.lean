/- Texts Bok, Bos in one. -/
import Derived.Test.YtiopbdodegopdaaDoorKB
import Derived.Test.YtiopbdodegopdaaDoorKC
import Derived.Test.YtiopbdodegopdaaDoorKD
import Derived.Test.YtiopbdodegopdaaDoorKE
import Derived.StillTailTactics
/- BodyOk: the program's and the reference's. -/
namespace Go.Proofs.YtiopbdodegopdaaDoor
open Go.RowKit

theorem okBd_iff {l : List ByteArray} {n : Int} {b : Bd} : okBd l n b = true ↔ lvT l = true ∧ (0 ≤ b.kind ∧ b.kind ≤ 2) ∧ (0 ≤ b.owner ∧ b.owner < n) ∧ solT l b.x b.y (szOf b.kind) = false ∧ inB b.vx (-15) 15 = true ∧ inB b.vy (-15) 15 = true ∧
    ((b.kind = 0 ∧ (b.aim = 1 ∨ b.aim = -1) ∧ inB b.life 0 3 = true ∧ ((b.life = 0 ∧ inB b.timer 1 20 = true) ∨ (b.life ≠ 0 ∧ inB b.timer 0 12 = true))) ∨ (b.kind ≠ 0 ∧ b.aim = 0 ∧ b.life = 0 ∧ ((b.kind = 1 ∧ inB b.timer 1 25 = true) ∨ (b.kind ≠ 1 ∧ b.owner = 0 ∧ b.timer = 0)))) := by
  unfold okBd okB
  simp only [Bool.and_eq_true, decide_eq_true_eq, Bool.not_eq_true', inB_iff]
  by_cases h0 : b.kind = 0
  · rw [if_pos h0]
    simp only [Bool.and_eq_true, decide_eq_true_eq]
    by_cases h1 : b.life = 0
    · rw [if_pos h1]; simp only [decide_eq_true_eq]; simp [h0, h1]
    · rw [if_neg h1]; simp only [decide_eq_true_eq]; simp [h0, h1]
  · rw [if_neg h0]
    simp only [Bool.and_eq_true, decide_eq_true_eq]
    by_cases h1 : b.kind = 1
    · rw [if_pos h1]; simp only [decide_eq_true_eq]; simp [h1]
    · rw [if_neg h1]; simp only [Bool.and_eq_true, decide_eq_true_eq]; simp [h0, h1]
section
variable {l : List ByteArray} {n : Int} {b : Bd}
theorem ok_no (h : ¬ (okBd l n b = true)) : okBd l n b = false := by simpa using h
/-- what the tests ahead of the kinds' own say -/
structure OkPre (l : List ByteArray) (n : Int) (b : Bd) : Prop where
  lv : lvT l = true
  kind : 0 ≤ b.kind ∧ b.kind ≤ 2
  owner : 0 ≤ b.owner ∧ b.owner < n
  free : solT l b.x b.y (szOf b.kind) = false
  vx : inB b.vx (-15) 15 = true
  vy : inB b.vy (-15) 15 = true
theorem ok_pl0 (p : OkPre l n b) (h0 : b.kind = 0) (ha : b.aim = 1 ∨ b.aim = -1) (hl : inB b.life 0 3 = true) (h : b.life = 0) : okBd l n b = inB b.timer 1 20 := by
  cases hb : inB b.timer 1 20 with
  | true => exact okBd_iff.2 ⟨p.lv, p.kind, p.owner, p.free, p.vx, p.vy, .inl ⟨h0, ha, hl, .inl ⟨h, hb⟩⟩⟩
  | false =>
    refine ok_no fun hk => ?_
    obtain ⟨_, _, _, _, _, _, h7⟩ := okBd_iff.1 hk
    rcases h7 with ⟨_, _, _, ⟨_, h8⟩ | ⟨h8, _⟩⟩ | ⟨h8, _⟩
    · rw [hb] at h8; cases h8
    · exact h8 h
    · exact h8 h0
theorem ok_pl1 (p : OkPre l n b) (h0 : b.kind = 0) (ha : b.aim = 1 ∨ b.aim = -1) (hl : inB b.life 0 3 = true) (h : b.life ≠ 0) : okBd l n b = inB b.timer 0 12 := by
  cases hb : inB b.timer 0 12 with
  | true => exact okBd_iff.2 ⟨p.lv, p.kind, p.owner, p.free, p.vx, p.vy, .inl ⟨h0, ha, hl, .inr ⟨h, hb⟩⟩⟩
  | false =>
    refine ok_no fun hk => ?_
    obtain ⟨_, _, _, _, _, _, h7⟩ := okBd_iff.1 hk
    rcases h7 with ⟨_, _, _, ⟨h8, _⟩ | ⟨_, h8⟩⟩ | ⟨h8, _⟩
    · exact h h8
    · rw [hb] at h8; cases h8
    · exact h8 h0
theorem ok_shot (p : OkPre l n b) (h0 : b.kind = 1) (ha : b.aim = 0) (hl : b.life = 0) : okBd l n b = inB b.timer 1 25 := by
  cases hb : inB b.timer 1 25 with
  | true => exact okBd_iff.2 ⟨p.lv, p.kind, p.owner, p.free, p.vx, p.vy, .inr ⟨by omega, ha, hl, .inl ⟨h0, hb⟩⟩⟩
  | false =>
    refine ok_no fun hk => ?_
    obtain ⟨_, _, _, _, _, _, h7⟩ := okBd_iff.1 hk
    rcases h7 with ⟨h8, _⟩ | ⟨_, _, _, ⟨_, h8⟩ | ⟨h8, _⟩⟩
    · omega
    · rw [hb] at h8; cases h8
    · exact h8 h0
theorem ok_item (p : OkPre l n b) (h0 : b.kind = 2) (ho : b.owner = 0) (ha : b.aim = 0) (hl : b.life = 0) : okBd l n b = (b.timer == 0) := by
  by_cases hb : b.timer = 0
  · rw [show okBd l n b = true from okBd_iff.2 ⟨p.lv, p.kind, p.owner, p.free, p.vx, p.vy, .inr ⟨by omega, ha, hl, .inr ⟨by omega, ho, hb⟩⟩⟩, hb]; rfl
  · rw [beq_eq_false_iff_ne.2 hb]
    refine ok_no fun hk => ?_
    obtain ⟨_, _, _, _, _, _, h7⟩ := okBd_iff.1 hk
    rcases h7 with ⟨h8, _⟩ | ⟨_, _, _, ⟨h8, _⟩ | ⟨_, _, h8⟩⟩
    · omega
    · omega
    · exact hb h8
theorem ok_bad_aim (h0 : b.kind = 0) (h : ¬ (b.aim = 1 ∨ b.aim = -1)) : okBd l n b = false := ok_no fun hk => by
  obtain ⟨_, _, _, _, _, _, h7⟩ := okBd_iff.1 hk
  rcases h7 with ⟨_, h8, _⟩ | ⟨h8, _⟩
  · exact h h8
  · exact h8 h0
theorem ok_bad_life (h0 : b.kind = 0) (h : inB b.life 0 3 = false) : okBd l n b = false := ok_no fun hk => by
  obtain ⟨_, _, _, _, _, _, h7⟩ := okBd_iff.1 hk
  rcases h7 with ⟨_, _, h8, _⟩ | ⟨h8, _⟩
  · rw [h] at h8; cases h8
  · exact h8 h0
theorem ok_bad_ot (h0 : b.kind ≠ 0) (h : b.aim ≠ 0 ∨ b.life ≠ 0) : okBd l n b = false := ok_no fun hk => by
  obtain ⟨_, _, _, _, _, _, h7⟩ := okBd_iff.1 hk
  rcases h7 with ⟨h8, _⟩ | ⟨_, h8, h9, _⟩
  · exact h0 h8
  · rcases h with h | h
    · exact h h8
    · exact h h9
theorem ok_bad_item (h0 : b.kind = 2) (h : b.owner ≠ 0 ∨ b.timer ≠ 0) : okBd l n b = false := ok_no fun hk => by
  obtain ⟨_, _, _, _, _, _, h7⟩ := okBd_iff.1 hk
  rcases h7 with ⟨h8, _⟩ | ⟨_, _, _, ⟨h8, _⟩ | ⟨_, h8, h9⟩⟩
  · omega
  · omega
  · rcases h with h | h
    · exact h h8
    · exact h h9
theorem ok_bad_kind (h : b.kind < 0 ∨ 2 < b.kind) : okBd l n b = false := ok_no fun hk => by have := (okBd_iff.1 hk).2.1; omega
theorem ok_bad_owner (h : b.owner < 0 ∨ n ≤ b.owner) : okBd l n b = false := ok_no fun hk => by have := (okBd_iff.1 hk).2.2.1; omega
theorem ok_bad_lv (h : lvT l = false) : okBd l n b = false := ok_no fun hk => by have := (okBd_iff.1 hk).1; rw [h] at this; cases this
theorem ok_bad_sol (h : solT l b.x b.y (szOf b.kind) = true) : okBd l n b = false := ok_no fun hk => by have := (okBd_iff.1 hk).2.2.2.1; rw [h] at this; cases this
theorem ok_bad_vx (h : inB b.vx (-15) 15 = false) : okBd l n b = false := ok_no fun hk => by have := (okBd_iff.1 hk).2.2.2.2.1; rw [h] at this; cases this
theorem ok_bad_vy (h : inB b.vy (-15) 15 = false) : okBd l n b = false := ok_no fun hk => by have := (okBd_iff.1 hk).2.2.2.2.2.1; rw [h] at this; cases this
end
/-- all fields are whole numbers of 64 bits -/
structure BWf (b : Bd) : Prop where
  x : -9223372036854775808 ≤ b.x ∧ b.x ≤ 9223372036854775807
  y : -9223372036854775808 ≤ b.y ∧ b.y ≤ 9223372036854775807
theorem szOf_pos {k : Int} (h0 : 0 ≤ k) (h2 : k ≤ 2) : 1 ≤ szOf k ∧ szOf k ≤ 16 := by
  rcases (show k = 0 ∨ k = 1 ∨ k = 2 by omega) with rfl | rfl | rfl <;> decide
end Go.Proofs.YtiopbdodegopdaaDoor
/- BodyOk, the reference's. -/
namespace Go.Proofs.YtiopbdodegopdaaDoor
open Go.RowKit
set_option maxRecDepth 100000 in
set_option maxHeartbeats 16000000 in
theorem l02body_ret {u : Value} {l : List ByteArray} (n : Int) (b : Bd) (w : World) (h : At w 1 u l.length (l.map Value.string)) (hm : l.length ≤ 1048576) (hz : ∀ s ∈ l, s.size ≤ 1048576) (hv : lvT l = true) (hn1 : 1 ≤ n) (hn2 : n ≤ 9223372036854775807) :
    Calls Tryd.prog 59 #[.agg #[u], .int .i64 n, b.val] w fun e w' => e = .returned (.bool (okBd l n b)) ∧ Below w.heap.size w w' := by
  obtain ⟨k0, k1, k2, k3, k4, k5, k6, k7, k8⟩ := b
  have HV := Lib.hid hv
  unfold Bd.val bod
  simp only
  go_enter Tryd.func59, Tryd.ntmps59
  go_wp2_with fail
  generalize hw1 : (w.alloc _).alloc _ = w1
  have hb1 : Below w.heap.size w w1 := by rw [← hw1]; exact ((Below.refl _ _).alloc (Nat.le_refl _) _).alloc (by simp) _
  have hL1 : w1.cell? ⟨w.heap.size, 0, none⟩ = some u := by rw [← hw1]; simp [World.cell?_alloc_past, World.cell?_alloc_at]
  have hB1 : Blk w1 (w.heap.size + 1) ⟨k0, k1, k2, k3, k4, k5, k6, k7, k8⟩ := by
    rw [← hw1]
    have := Blk.new (w.alloc (.cells #[u] 31)) 75 ⟨k0, k1, k2, k3, k4, k5, k6, k7, k8⟩
    rwa [show (w.alloc (.cells #[u] 31)).heap.size = w.heap.size + 1 by simp] at this
  clear hw1 hv
  obtain ⟨hlt, c0, c1, c2, c3, c4, c5, c6, c7, c8, _⟩ := id hB1
  simp only at c0 c1 c2 c3 c4 c5 c6 c7 c8
  by_cases hk : k0 < 0 ∨ 2 < k0
  · have HN := Lib.hid (ok_bad_kind (l := l) (n := n) (b := ⟨k0, k1, k2, k3, k4, k5, k6, k7, k8⟩) hk)
    have hbb := hb1.drew
    refine wp_region_tailV 21 (by kernel_rfl) (by kernel_rfl) ?_
    intro OPS HOPS
    have g4 : Hid ((OPS[4]?).bind (·.dst) = some 11) := Lib.hid (by rw [HOPS.out]; kernel_rfl)
    have g12 : Hid ((OPS[12]?).bind (·.dst) = some 19) := Lib.hid (by rw [HOPS.out]; kernel_rfl)
    simp only [List.take_succ_cons, List.take_zero, List.drop_succ_cons, List.drop_zero]
    still_step
    still_step
    still_call ((in_no _ _ _ _ (by omega)).mono fun e w' h => ⟨h.1, h.2.symm⟩)
    still_step
    still_step
    refine wpStill_skipG 4 11 false true rfl g4.out rfl rfl rfl ?_
    refine wpStill_skipG 4 11 false true rfl g4.out rfl rfl rfl ?_
    refine wpStill_skipG 4 11 false true rfl g4.out rfl rfl rfl ?_
    refine wpStill_skipG 4 11 false true rfl g4.out rfl rfl rfl ?_
    refine wpStill_skipG 4 11 false true rfl g4.out rfl rfl rfl ?_
    refine wpStill_skipG 4 11 false true rfl g4.out rfl rfl rfl ?_
    still_step
    still_step
    refine wpStill_skipG 12 19 false true rfl g12.out rfl rfl rfl ?_
    refine wpStill_skipG 12 19 false true rfl g12.out rfl rfl rfl ?_
    refine wpStill_skipG 12 19 false true rfl g12.out rfl rfl rfl ?_
    refine wpStill_skipG 12 19 false true rfl g12.out rfl rfl rfl ?_
    refine wpStill_skipG 12 19 false true rfl g12.out rfl rfl rfl ?_
    refine wpStill_skipG 12 19 false true rfl g12.out rfl rfl rfl ?_
    refine wpStill_skipG 12 19 false true rfl g12.out rfl rfl rfl ?_
    refine wpStill_skipG 12 19 false true rfl g12.out rfl rfl rfl ?_
    refine wpStill_nil ?_
    change wpList _ _ _ _ _ w1.drew
    go_wp2_with fail
    go_ret
    exact ⟨ret_bool (by rw [HN.out]), hbb⟩
  have e1 : 0 ≤ k0 := by omega
  have e2 : k0 ≤ 2 := by omega
  clear hk
  by_cases ho : k1 < 0 ∨ n ≤ k1
  · have HN := Lib.hid (ok_bad_owner (l := l) (b := ⟨k0, k1, k2, k3, k4, k5, k6, k7, k8⟩) ho)
    have hbb := hb1.drew
    have hwn : IntKind.i64.wrap (n - 1) = n - 1 := IntWalk.i64_in _ (by omega)
    refine wp_region_tailV 21 (by kernel_rfl) (by kernel_rfl) ?_
    intro OPS HOPS
    have g4 : Hid ((OPS[4]?).bind (·.dst) = some 11) := Lib.hid (by rw [HOPS.out]; kernel_rfl)
    have g12 : Hid ((OPS[12]?).bind (·.dst) = some 19) := Lib.hid (by rw [HOPS.out]; kernel_rfl)
    simp only [List.take_succ_cons, List.take_zero, List.drop_succ_cons, List.drop_zero]
    still_step
    still_step
    still_call ((in_yes _ _ _ _ (by omega) (by omega)).mono fun e w' h => ⟨h.1, h.2.symm⟩)
    still_step
    still_step
    refine wpStill_wantG 4 11 false false rfl g4.out rfl rfl (fun K hK => ?_)
    go_simp
    refine hK _ ?_
    clear hK K
    refine wpStill_wantG 4 11 false false rfl g4.out rfl rfl (fun K hK => ?_)
    go_simp
    refine hK _ ?_
    clear hK K
    refine wpStill_wantG 4 11 false false rfl g4.out rfl rfl (fun K hK => ?_)
    go_simp
    refine hK _ ?_
    clear hK K
    refine wpStill_wantG 4 11 false false rfl g4.out rfl rfl (fun K hK => ?_)
    go_simp
    refine hK _ ?_
    clear hK K
    refine wpStill_wantG 4 11 false false rfl g4.out rfl rfl (fun K hK => ?_)
    go_simp
    refine ⟨_, (in_no _ _ _ _ (by omega)).mono (fun e w' h => ⟨h.1, h.2.symm⟩), hK _ ?_⟩
    clear hK K
    refine wpStill_wantG 4 11 false false rfl g4.out rfl rfl (fun K hK => ?_)
    go_simp
    refine hK _ ?_
    clear hK K
    still_step
    still_step
    refine wpStill_skipG 12 19 false true rfl g12.out rfl rfl rfl ?_
    refine wpStill_skipG 12 19 false true rfl g12.out rfl rfl rfl ?_
    refine wpStill_skipG 12 19 false true rfl g12.out rfl rfl rfl ?_
    refine wpStill_skipG 12 19 false true rfl g12.out rfl rfl rfl ?_
    refine wpStill_skipG 12 19 false true rfl g12.out rfl rfl rfl ?_
    refine wpStill_skipG 12 19 false true rfl g12.out rfl rfl rfl ?_
    refine wpStill_skipG 12 19 false true rfl g12.out rfl rfl rfl ?_
    refine wpStill_skipG 12 19 false true rfl g12.out rfl rfl rfl ?_
    refine wpStill_nil ?_
    change wpList _ _ _ _ _ w1.drew
    go_wp2_with fail
    go_ret
    exact ⟨ret_bool (by rw [HN.out]), hbb⟩
  have o1 : 0 ≤ k1 := by omega
  have o2 : k1 < n := by omega
  clear ho
  have HP : Hid (solT l k2 k3 (szOf k0) = false → inB k4 (-15) 15 = true → inB k5 (-15) 15 = true → OkPre l n ⟨k0, k1, k2, k3, k4, k5, k6, k7, k8⟩) := Lib.hid fun h1 h2 h3 => ⟨HV.out, ⟨e1, e2⟩, ⟨o1, o2⟩, h1, h2, h3⟩
  have hsz := szOf_pos e1 e2
  have HS : ∀ wx, Below w.heap.size w wx → Calls Tryd.prog 71 #[.agg #[u], .int .i64 k2, .int .i64 k3, .int .i64 (szOf k0)] wx fun e w' => e = .returned (.bool (solT l k2 k3 (szOf k0))) ∧ Below wx.heap.size wx w' := fun wx hb => solid_spec k2 k3 (szOf k0) wx (h.below hb) hm hz hsz.1 hsz.2
  clear hsz
  rcases (show k0 = 0 ∨ k0 = 1 ∨ k0 = 2 by omega) with rfl | rfl | rfl
  · have hwn : IntKind.i64.wrap (n - 1) = n - 1 := IntWalk.i64_in _ (by omega)
    refine wp_region_tailV 21 (by kernel_rfl) (by kernel_rfl) ?_
    intro OPS HOPS
    have g4 : Hid ((OPS[4]?).bind (·.dst) = some 11) := Lib.hid (by rw [HOPS.out]; kernel_rfl)
    have g12 : Hid ((OPS[12]?).bind (·.dst) = some 19) := Lib.hid (by rw [HOPS.out]; kernel_rfl)
    simp only [List.take_succ_cons, List.take_zero, List.drop_succ_cons, List.drop_zero]
    still_step
    still_step
    still_call ((in_yes _ _ _ _ (by omega) (by omega)).mono fun e w' h => ⟨h.1, h.2.symm⟩)
    still_step
    still_step
    refine wpStill_wantG 4 11 false false rfl g4.out rfl rfl (fun K hK => ?_)
    go_simp
    refine hK _ ?_
    clear hK K
    refine wpStill_wantG 4 11 false false rfl g4.out rfl rfl (fun K hK => ?_)
    go_simp
    refine hK _ ?_
    clear hK K
    refine wpStill_wantG 4 11 false false rfl g4.out rfl rfl (fun K hK => ?_)
    go_simp
    refine hK _ ?_
    clear hK K
    refine wpStill_wantG 4 11 false false rfl g4.out rfl rfl (fun K hK => ?_)
    go_simp
    refine hK _ ?_
    clear hK K
    refine wpStill_wantG 4 11 false false rfl g4.out rfl rfl (fun K hK => ?_)
    go_simp
    refine ⟨_, (in_yes _ _ _ _ (by omega) (by omega)).mono (fun e w' h => ⟨h.1, h.2.symm⟩), hK _ ?_⟩
    clear hK K
    refine wpStill_wantG 4 11 false false rfl g4.out rfl rfl (fun K hK => ?_)
    go_simp
    refine hK _ ?_
    clear hK K
    still_step
    still_step
    refine wpStill_wantG 12 19 false false rfl g12.out rfl rfl (fun K hK => ?_)
    go_simp
    refine hK _ ?_
    clear hK K
    refine wpStill_wantG 12 19 false false rfl g12.out rfl rfl (fun K hK => ?_)
    go_simp
    refine hK _ ?_
    clear hK K
    refine wpStill_wantG 12 19 false false rfl g12.out rfl rfl (fun K hK => ?_)
    go_simp
    refine hK _ ?_
    clear hK K
    refine wpStill_wantG 12 19 false false rfl g12.out rfl rfl (fun K hK => ?_)
    go_simp
    refine hK _ ?_
    clear hK K
    refine wpStill_wantG 12 19 false false rfl g12.out rfl rfl (fun K hK => ?_)
    go_simp
    refine hK _ ?_
    clear hK K
    refine wpStill_wantG 12 19 false false rfl g12.out rfl rfl (fun K hK => ?_)
    go_simp
    refine hK _ ?_
    clear hK K
    refine wpStill_wantG 12 19 false false rfl g12.out rfl rfl (fun K hK => ?_)
    go_simp
    refine hK _ ?_
    clear hK K
    refine wpStill_wantG 12 19 false false rfl g12.out rfl rfl (fun K hK => ?_)
    go_simp
    refine ⟨_, (sz_spec _ _).mono (fun e w' h => ⟨h.1, h.2.symm⟩), hK _ ?_⟩
    clear hK K
    refine wpStill_nil ?_
    change wpList _ _ _ _ _ w1.drew
    clear hwn
    go_wp2_with fail
    refine (HS w1.drew hb1.drew).mono ?_
    rintro e wb ⟨rfl, hb⟩
    have hbb : Below w.heap.size w wb := hb1.drew.trans (hb.mono hb1.drew.size)
    have hBb : Blk wb (w.heap.size + 1) ⟨0, k1, k2, k3, k4, k5, k6, k7, k8⟩ := hB1.drew.below hb hB1.drew.lt
    obtain ⟨_, d0, d1, d2, d3, d4, d5, d6, d7, d8, _⟩ := hBb
    simp only at d0 d1 d2 d3 d4 d5 d6 d7 d8
    clear hb c0 c1 c2 c3 c4 c5 c6 c7 c8
    cases hs : solT l k2 k3 (szOf 0) with
    | true =>
      have HN := Lib.hid (ok_bad_sol (n := n) (b := ⟨0, k1, k2, k3, k4, k5, k6, k7, k8⟩) hs)
      clear hs
      go_wp2_with fail
      go_ret
      exact ⟨ret_bool (by rw [HN.out]), hbb⟩
    | false =>
      have HS1 := Lib.hid hs
      clear hs
      cases hvx : inB k4 (-15) 15 with
      | false =>
        have HN := Lib.hid (ok_bad_vx (l := l) (n := n) (b := ⟨0, k1, k2, k3, k4, k5, k6, k7, k8⟩) hvx)
        go_wp2_with fail
        refine (in_any _ _ _ _).mono ?_
        rintro e wx ⟨rfl, rfl⟩
        rw [hvx]
        clear hvx
        go_wp2_with fail
        go_ret
        exact ⟨ret_bool (by rw [HN.out]), hbb⟩
      | true =>
        have HX1 := Lib.hid hvx
        go_wp2_with fail
        refine (in_any _ _ _ _).mono ?_
        rintro e wx ⟨rfl, rfl⟩
        rw [hvx]
        clear hvx
        go_wp2_with fail
        refine (in_any _ _ _ _).mono ?_
        rintro e wx ⟨rfl, rfl⟩
        cases hvy : inB k5 (-15) 15 with
        | false =>
          have HN := Lib.hid (ok_bad_vy (l := l) (n := n) (b := ⟨0, k1, k2, k3, k4, k5, k6, k7, k8⟩) hvy)
          clear hvy
          go_wp2_with fail
          go_ret
          exact ⟨ret_bool (by rw [HN.out]), hbb⟩
        | true =>
          have HPre := Lib.hid (HP.out HS1.out HX1.out hvy)
          clear hvy
          by_cases hai : ¬ (k6 = 1 ∨ k6 = -1)
          · have HN := Lib.hid (ok_bad_aim (l := l) (n := n) (b := ⟨0, k1, k2, k3, k4, k5, k6, k7, k8⟩) rfl hai)
            have a1 : (k6 != -1) = true := by simp; omega
            have a2 : (k6 != 1) = true := by simp; omega
            clear hai
            go_wp2_with fail
            go_ret
            exact ⟨ret_bool (by rw [HN.out]), hbb⟩
          have HA := Lib.hid (Decidable.not_not.1 hai)
          have haim : (k6 != 1) = false ∨ ((k6 != 1) = true ∧ (k6 != -1) = false) := by
            rcases HA.out with e | e
            · exact .inl (by simp; omega)
            · exact .inr ⟨by simp; omega, by simp; omega⟩
          clear hai
          rcases haim with a1 | ⟨a1, a2⟩
          all_goals
            go_wp2_with fail
            refine (in_any _ _ _ _).mono ?_
            rintro e wx ⟨rfl, rfl⟩
            cases hli : inB k7 0 3 with
            | false =>
              have HN := Lib.hid (ok_bad_life (l := l) (n := n) (b := ⟨0, k1, k2, k3, k4, k5, k6, k7, k8⟩) rfl hli)
              clear hli
              go_wp2_with fail
              go_ret
              exact ⟨ret_bool (by rw [HN.out]), hbb⟩
            | true =>
              by_cases h7 : k7 = 0
              · have HN := Lib.hid (ok_pl0 HPre.out rfl HA.out hli h7)
                have h8 : (k7 == 0) = true := by rw [h7]; rfl
                clear hli h7
                go_wp2_with fail
                refine (in_any _ _ _ _).mono ?_
                rintro e wx ⟨rfl, rfl⟩
                go_wp2_with fail
                go_ret
                exact ⟨ret_bool (by rw [HN.out]), hbb⟩
              · have HN := Lib.hid (ok_pl1 HPre.out rfl HA.out hli h7)
                have h8 : (k7 == 0) = false := beq_eq_false_iff_ne.2 h7
                clear hli h7
                go_wp2_with fail
                refine (in_any _ _ _ _).mono ?_
                rintro e wx ⟨rfl, rfl⟩
                go_wp2_with fail
                go_ret
                exact ⟨ret_bool (by rw [HN.out]), hbb⟩
  · have hwn : IntKind.i64.wrap (n - 1) = n - 1 := IntWalk.i64_in _ (by omega)
    refine wp_region_tailV 21 (by kernel_rfl) (by kernel_rfl) ?_
    intro OPS HOPS
    have g4 : Hid ((OPS[4]?).bind (·.dst) = some 11) := Lib.hid (by rw [HOPS.out]; kernel_rfl)
    have g12 : Hid ((OPS[12]?).bind (·.dst) = some 19) := Lib.hid (by rw [HOPS.out]; kernel_rfl)
    simp only [List.take_succ_cons, List.take_zero, List.drop_succ_cons, List.drop_zero]
    still_step
    still_step
    still_call ((in_yes _ _ _ _ (by omega) (by omega)).mono fun e w' h => ⟨h.1, h.2.symm⟩)
    still_step
    still_step
    refine wpStill_wantG 4 11 false false rfl g4.out rfl rfl (fun K hK => ?_)
    go_simp
    refine hK _ ?_
    clear hK K
    refine wpStill_wantG 4 11 false false rfl g4.out rfl rfl (fun K hK => ?_)
    go_simp
    refine hK _ ?_
    clear hK K
    refine wpStill_wantG 4 11 false false rfl g4.out rfl rfl (fun K hK => ?_)
    go_simp
    refine hK _ ?_
    clear hK K
    refine wpStill_wantG 4 11 false false rfl g4.out rfl rfl (fun K hK => ?_)
    go_simp
    refine hK _ ?_
    clear hK K
    refine wpStill_wantG 4 11 false false rfl g4.out rfl rfl (fun K hK => ?_)
    go_simp
    refine ⟨_, (in_yes _ _ _ _ (by omega) (by omega)).mono (fun e w' h => ⟨h.1, h.2.symm⟩), hK _ ?_⟩
    clear hK K
    refine wpStill_wantG 4 11 false false rfl g4.out rfl rfl (fun K hK => ?_)
    go_simp
    refine hK _ ?_
    clear hK K
    still_step
    still_step
    refine wpStill_wantG 12 19 false false rfl g12.out rfl rfl (fun K hK => ?_)
    go_simp
    refine hK _ ?_
    clear hK K
    refine wpStill_wantG 12 19 false false rfl g12.out rfl rfl (fun K hK => ?_)
    go_simp
    refine hK _ ?_
    clear hK K
    refine wpStill_wantG 12 19 false false rfl g12.out rfl rfl (fun K hK => ?_)
    go_simp
    refine hK _ ?_
    clear hK K
    refine wpStill_wantG 12 19 false false rfl g12.out rfl rfl (fun K hK => ?_)
    go_simp
    refine hK _ ?_
    clear hK K
    refine wpStill_wantG 12 19 false false rfl g12.out rfl rfl (fun K hK => ?_)
    go_simp
    refine hK _ ?_
    clear hK K
    refine wpStill_wantG 12 19 false false rfl g12.out rfl rfl (fun K hK => ?_)
    go_simp
    refine hK _ ?_
    clear hK K
    refine wpStill_wantG 12 19 false false rfl g12.out rfl rfl (fun K hK => ?_)
    go_simp
    refine hK _ ?_
    clear hK K
    refine wpStill_wantG 12 19 false false rfl g12.out rfl rfl (fun K hK => ?_)
    go_simp
    refine ⟨_, (sz_spec _ _).mono (fun e w' h => ⟨h.1, h.2.symm⟩), hK _ ?_⟩
    clear hK K
    refine wpStill_nil ?_
    change wpList _ _ _ _ _ w1.drew
    clear hwn
    go_wp2_with fail
    refine (HS w1.drew hb1.drew).mono ?_
    rintro e wb ⟨rfl, hb⟩
    have hbb : Below w.heap.size w wb := hb1.drew.trans (hb.mono hb1.drew.size)
    have hBb : Blk wb (w.heap.size + 1) ⟨1, k1, k2, k3, k4, k5, k6, k7, k8⟩ := hB1.drew.below hb hB1.drew.lt
    obtain ⟨_, d0, d1, d2, d3, d4, d5, d6, d7, d8, _⟩ := hBb
    simp only at d0 d1 d2 d3 d4 d5 d6 d7 d8
    clear hb c0 c1 c2 c3 c4 c5 c6 c7 c8
    cases hs : solT l k2 k3 (szOf 1) with
    | true =>
      have HN := Lib.hid (ok_bad_sol (n := n) (b := ⟨1, k1, k2, k3, k4, k5, k6, k7, k8⟩) hs)
      clear hs
      go_wp2_with fail
      go_ret
      exact ⟨ret_bool (by rw [HN.out]), hbb⟩
    | false =>
      have HS1 := Lib.hid hs
      clear hs
      cases hvx : inB k4 (-15) 15 with
      | false =>
        have HN := Lib.hid (ok_bad_vx (l := l) (n := n) (b := ⟨1, k1, k2, k3, k4, k5, k6, k7, k8⟩) hvx)
        go_wp2_with fail
        refine (in_any _ _ _ _).mono ?_
        rintro e wx ⟨rfl, rfl⟩
        rw [hvx]
        clear hvx
        go_wp2_with fail
        go_ret
        exact ⟨ret_bool (by rw [HN.out]), hbb⟩
      | true =>
        have HX1 := Lib.hid hvx
        go_wp2_with fail
        refine (in_any _ _ _ _).mono ?_
        rintro e wx ⟨rfl, rfl⟩
        rw [hvx]
        clear hvx
        go_wp2_with fail
        refine (in_any _ _ _ _).mono ?_
        rintro e wx ⟨rfl, rfl⟩
        cases hvy : inB k5 (-15) 15 with
        | false =>
          have HN := Lib.hid (ok_bad_vy (l := l) (n := n) (b := ⟨1, k1, k2, k3, k4, k5, k6, k7, k8⟩) hvy)
          clear hvy
          go_wp2_with fail
          go_ret
          exact ⟨ret_bool (by rw [HN.out]), hbb⟩
        | true =>
          have HPre := Lib.hid (HP.out HS1.out HX1.out hvy)
          clear hvy
          by_cases ha0 : k6 ≠ 0
          · have HN := Lib.hid (ok_bad_ot (l := l) (n := n) (b := ⟨1, k1, k2, k3, k4, k5, k6, k7, k8⟩) (show (1 : Int) ≠ 0 by decide) (.inl ha0))
            have a1 : (k6 == 0) = false := beq_eq_false_iff_ne.2 ha0
            clear ha0
            go_wp2_with fail
            go_ret
            exact ⟨ret_bool (by rw [HN.out]), hbb⟩
          obtain rfl : k6 = 0 := Decidable.not_not.1 ha0
          clear ha0
          by_cases hl0 : k7 ≠ 0
          · have HN := Lib.hid (ok_bad_ot (l := l) (n := n) (b := ⟨1, k1, k2, k3, k4, k5, 0, k7, k8⟩) (show (1 : Int) ≠ 0 by decide) (.inr hl0))
            have a1 : (k7 == 0) = false := beq_eq_false_iff_ne.2 hl0
            clear hl0
            go_wp2_with fail
            go_ret
            exact ⟨ret_bool (by rw [HN.out]), hbb⟩
          obtain rfl : k7 = 0 := Decidable.not_not.1 hl0
          clear hl0
          have HN := Lib.hid (ok_shot HPre.out rfl rfl rfl)
          go_wp2_with fail
          refine (in_any _ _ _ _).mono ?_
          rintro e wx ⟨rfl, rfl⟩
          go_wp2_with fail
          go_ret
          exact ⟨ret_bool (by rw [HN.out]), hbb⟩
  · have hwn : IntKind.i64.wrap (n - 1) = n - 1 := IntWalk.i64_in _ (by omega)
    refine wp_region_tailV 21 (by kernel_rfl) (by kernel_rfl) ?_
    intro OPS HOPS
    have g4 : Hid ((OPS[4]?).bind (·.dst) = some 11) := Lib.hid (by rw [HOPS.out]; kernel_rfl)
    have g12 : Hid ((OPS[12]?).bind (·.dst) = some 19) := Lib.hid (by rw [HOPS.out]; kernel_rfl)
    simp only [List.take_succ_cons, List.take_zero, List.drop_succ_cons, List.drop_zero]
    still_step
    still_step
    still_call ((in_yes _ _ _ _ (by omega) (by omega)).mono fun e w' h => ⟨h.1, h.2.symm⟩)
    still_step
    still_step
    refine wpStill_wantG 4 11 false false rfl g4.out rfl rfl (fun K hK => ?_)
    go_simp
    refine hK _ ?_
    clear hK K
    refine wpStill_wantG 4 11 false false rfl g4.out rfl rfl (fun K hK => ?_)
    go_simp
    refine hK _ ?_
    clear hK K
    refine wpStill_wantG 4 11 false false rfl g4.out rfl rfl (fun K hK => ?_)
    go_simp
    refine hK _ ?_
    clear hK K
    refine wpStill_wantG 4 11 false false rfl g4.out rfl rfl (fun K hK => ?_)
    go_simp
    refine hK _ ?_
    clear hK K
    refine wpStill_wantG 4 11 false false rfl g4.out rfl rfl (fun K hK => ?_)
    go_simp
    refine ⟨_, (in_yes _ _ _ _ (by omega) (by omega)).mono (fun e w' h => ⟨h.1, h.2.symm⟩), hK _ ?_⟩
    clear hK K
    refine wpStill_wantG 4 11 false false rfl g4.out rfl rfl (fun K hK => ?_)
    go_simp
    refine hK _ ?_
    clear hK K
    still_step
    still_step
    refine wpStill_wantG 12 19 false false rfl g12.out rfl rfl (fun K hK => ?_)
    go_simp
    refine hK _ ?_
    clear hK K
    refine wpStill_wantG 12 19 false false rfl g12.out rfl rfl (fun K hK => ?_)
    go_simp
    refine hK _ ?_
    clear hK K
    refine wpStill_wantG 12 19 false false rfl g12.out rfl rfl (fun K hK => ?_)
    go_simp
    refine hK _ ?_
    clear hK K
    refine wpStill_wantG 12 19 false false rfl g12.out rfl rfl (fun K hK => ?_)
    go_simp
    refine hK _ ?_
    clear hK K
    refine wpStill_wantG 12 19 false false rfl g12.out rfl rfl (fun K hK => ?_)
    go_simp
    refine hK _ ?_
    clear hK K
    refine wpStill_wantG 12 19 false false rfl g12.out rfl rfl (fun K hK => ?_)
    go_simp
    refine hK _ ?_
    clear hK K
    refine wpStill_wantG 12 19 false false rfl g12.out rfl rfl (fun K hK => ?_)
    go_simp
    refine hK _ ?_
    clear hK K
    refine wpStill_wantG 12 19 false false rfl g12.out rfl rfl (fun K hK => ?_)
    go_simp
    refine ⟨_, (sz_spec _ _).mono (fun e w' h => ⟨h.1, h.2.symm⟩), hK _ ?_⟩
    clear hK K
    refine wpStill_nil ?_
    change wpList _ _ _ _ _ w1.drew
    clear hwn
    go_wp2_with fail
    refine (HS w1.drew hb1.drew).mono ?_
    rintro e wb ⟨rfl, hb⟩
    have hbb : Below w.heap.size w wb := hb1.drew.trans (hb.mono hb1.drew.size)
    have hBb : Blk wb (w.heap.size + 1) ⟨2, k1, k2, k3, k4, k5, k6, k7, k8⟩ := hB1.drew.below hb hB1.drew.lt
    obtain ⟨_, d0, d1, d2, d3, d4, d5, d6, d7, d8, _⟩ := hBb
    simp only at d0 d1 d2 d3 d4 d5 d6 d7 d8
    clear hb c0 c1 c2 c3 c4 c5 c6 c7 c8
    cases hs : solT l k2 k3 (szOf 2) with
    | true =>
      have HN := Lib.hid (ok_bad_sol (n := n) (b := ⟨2, k1, k2, k3, k4, k5, k6, k7, k8⟩) hs)
      clear hs
      go_wp2_with fail
      go_ret
      exact ⟨ret_bool (by rw [HN.out]), hbb⟩
    | false =>
      have HS1 := Lib.hid hs
      clear hs
      cases hvx : inB k4 (-15) 15 with
      | false =>
        have HN := Lib.hid (ok_bad_vx (l := l) (n := n) (b := ⟨2, k1, k2, k3, k4, k5, k6, k7, k8⟩) hvx)
        go_wp2_with fail
        refine (in_any _ _ _ _).mono ?_
        rintro e wx ⟨rfl, rfl⟩
        rw [hvx]
        clear hvx
        go_wp2_with fail
        go_ret
        exact ⟨ret_bool (by rw [HN.out]), hbb⟩
      | true =>
        have HX1 := Lib.hid hvx
        go_wp2_with fail
        refine (in_any _ _ _ _).mono ?_
        rintro e wx ⟨rfl, rfl⟩
        rw [hvx]
        clear hvx
        go_wp2_with fail
        refine (in_any _ _ _ _).mono ?_
        rintro e wx ⟨rfl, rfl⟩
        cases hvy : inB k5 (-15) 15 with
        | false =>
          have HN := Lib.hid (ok_bad_vy (l := l) (n := n) (b := ⟨2, k1, k2, k3, k4, k5, k6, k7, k8⟩) hvy)
          clear hvy
          go_wp2_with fail
          go_ret
          exact ⟨ret_bool (by rw [HN.out]), hbb⟩
        | true =>
          have HPre := Lib.hid (HP.out HS1.out HX1.out hvy)
          clear hvy
          by_cases ho0 : k1 ≠ 0
          · have HN := Lib.hid (ok_bad_item (l := l) (n := n) (b := ⟨2, k1, k2, k3, k4, k5, k6, k7, k8⟩) rfl (.inl ho0))
            have a1 : (k1 == 0) = false := beq_eq_false_iff_ne.2 ho0
            clear ho0
            go_wp2_with fail
            go_ret
            exact ⟨ret_bool (by rw [HN.out]), hbb⟩
          obtain rfl : k1 = 0 := Decidable.not_not.1 ho0
          clear ho0
          by_cases ha0 : k6 ≠ 0
          · have HN := Lib.hid (ok_bad_ot (l := l) (n := n) (b := ⟨2, 0, k2, k3, k4, k5, k6, k7, k8⟩) (show (2 : Int) ≠ 0 by decide) (.inl ha0))
            have a1 : (k6 == 0) = false := beq_eq_false_iff_ne.2 ha0
            clear ha0
            go_wp2_with fail
            go_ret
            exact ⟨ret_bool (by rw [HN.out]), hbb⟩
          obtain rfl : k6 = 0 := Decidable.not_not.1 ha0
          clear ha0
          by_cases hl0 : k7 ≠ 0
          · have HN := Lib.hid (ok_bad_ot (l := l) (n := n) (b := ⟨2, 0, k2, k3, k4, k5, 0, k7, k8⟩) (show (2 : Int) ≠ 0 by decide) (.inr hl0))
            have a1 : (k7 == 0) = false := beq_eq_false_iff_ne.2 hl0
            clear hl0
            go_wp2_with fail
            go_ret
            exact ⟨ret_bool (by rw [HN.out]), hbb⟩
          obtain rfl : k7 = 0 := Decidable.not_not.1 hl0
          clear hl0
          have HN := Lib.hid (ok_item HPre.out rfl rfl rfl rfl)
          go_wp2_with fail
          go_ret
          exact ⟨ret_bool (by rw [HN.out]), hbb⟩
end Go.Proofs.YtiopbdodegopdaaDoor
