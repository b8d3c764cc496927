/- Texts Sho, Mtg, Sco, Rnd, Spt, Sps2 in one. -/
import Derived.Test.YtmamihkcikgmcaaKA
import Derived.Test.YtmamihkcikgmcaaKB
import Derived.Test.YtmamihkcikgmcaaKC
import Derived.Test.YtmamihkcikgmcaaKD
import Derived.Test.YtmamihkcikgmcaaKE
import Derived.Test.YtmamihkcikgmcaaKG
import Derived.Test.YtmamihkcikgmcaaKI
import Derived.Outline
import Derived.Deep.QuietTactic
import Derived.BigQuiet
import Derived.Deep.DeepCutAuto
import Derived.Deep.CutRange
/- ShotOf and BodiesMeet. -/
namespace Go.Proofs.Ytmamihkcikgmcaa
open Go.RowKit

def shotIn (x y a : Int) : Prop := 0 ≤ x ∧ x ≤ 1000 ∧ 0 ≤ y ∧ y ≤ 1000 ∧ -1 ≤ a ∧ a ≤ 1
instance (x y a : Int) : Decidable (shotIn x y a) := by unfold shotIn; infer_instance
def shotT (o x y a : Int) : Value := if shotIn x y a then bod 1 o (x + 4) (y + 4) (6 * a) 0 0 0 25 else bod 0 0 0 0 0 0 0 0 0
theorem shot_out {x y a : Int} (h : ¬ shotIn x y a) : (x < 0) ∨ (0 ≤ x ∧ 1000 < x) ∨ (0 ≤ x ∧ x ≤ 1000 ∧ y < 0) ∨ (0 ≤ x ∧ x ≤ 1000 ∧ 0 ≤ y ∧ 1000 < y) ∨ (0 ≤ x ∧ x ≤ 1000 ∧ 0 ≤ y ∧ y ≤ 1000 ∧ a < -1) ∨ (0 ≤ x ∧ x ≤ 1000 ∧ 0 ≤ y ∧ y ≤ 1000 ∧ -1 ≤ a ∧ 1 < a) := by
  unfold shotIn at h
  omega
set_option maxHeartbeats 2000000 in
theorem shot_impl (k0 k1 k2 k3 k4 k5 k6 k7 k8 : Int) (w : World) :
    Calls Try.prog 32 #[bod k0 k1 k2 k3 k4 k5 k6 k7 k8] w fun e w' => e = .returned (shotT k1 k2 k3 k6) ∧ Below w.heap.size w w' := by
  by_cases h : shotIn k2 k3 k6
  · have HS := Lib.hid (show shotT k1 k2 k3 k6 = bod 1 k1 (k2 + 4) (k3 + 4) (6 * k6) 0 0 0 25 from if_pos h)
    obtain ⟨h1, h2, h3, h4, h5, h6⟩ := h
    unfold bod
    go_enter Try.func32, Try.ntmps32
    go_wp2
    go_returns
    exact ⟨by rw [HS.out]; rfl, by repeat (first | exact Below.refl _ _ | refine Below.alloc ?_ (by simp <;> omega) _ | refine Below.setCell ?_ (by simp <;> omega) _)⟩
  · have HS := Lib.hid (show shotT k1 k2 k3 k6 = bod 0 0 0 0 0 0 0 0 0 from if_neg h)
    unfold bod
    rcases shot_out h with h1 | ⟨h1, h2⟩ | ⟨h1, h2, h3⟩ | ⟨h1, h2, h3, h4⟩ | ⟨h1, h2, h3, h4, h5⟩ | ⟨h1, h2, h3, h4, h5, h6⟩
    all_goals
      clear h
      go_enter Try.func32, Try.ntmps32
      go_wp2
      all_goals first
        | (exfalso; rename_i hx; simp at hx; omega)
        | (go_returns; exact ⟨by rw [HS.out]; rfl, by repeat (first | exact Below.refl _ _ | refine Below.alloc ?_ (by simp <;> omega) _ | refine Below.setCell ?_ (by simp <;> omega) _)⟩)
set_option maxHeartbeats 2000000 in
theorem shot_spec (k0 k1 k2 k3 k4 k5 k6 k7 k8 : Int) (w : World) :
    Calls Try.prog 129 #[bod k0 k1 k2 k3 k4 k5 k6 k7 k8] w fun e w' => e = .returned (shotT k1 k2 k3 k6) ∧ Below w.heap.size w w' := by
  by_cases h : shotIn k2 k3 k6
  · have HS := Lib.hid (show shotT k1 k2 k3 k6 = bod 1 k1 (k2 + 4) (k3 + 4) (6 * k6) 0 0 0 25 from if_pos h)
    obtain ⟨h1, h2, h3, h4, h5, h6⟩ := h
    unfold bod
    go_enter Try.func129, Try.ntmps129
    go_wp2
    go_returns
    exact ⟨by rw [HS.out]; rfl, by repeat (first | exact Below.refl _ _ | refine Below.alloc ?_ (by simp <;> omega) _ | refine Below.setCell ?_ (by simp <;> omega) _)⟩
  · have HS := Lib.hid (show shotT k1 k2 k3 k6 = bod 0 0 0 0 0 0 0 0 0 from if_neg h)
    unfold bod
    rcases shot_out h with h1 | ⟨h1, h2⟩ | ⟨h1, h2, h3⟩ | ⟨h1, h2, h3, h4⟩ | ⟨h1, h2, h3, h4, h5⟩ | ⟨h1, h2, h3, h4, h5, h6⟩
    all_goals
      clear h
      go_enter Try.func129, Try.ntmps129
      go_wp2
      all_goals first
        | (exfalso; rename_i hx; simp at hx; omega)
        | (go_returns; exact ⟨by rw [HS.out]; rfl, by repeat (first | exact Below.refl _ _ | refine Below.alloc ?_ (by simp <;> omega) _ | refine Below.setCell ?_ (by simp <;> omega) _)⟩)
end Go.Proofs.Ytmamihkcikgmcaa
/- playerMet and l02Meets: the first player, other than one, that a body meets. -/
namespace Go.Proofs.Ytmamihkcikgmcaa
open Go.RowKit

theorem meetV_impl (a b : Bd) (w : World) : Calls Try.prog 33 #[a.val, b.val] w fun e w' => e = .returned (.bool (meetB a b)) ∧ Below w.heap.size w w' := by
  obtain ⟨a0, a1, a2, a3, a4, a5, a6, a7, a8⟩ := a
  obtain ⟨b0, b1, b2, b3, b4, b5, b6, b7, b8⟩ := b
  exact meet_impl a0 a1 a2 a3 a4 a5 a6 a7 a8 b0 b1 b2 b3 b4 b5 b6 b7 b8 w
theorem meetV_spec (a b : Bd) (w : World) : Calls Try.prog 148 #[a.val, b.val] w fun e w' => e = .returned (.bool (meetB a b)) ∧ Below w.heap.size w w' := by
  obtain ⟨a0, a1, a2, a3, a4, a5, a6, a7, a8⟩ := a
  obtain ⟨b0, b1, b2, b3, b4, b5, b6, b7, b8⟩ := b
  exact meet_spec a0 a1 a2 a3 a4 a5 a6 a7 a8 b0 b1 b2 b3 b4 b5 b6 b7 b8 w
theorem shotV (b : Bd) : shotT b.owner b.x b.y b.aim = (shotB b).val := by
  by_cases h : 0 ≤ b.x ∧ b.x ≤ 1000 ∧ 0 ≤ b.y ∧ b.y ≤ 1000 ∧ -1 ≤ b.aim ∧ b.aim ≤ 1
  · rw [show shotB b = _ from if_pos h, show shotT b.owner b.x b.y b.aim = _ from if_pos h]; rfl
  · rw [show shotB b = _ from if_neg h, show shotT b.owner b.x b.y b.aim = _ from if_neg h]; rfl
theorem shotV_impl (b : Bd) (w : World) : Calls Try.prog 32 #[b.val] w fun e w' => e = .returned (shotB b).val ∧ Below w.heap.size w w' := by
  rw [← shotV]
  obtain ⟨b0, b1, b2, b3, b4, b5, b6, b7, b8⟩ := b
  exact shot_impl b0 b1 b2 b3 b4 b5 b6 b7 b8 w
theorem shotV_spec (b : Bd) (w : World) : Calls Try.prog 129 #[b.val] w fun e w' => e = .returned (shotB b).val ∧ Below w.heap.size w w' := by
  rw [← shotV]
  obtain ⟨b0, b1, b2, b3, b4, b5, b6, b7, b8⟩ := b
  exact shot_spec b0 b1 b2 b3 b4 b5 b6 b7 b8 w
section
variable {P : Program} {ops : Array Oper} {w : World} {op : Oper} {a : Act}
theorem still_bodG {Q' : Act → Prop} {rest : List Oper} (j d : Nat) (b v : Bool) (hg : op.guard = some (j, b)) (hd : (ops[j]?).bind (·.dst) = some d) (ht : a.tmps[d]? = some (.bool v)) (hv : (v == b) = true)
    (x : Operand) (ho : op.op = .load 42 x) (g o : Nat) (hx : a.eval x = .pointer (some ⟨g, o, none⟩)) (bd : Bd) (hc : w.rangeAt g o bd.cells)
    (h : wpStill Try.prog ops w Q' rest (a.put op.dst bd.val)) : wpStill Try.prog ops w Q' (op :: rest) a :=
  wpStill_wantG j d b v hg hd ht hv fun _ hK => still_bod x ho g o hx bd hc (hK _ h)
end
theorem take_at {l : List Bd} {n k : Nat} (h : k < n) : bAt (l.take n) k = bAt l k := bAt_take h
set_option maxRecDepth 100000 in
set_option maxHeartbeats 8000000 in
theorem met_impl {x xs xb : Value} {X : Wd} {B G : Nat} (b : Bd) (but : Int) (w : World) (h : Hd w B G x xs xb X) (hn : X.scores.length ≤ X.bodies.length) (hm : X.bodies.length ≤ 1000) :
    Calls Try.prog 118 #[.pointer (some ⟨G, 0, none⟩), b.val, .int .i64 but] w fun e w' => e = .returned (.int .i64 (metT (X.bodies.take X.scores.length) b but)) ∧ Below w.heap.size w w' := by
  have hpl : (X.bodies.take X.scores.length).length = X.scores.length := by rw [List.length_take]; omega
  have HHIT := fun k (hk : k < X.scores.length) => Lib.hid (metGo_hit (pl := X.bodies.take X.scores.length) (b := b) (but := but) (k := k) (by omega))
  have HMIS := fun k (hk : k < X.scores.length) => Lib.hid (metGo_miss (pl := X.bodies.take X.scores.length) (b := b) (but := but) (k := k) (by omega))
  have HAT := fun k (hk : k < X.scores.length) => Lib.hid (take_at (l := X.bodies) hk)
  have HM0 : Hid (metT (X.bodies.take X.scores.length) b but = metGo (X.bodies.take X.scores.length) b but (X.scores.length - 0)) := Lib.hid (by unfold metT; rw [hpl, Nat.sub_zero])
  have HEND : Hid (metGo (X.bodies.take X.scores.length) b but (X.scores.length - X.scores.length) = -1) := Lib.hid (by rw [Nat.sub_self]; rfl)
  rw [hpl] at HHIT HMIS
  clear hpl
  obtain ⟨so, scap, hxs, hcs⟩ := h.own.s.at_.cell
  clear hcs
  generalize hn0 : X.scores.length = n at *
  have Hn0 := Lib.hid hn0
  clear hn0
  generalize X.bodies.take n = pl at *
  generalize hMT : metT pl b but = MT at *
  have HMT := Lib.hid hMT
  clear hMT
  go_enter Try.func118, Try.ntmps118
  go_upto_region 1 with (with_reducible refine box_bod (op := ⟨some 4, _, _, _, _, _⟩) rfl _ _ rfl b rfl ?_)
  have hBk := Blk.newB w 42 b
  have hk0 : Below w.heap.size w (w.alloc (.cells b.cells.toArray 42)) := (Below.refl _ _).alloc (Nat.le_refl _) _
  generalize World.alloc w _ = w1 at hBk hk0
  have hH := h.below hk0
  subst hxs
  have q3 := hH.blk.c3
  go_wp2_with fail
  go_loopw [13] (fun i wr => ∃ k : Nat, k ≤ n ∧ i = .int .i64 k ∧ Hd wr B G x (.slice so n scap) xb X ∧ Blk wr w.heap.size b ∧ Below w.heap.size w wr ∧ Hid (MT = metGo pl b but (n - k))) (fun i _ => n - (intOf i).toNat)
  case atStart => exact ⟨0, Nat.zero_le _, rfl, hH, hBk, hk0, Lib.hid HM0.out⟩
  case round =>
    clear hH hBk hk0 q3 h HM0
    obtain ⟨k, hk, rfl, hH, hBk, hb, HK⟩ := hrel
    have q3 := hH.blk.c3
    by_cases hlt : k < n
    · have HIT := HHIT k hlt
      have MIS := HMIS k hlt
      have AT := HAT k hlt
      clear HHIT HMIS HAT
      have hlb : k < X.bodies.length := by omega
      obtain ⟨gb, cap, hxb, hgb⟩ := hH.formB (by omega)
      subst hxb
      have hE := hH.own.b.elem hlb
      rw [← AT.out] at hE
      obtain ⟨c, hc⟩ : ∃ c, bAt pl k = c := ⟨_, rfl⟩
      rw [hc] at hE HIT MIS
      have e7 := hE.c7
      have r0 := hE.range
      have rb := hBk.range
      have q4 := hH.blk.c4
      clear hc AT
      have b1 : (0 : Int) ≤ (k : Int) := by omega
      have b2 : (k : Int) < (X.bodies.length : Int) := by omega
      go_upto_region 4 with (fail)
      have q4d : wr.drew.cell? ⟨G, 4, none⟩ = some (.slice (some ⟨gb, 0, none⟩) X.bodies.length cap) := q4
      have e7d : wr.drew.cell? ⟨gb, k * 9 + 7, none⟩ = some (.int .i64 c.life) := e7
      have r0d : wr.drew.rangeAt gb (k * 9) c.cells := r0
      have rbd : wr.drew.rangeAt w.heap.size 0 b.cells := rb
      clear q4 e7 r0 rb q3
      by_cases h1 : (k : Int) = but
      · have d1 : ((k : Int) != but) = false := by simp [h1]
        have HN := Lib.hid (MIS.out (.inl h1))
        have b2' := Lib.hid b2
        clear h1 hlb b2
        refine wp_region_tailV 23 (by kernel_rfl) (by kernel_rfl) ?_
        intro OPS HOPS
        have g3 : Hid ((OPS[3]?).bind (·.dst) = some 19) := Lib.hid (by rw [HOPS.out]; kernel_rfl)
        have g14 : Hid ((OPS[14]?).bind (·.dst) = some 30) := Lib.hid (by rw [HOPS.out]; kernel_rfl)
        simp only [List.take_succ_cons, List.take_zero, List.drop_succ_cons, List.drop_zero]
        still_step
        still_step
        still_step
        still_step
        refine wpStill_skip ((wanted_of (j := 3) (d := 19) (b := true) (v := false) rfl g3.out rfl).trans rfl) ?_
        simp only [Act.put, List.setIfInBounds_toArray, List.set_cons_zero, List.set_cons_succ]
        refine wpStill_skip ((wanted_of (j := 3) (d := 19) (b := true) (v := false) rfl g3.out rfl).trans rfl) ?_
        simp only [Act.put, List.setIfInBounds_toArray, List.set_cons_zero, List.set_cons_succ]
        refine wpStill_skip ((wanted_of (j := 3) (d := 19) (b := true) (v := false) rfl g3.out rfl).trans rfl) ?_
        simp only [Act.put, List.setIfInBounds_toArray, List.set_cons_zero, List.set_cons_succ]
        refine wpStill_skip ((wanted_of (j := 3) (d := 19) (b := true) (v := false) rfl g3.out rfl).trans rfl) ?_
        simp only [Act.put, List.setIfInBounds_toArray, List.set_cons_zero, List.set_cons_succ]
        refine wpStill_skip ((wanted_of (j := 3) (d := 19) (b := true) (v := false) rfl g3.out rfl).trans rfl) ?_
        simp only [Act.put, List.setIfInBounds_toArray, List.set_cons_zero, List.set_cons_succ]
        refine wpStill_skip ((wanted_of (j := 3) (d := 19) (b := true) (v := false) rfl g3.out rfl).trans rfl) ?_
        simp only [Act.put, List.setIfInBounds_toArray, List.set_cons_zero, List.set_cons_succ]
        refine wpStill_skip ((wanted_of (j := 3) (d := 19) (b := true) (v := false) rfl g3.out rfl).trans rfl) ?_
        simp only [Act.put, List.setIfInBounds_toArray, List.set_cons_zero, List.set_cons_succ]
        refine wpStill_skip ((wanted_of (j := 3) (d := 19) (b := true) (v := false) rfl g3.out rfl).trans rfl) ?_
        simp only [Act.put, List.setIfInBounds_toArray, List.set_cons_zero, List.set_cons_succ]
        refine wpStill_skip ((wanted_of (j := 3) (d := 19) (b := true) (v := false) rfl g3.out rfl).trans rfl) ?_
        simp only [Act.put, List.setIfInBounds_toArray, List.set_cons_zero, List.set_cons_succ]
        still_step
        still_step
        refine wpStill_skip ((wanted_of (j := 14) (d := 30) (b := true) (v := false) rfl g14.out rfl).trans rfl) ?_
        simp only [Act.put, List.setIfInBounds_toArray, List.set_cons_zero, List.set_cons_succ]
        refine wpStill_skip ((wanted_of (j := 14) (d := 30) (b := true) (v := false) rfl g14.out rfl).trans rfl) ?_
        simp only [Act.put, List.setIfInBounds_toArray, List.set_cons_zero, List.set_cons_succ]
        refine wpStill_skip ((wanted_of (j := 14) (d := 30) (b := true) (v := false) rfl g14.out rfl).trans rfl) ?_
        simp only [Act.put, List.setIfInBounds_toArray, List.set_cons_zero, List.set_cons_succ]
        refine wpStill_skip ((wanted_of (j := 14) (d := 30) (b := true) (v := false) rfl g14.out rfl).trans rfl) ?_
        simp only [Act.put, List.setIfInBounds_toArray, List.set_cons_zero, List.set_cons_succ]
        refine wpStill_skip ((wanted_of (j := 14) (d := 30) (b := true) (v := false) rfl g14.out rfl).trans rfl) ?_
        simp only [Act.put, List.setIfInBounds_toArray, List.set_cons_zero, List.set_cons_succ]
        refine wpStill_skip ((wanted_of (j := 14) (d := 30) (b := true) (v := false) rfl g14.out rfl).trans rfl) ?_
        simp only [Act.put, List.setIfInBounds_toArray, List.set_cons_zero, List.set_cons_succ]
        refine wpStill_skip ((wanted_of (j := 14) (d := 30) (b := true) (v := false) rfl g14.out rfl).trans rfl) ?_
        simp only [Act.put, List.setIfInBounds_toArray, List.set_cons_zero, List.set_cons_succ]
        refine wpStill_skip ((wanted_of (j := 14) (d := 30) (b := true) (v := false) rfl g14.out rfl).trans rfl) ?_
        simp only [Act.put, List.setIfInBounds_toArray, List.set_cons_zero, List.set_cons_succ]
        refine wpStill_nil ?_
        change wpList _ _ _ _ _ wr.drew
        have hHd := hH.drew
        have hBd := hBk.drew
        have hbd := hb.drew
        have HNK := Lib.hid (HK.out.trans HN.out)
        clear hH hBk hb HK HN q4d e7d r0d rbd d1
        go_wp2_with fail
        go_roundw
        case rel => exact ⟨k + 1, by omega, by go_num, hHd, hBd, hbd, HNK⟩
        case measure => simp [intOf]; omega
      have d1 : ((k : Int) != but) = true := by simp [h1]
      by_cases h2 : 0 < c.life
      · have d2 : decide (0 < c.life) = true := decide_eq_true h2
        have HIT2 := HIT
        clear HIT
        refine wp_region_tailV 23 (by kernel_rfl) (by kernel_rfl) ?_
        intro OPS HOPS
        have g3 : Hid ((OPS[3]?).bind (·.dst) = some 19) := Lib.hid (by rw [HOPS.out]; kernel_rfl)
        have g14 : Hid ((OPS[14]?).bind (·.dst) = some 30) := Lib.hid (by rw [HOPS.out]; kernel_rfl)
        simp only [List.take_succ_cons, List.take_zero, List.drop_succ_cons, List.drop_zero]
        still_step
        still_step
        still_step
        still_step
        refine wpStill_wantG 3 19 true true rfl g3.out rfl rfl (fun K hK => ?_)
        go_simp
        refine hK _ ?_
        clear hK K
        refine wpStill_wantG 3 19 true true rfl g3.out rfl rfl (fun K hK => ?_)
        go_simp
        refine hK _ ?_
        clear hK K
        refine wpStill_wantG 3 19 true true rfl g3.out rfl rfl (fun K hK => ?_)
        go_simp
        refine hK _ ?_
        clear hK K
        refine wpStill_wantG 3 19 true true rfl g3.out rfl rfl (fun K hK => ?_)
        go_simp
        refine hK _ ?_
        clear hK K
        refine wpStill_wantG 3 19 true true rfl g3.out rfl rfl (fun K hK => ?_)
        go_simp
        refine hK _ ?_
        clear hK K
        refine wpStill_wantG 3 19 true true rfl g3.out rfl rfl (fun K hK => ?_)
        go_simp
        refine hK _ ?_
        clear hK K
        refine wpStill_wantG 3 19 true true rfl g3.out rfl rfl (fun K hK => ?_)
        go_simp
        refine hK _ ?_
        clear hK K
        refine wpStill_wantG 3 19 true true rfl g3.out rfl rfl (fun K hK => ?_)
        go_simp
        refine hK _ ?_
        clear hK K
        refine wpStill_wantG 3 19 true true rfl g3.out rfl rfl (fun K hK => ?_)
        go_simp
        refine hK _ ?_
        clear hK K
        still_step
        still_step
        refine wpStill_wantG 14 30 true true rfl g14.out rfl rfl (fun K hK => ?_)
        go_simp
        refine hK _ ?_
        clear hK K
        refine wpStill_wantG 14 30 true true rfl g14.out rfl rfl (fun K hK => ?_)
        go_simp
        refine hK _ ?_
        clear hK K
        refine wpStill_wantG 14 30 true true rfl g14.out rfl rfl (fun K hK => ?_)
        go_simp
        refine hK _ ?_
        clear hK K
        refine wpStill_wantG 14 30 true true rfl g14.out rfl rfl (fun K hK => ?_)
        go_simp
        refine hK _ ?_
        clear hK K
        refine wpStill_wantG 14 30 true true rfl g14.out rfl rfl (fun K hK => ?_)
        go_simp
        refine hK _ ?_
        clear hK K
        refine wpStill_wantG 14 30 true true rfl g14.out rfl rfl (fun K hK => ?_)
        go_simp
        refine hK _ ?_
        clear hK K
        refine still_bodG (op := ⟨some 37, _, _, _, _, _⟩) 14 30 true true rfl g14.out rfl rfl _ rfl gb (k * 9) rfl c r0d ?_
        simp only [Act.put, List.setIfInBounds_toArray, List.set_cons_zero, List.set_cons_succ]
        refine still_bodG (op := ⟨some 38, _, _, _, _, _⟩) 14 30 true true rfl g14.out rfl rfl _ rfl w.heap.size 0 rfl b rbd ?_
        simp only [Act.put, List.setIfInBounds_toArray, List.set_cons_zero, List.set_cons_succ]
        refine wpStill_nil ?_
        change wpList _ _ _ _ _ wr.drew
        have hHd := hH.drew
        have hBd := hBk.drew
        have hbd := hb.drew
        clear hH hBk hb q4d e7d r0d rbd d1 d2
        go_wp2_with fail
        refine (meetV_impl c b wr.drew).mono ?_
        rintro e wf ⟨rfl, hk2⟩
        have hH2 := hHd.below hk2
        have hB2 := hBd.below hk2 hBd.lt
        have hb2 := hbd.trans (hk2.mono hbd.size)
        clear hHd hBd hbd hk2
        cases hmt : meetB c b with
        | true =>
          have HF := Lib.hid (HIT2.out h1 h2 hmt)
          have HNK := Lib.hid (HK.out.trans HF.out)
          clear hmt h1 h2 HIT2 MIS
          go_wp2_with fail
          go_ret
          exact ⟨by rw [HNK.out]; rfl, hb2⟩
        | false =>
          have HN := Lib.hid (MIS.out (.inr (.inr hmt)))
          have HNK := Lib.hid (HK.out.trans HN.out)
          clear hmt h1 h2 HIT2 MIS HK HN
          go_wp2_with fail
          go_roundw
          case rel => exact ⟨k + 1, by omega, by go_num, hH2, hB2, hb2, HNK⟩
          case measure => simp [intOf]; omega
      · have d2 : decide (0 < c.life) = false := decide_eq_false h2
        have HN := Lib.hid (MIS.out (.inr (.inl (by omega))))
        have HNK := Lib.hid (HK.out.trans HN.out)
        clear HIT MIS h1 h2 HK HN
        refine wp_region_tailV 23 (by kernel_rfl) (by kernel_rfl) ?_
        intro OPS HOPS
        have g3 : Hid ((OPS[3]?).bind (·.dst) = some 19) := Lib.hid (by rw [HOPS.out]; kernel_rfl)
        have g14 : Hid ((OPS[14]?).bind (·.dst) = some 30) := Lib.hid (by rw [HOPS.out]; kernel_rfl)
        simp only [List.take_succ_cons, List.take_zero, List.drop_succ_cons, List.drop_zero]
        still_step
        still_step
        still_step
        still_step
        refine wpStill_wantG 3 19 true true rfl g3.out rfl rfl (fun K hK => ?_)
        go_simp
        refine hK _ ?_
        clear hK K
        refine wpStill_wantG 3 19 true true rfl g3.out rfl rfl (fun K hK => ?_)
        go_simp
        refine hK _ ?_
        clear hK K
        refine wpStill_wantG 3 19 true true rfl g3.out rfl rfl (fun K hK => ?_)
        go_simp
        refine hK _ ?_
        clear hK K
        refine wpStill_wantG 3 19 true true rfl g3.out rfl rfl (fun K hK => ?_)
        go_simp
        refine hK _ ?_
        clear hK K
        refine wpStill_wantG 3 19 true true rfl g3.out rfl rfl (fun K hK => ?_)
        go_simp
        refine hK _ ?_
        clear hK K
        refine wpStill_wantG 3 19 true true rfl g3.out rfl rfl (fun K hK => ?_)
        go_simp
        refine hK _ ?_
        clear hK K
        refine wpStill_wantG 3 19 true true rfl g3.out rfl rfl (fun K hK => ?_)
        go_simp
        refine hK _ ?_
        clear hK K
        refine wpStill_wantG 3 19 true true rfl g3.out rfl rfl (fun K hK => ?_)
        go_simp
        refine hK _ ?_
        clear hK K
        refine wpStill_wantG 3 19 true true rfl g3.out rfl rfl (fun K hK => ?_)
        go_simp
        refine hK _ ?_
        clear hK K
        still_step
        still_step
        refine wpStill_skip ((wanted_of (j := 14) (d := 30) (b := true) (v := false) rfl g14.out rfl).trans rfl) ?_
        simp only [Act.put, List.setIfInBounds_toArray, List.set_cons_zero, List.set_cons_succ]
        refine wpStill_skip ((wanted_of (j := 14) (d := 30) (b := true) (v := false) rfl g14.out rfl).trans rfl) ?_
        simp only [Act.put, List.setIfInBounds_toArray, List.set_cons_zero, List.set_cons_succ]
        refine wpStill_skip ((wanted_of (j := 14) (d := 30) (b := true) (v := false) rfl g14.out rfl).trans rfl) ?_
        simp only [Act.put, List.setIfInBounds_toArray, List.set_cons_zero, List.set_cons_succ]
        refine wpStill_skip ((wanted_of (j := 14) (d := 30) (b := true) (v := false) rfl g14.out rfl).trans rfl) ?_
        simp only [Act.put, List.setIfInBounds_toArray, List.set_cons_zero, List.set_cons_succ]
        refine wpStill_skip ((wanted_of (j := 14) (d := 30) (b := true) (v := false) rfl g14.out rfl).trans rfl) ?_
        simp only [Act.put, List.setIfInBounds_toArray, List.set_cons_zero, List.set_cons_succ]
        refine wpStill_skip ((wanted_of (j := 14) (d := 30) (b := true) (v := false) rfl g14.out rfl).trans rfl) ?_
        simp only [Act.put, List.setIfInBounds_toArray, List.set_cons_zero, List.set_cons_succ]
        refine wpStill_skip ((wanted_of (j := 14) (d := 30) (b := true) (v := false) rfl g14.out rfl).trans rfl) ?_
        simp only [Act.put, List.setIfInBounds_toArray, List.set_cons_zero, List.set_cons_succ]
        refine wpStill_skip ((wanted_of (j := 14) (d := 30) (b := true) (v := false) rfl g14.out rfl).trans rfl) ?_
        simp only [Act.put, List.setIfInBounds_toArray, List.set_cons_zero, List.set_cons_succ]
        refine wpStill_nil ?_
        change wpList _ _ _ _ _ wr.drew
        have hHd := hH.drew
        have hBd := hBk.drew
        have hbd := hb.drew
        clear hH hBk hb q4d e7d r0d rbd d1 d2
        go_wp2_with fail
        go_roundw
        case rel => exact ⟨k + 1, by omega, by go_num, hHd, hBd, hbd, HNK⟩
        case measure => simp [intOf]; omega
    · obtain rfl : k = n := by omega
      have HF := Lib.hid (HK.out.trans HEND.out)
      go_wp2_with fail
      go_ret
      exact ⟨by rw [HF.out]; rfl, hb⟩
set_option maxRecDepth 100000 in
set_option maxHeartbeats 8000000 in
theorem met_spec {x xs xb : Value} {X : Wd} {B G : Nat} (b : Bd) (but : Int) (w : World) (h : Hd w B G x xs xb X) (hn : X.scores.length ≤ X.bodies.length) (hm : X.bodies.length ≤ 1000) :
    Calls Try.prog 143 #[.pointer (some ⟨G, 0, none⟩), b.val, .int .i64 but] w fun e w' => e = .returned (.int .i64 (metT (X.bodies.take X.scores.length) b but)) ∧ Below w.heap.size w w' := by
  have hpl : (X.bodies.take X.scores.length).length = X.scores.length := by rw [List.length_take]; omega
  have HHIT := fun k (hk : k < X.scores.length) => Lib.hid (metGo_hit (pl := X.bodies.take X.scores.length) (b := b) (but := but) (k := k) (by omega))
  have HMIS := fun k (hk : k < X.scores.length) => Lib.hid (metGo_miss (pl := X.bodies.take X.scores.length) (b := b) (but := but) (k := k) (by omega))
  have HAT := fun k (hk : k < X.scores.length) => Lib.hid (take_at (l := X.bodies) hk)
  have HM0 : Hid (metT (X.bodies.take X.scores.length) b but = metGo (X.bodies.take X.scores.length) b but (X.scores.length - 0)) := Lib.hid (by unfold metT; rw [hpl, Nat.sub_zero])
  have HEND : Hid (metGo (X.bodies.take X.scores.length) b but (X.scores.length - X.scores.length) = -1) := Lib.hid (by rw [Nat.sub_self]; rfl)
  rw [hpl] at HHIT HMIS
  clear hpl
  obtain ⟨so, scap, hxs, hcs⟩ := h.own.s.at_.cell
  clear hcs
  generalize hn0 : X.scores.length = n at *
  have Hn0 := Lib.hid hn0
  clear hn0
  generalize X.bodies.take n = pl at *
  generalize hMT : metT pl b but = MT at *
  have HMT := Lib.hid hMT
  clear hMT
  go_enter Try.func143, Try.ntmps143
  go_upto_region 1 with (with_reducible refine box_bod (op := ⟨some 4, _, _, _, _, _⟩) rfl _ _ rfl b rfl ?_)
  have hBk := Blk.newB w 42 b
  have hk0 : Below w.heap.size w (w.alloc (.cells b.cells.toArray 42)) := (Below.refl _ _).alloc (Nat.le_refl _) _
  generalize World.alloc w _ = w1 at hBk hk0
  have hH := h.below hk0
  subst hxs
  have q3 := hH.blk.c3
  go_wp2_with fail
  go_loopw [7] (fun i wr => ∃ k : Nat, k ≤ n ∧ i = .int .i64 k ∧ Hd wr B G x (.slice so n scap) xb X ∧ Blk wr w.heap.size b ∧ Below w.heap.size w wr ∧ Hid (MT = metGo pl b but (n - k))) (fun i _ => n - (intOf i).toNat)
  case atStart => exact ⟨0, Nat.zero_le _, rfl, hH, hBk, hk0, Lib.hid HM0.out⟩
  case round =>
    clear hH hBk hk0 q3 h HM0
    obtain ⟨k, hk, rfl, hH, hBk, hb, HK⟩ := hrel
    have q3 := hH.blk.c3
    by_cases hlt : k < n
    · have HIT := HHIT k hlt
      have MIS := HMIS k hlt
      have AT := HAT k hlt
      clear HHIT HMIS HAT
      have hlb : k < X.bodies.length := by omega
      obtain ⟨gb, cap, hxb, hgb⟩ := hH.formB (by omega)
      subst hxb
      have hE := hH.own.b.elem hlb
      rw [← AT.out] at hE
      obtain ⟨c, hc⟩ : ∃ c, bAt pl k = c := ⟨_, rfl⟩
      rw [hc] at hE HIT MIS
      have e7 := hE.c7
      have r0 := hE.range
      have rb := hBk.range
      have q4 := hH.blk.c4
      clear hc AT
      have b1 : (0 : Int) ≤ (k : Int) := by omega
      have b2 : (k : Int) < (X.bodies.length : Int) := by omega
      go_upto_region 4 with (fail)
      have q4d : wr.drew.cell? ⟨G, 4, none⟩ = some (.slice (some ⟨gb, 0, none⟩) X.bodies.length cap) := q4
      have e7d : wr.drew.cell? ⟨gb, k * 9 + 7, none⟩ = some (.int .i64 c.life) := e7
      have r0d : wr.drew.rangeAt gb (k * 9) c.cells := r0
      have rbd : wr.drew.rangeAt w.heap.size 0 b.cells := rb
      clear q4 e7 r0 rb q3
      by_cases h1 : (k : Int) = but
      · have d1 : ((k : Int) != but) = false := by simp [h1]
        have HN := Lib.hid (MIS.out (.inl h1))
        have b2' := Lib.hid b2
        clear h1 hlb b2
        refine wp_region_tailV 23 (by kernel_rfl) (by kernel_rfl) ?_
        intro OPS HOPS
        have g3 : Hid ((OPS[3]?).bind (·.dst) = some 20) := Lib.hid (by rw [HOPS.out]; kernel_rfl)
        have g14 : Hid ((OPS[14]?).bind (·.dst) = some 31) := Lib.hid (by rw [HOPS.out]; kernel_rfl)
        simp only [List.take_succ_cons, List.take_zero, List.drop_succ_cons, List.drop_zero]
        still_step
        still_step
        still_step
        still_step
        refine wpStill_skip ((wanted_of (j := 3) (d := 20) (b := true) (v := false) rfl g3.out rfl).trans rfl) ?_
        simp only [Act.put, List.setIfInBounds_toArray, List.set_cons_zero, List.set_cons_succ]
        refine wpStill_skip ((wanted_of (j := 3) (d := 20) (b := true) (v := false) rfl g3.out rfl).trans rfl) ?_
        simp only [Act.put, List.setIfInBounds_toArray, List.set_cons_zero, List.set_cons_succ]
        refine wpStill_skip ((wanted_of (j := 3) (d := 20) (b := true) (v := false) rfl g3.out rfl).trans rfl) ?_
        simp only [Act.put, List.setIfInBounds_toArray, List.set_cons_zero, List.set_cons_succ]
        refine wpStill_skip ((wanted_of (j := 3) (d := 20) (b := true) (v := false) rfl g3.out rfl).trans rfl) ?_
        simp only [Act.put, List.setIfInBounds_toArray, List.set_cons_zero, List.set_cons_succ]
        refine wpStill_skip ((wanted_of (j := 3) (d := 20) (b := true) (v := false) rfl g3.out rfl).trans rfl) ?_
        simp only [Act.put, List.setIfInBounds_toArray, List.set_cons_zero, List.set_cons_succ]
        refine wpStill_skip ((wanted_of (j := 3) (d := 20) (b := true) (v := false) rfl g3.out rfl).trans rfl) ?_
        simp only [Act.put, List.setIfInBounds_toArray, List.set_cons_zero, List.set_cons_succ]
        refine wpStill_skip ((wanted_of (j := 3) (d := 20) (b := true) (v := false) rfl g3.out rfl).trans rfl) ?_
        simp only [Act.put, List.setIfInBounds_toArray, List.set_cons_zero, List.set_cons_succ]
        refine wpStill_skip ((wanted_of (j := 3) (d := 20) (b := true) (v := false) rfl g3.out rfl).trans rfl) ?_
        simp only [Act.put, List.setIfInBounds_toArray, List.set_cons_zero, List.set_cons_succ]
        refine wpStill_skip ((wanted_of (j := 3) (d := 20) (b := true) (v := false) rfl g3.out rfl).trans rfl) ?_
        simp only [Act.put, List.setIfInBounds_toArray, List.set_cons_zero, List.set_cons_succ]
        still_step
        still_step
        refine wpStill_skip ((wanted_of (j := 14) (d := 31) (b := true) (v := false) rfl g14.out rfl).trans rfl) ?_
        simp only [Act.put, List.setIfInBounds_toArray, List.set_cons_zero, List.set_cons_succ]
        refine wpStill_skip ((wanted_of (j := 14) (d := 31) (b := true) (v := false) rfl g14.out rfl).trans rfl) ?_
        simp only [Act.put, List.setIfInBounds_toArray, List.set_cons_zero, List.set_cons_succ]
        refine wpStill_skip ((wanted_of (j := 14) (d := 31) (b := true) (v := false) rfl g14.out rfl).trans rfl) ?_
        simp only [Act.put, List.setIfInBounds_toArray, List.set_cons_zero, List.set_cons_succ]
        refine wpStill_skip ((wanted_of (j := 14) (d := 31) (b := true) (v := false) rfl g14.out rfl).trans rfl) ?_
        simp only [Act.put, List.setIfInBounds_toArray, List.set_cons_zero, List.set_cons_succ]
        refine wpStill_skip ((wanted_of (j := 14) (d := 31) (b := true) (v := false) rfl g14.out rfl).trans rfl) ?_
        simp only [Act.put, List.setIfInBounds_toArray, List.set_cons_zero, List.set_cons_succ]
        refine wpStill_skip ((wanted_of (j := 14) (d := 31) (b := true) (v := false) rfl g14.out rfl).trans rfl) ?_
        simp only [Act.put, List.setIfInBounds_toArray, List.set_cons_zero, List.set_cons_succ]
        refine wpStill_skip ((wanted_of (j := 14) (d := 31) (b := true) (v := false) rfl g14.out rfl).trans rfl) ?_
        simp only [Act.put, List.setIfInBounds_toArray, List.set_cons_zero, List.set_cons_succ]
        refine wpStill_skip ((wanted_of (j := 14) (d := 31) (b := true) (v := false) rfl g14.out rfl).trans rfl) ?_
        simp only [Act.put, List.setIfInBounds_toArray, List.set_cons_zero, List.set_cons_succ]
        refine wpStill_nil ?_
        change wpList _ _ _ _ _ wr.drew
        have hHd := hH.drew
        have hBd := hBk.drew
        have hbd := hb.drew
        have HNK := Lib.hid (HK.out.trans HN.out)
        clear hH hBk hb HK HN q4d e7d r0d rbd d1
        go_wp2_with fail
        go_roundw
        case rel => exact ⟨k + 1, by omega, by go_num, hHd, hBd, hbd, HNK⟩
        case measure => simp [intOf]; omega
      have d1 : ((k : Int) != but) = true := by simp [h1]
      by_cases h2 : 0 < c.life
      · have d2 : decide (0 < c.life) = true := decide_eq_true h2
        have HIT2 := HIT
        clear HIT
        refine wp_region_tailV 23 (by kernel_rfl) (by kernel_rfl) ?_
        intro OPS HOPS
        have g3 : Hid ((OPS[3]?).bind (·.dst) = some 20) := Lib.hid (by rw [HOPS.out]; kernel_rfl)
        have g14 : Hid ((OPS[14]?).bind (·.dst) = some 31) := Lib.hid (by rw [HOPS.out]; kernel_rfl)
        simp only [List.take_succ_cons, List.take_zero, List.drop_succ_cons, List.drop_zero]
        still_step
        still_step
        still_step
        still_step
        refine wpStill_wantG 3 20 true true rfl g3.out rfl rfl (fun K hK => ?_)
        go_simp
        refine hK _ ?_
        clear hK K
        refine wpStill_wantG 3 20 true true rfl g3.out rfl rfl (fun K hK => ?_)
        go_simp
        refine hK _ ?_
        clear hK K
        refine wpStill_wantG 3 20 true true rfl g3.out rfl rfl (fun K hK => ?_)
        go_simp
        refine hK _ ?_
        clear hK K
        refine wpStill_wantG 3 20 true true rfl g3.out rfl rfl (fun K hK => ?_)
        go_simp
        refine hK _ ?_
        clear hK K
        refine wpStill_wantG 3 20 true true rfl g3.out rfl rfl (fun K hK => ?_)
        go_simp
        refine hK _ ?_
        clear hK K
        refine wpStill_wantG 3 20 true true rfl g3.out rfl rfl (fun K hK => ?_)
        go_simp
        refine hK _ ?_
        clear hK K
        refine wpStill_wantG 3 20 true true rfl g3.out rfl rfl (fun K hK => ?_)
        go_simp
        refine hK _ ?_
        clear hK K
        refine wpStill_wantG 3 20 true true rfl g3.out rfl rfl (fun K hK => ?_)
        go_simp
        refine hK _ ?_
        clear hK K
        refine wpStill_wantG 3 20 true true rfl g3.out rfl rfl (fun K hK => ?_)
        go_simp
        refine hK _ ?_
        clear hK K
        still_step
        still_step
        refine wpStill_wantG 14 31 true true rfl g14.out rfl rfl (fun K hK => ?_)
        go_simp
        refine hK _ ?_
        clear hK K
        refine wpStill_wantG 14 31 true true rfl g14.out rfl rfl (fun K hK => ?_)
        go_simp
        refine hK _ ?_
        clear hK K
        refine wpStill_wantG 14 31 true true rfl g14.out rfl rfl (fun K hK => ?_)
        go_simp
        refine hK _ ?_
        clear hK K
        refine wpStill_wantG 14 31 true true rfl g14.out rfl rfl (fun K hK => ?_)
        go_simp
        refine hK _ ?_
        clear hK K
        refine wpStill_wantG 14 31 true true rfl g14.out rfl rfl (fun K hK => ?_)
        go_simp
        refine hK _ ?_
        clear hK K
        refine wpStill_wantG 14 31 true true rfl g14.out rfl rfl (fun K hK => ?_)
        go_simp
        refine hK _ ?_
        clear hK K
        refine still_bodG (op := ⟨some 38, _, _, _, _, _⟩) 14 31 true true rfl g14.out rfl rfl _ rfl gb (k * 9) rfl c r0d ?_
        simp only [Act.put, List.setIfInBounds_toArray, List.set_cons_zero, List.set_cons_succ]
        refine still_bodG (op := ⟨some 39, _, _, _, _, _⟩) 14 31 true true rfl g14.out rfl rfl _ rfl w.heap.size 0 rfl b rbd ?_
        simp only [Act.put, List.setIfInBounds_toArray, List.set_cons_zero, List.set_cons_succ]
        refine wpStill_nil ?_
        change wpList _ _ _ _ _ wr.drew
        have hHd := hH.drew
        have hBd := hBk.drew
        have hbd := hb.drew
        clear hH hBk hb q4d e7d r0d rbd d1 d2
        go_wp2_with fail
        refine (meetV_spec c b wr.drew).mono ?_
        rintro e wf ⟨rfl, hk2⟩
        have hH2 := hHd.below hk2
        have hB2 := hBd.below hk2 hBd.lt
        have hb2 := hbd.trans (hk2.mono hbd.size)
        clear hHd hBd hbd hk2
        cases hmt : meetB c b with
        | true =>
          have HF := Lib.hid (HIT2.out h1 h2 hmt)
          have HNK := Lib.hid (HK.out.trans HF.out)
          clear hmt h1 h2 HIT2 MIS
          go_wp2_with fail
          go_ret
          exact ⟨by rw [HNK.out]; rfl, hb2⟩
        | false =>
          have HN := Lib.hid (MIS.out (.inr (.inr hmt)))
          have HNK := Lib.hid (HK.out.trans HN.out)
          clear hmt h1 h2 HIT2 MIS HK HN
          go_wp2_with fail
          go_roundw
          case rel => exact ⟨k + 1, by omega, by go_num, hH2, hB2, hb2, HNK⟩
          case measure => simp [intOf]; omega
      · have d2 : decide (0 < c.life) = false := decide_eq_false h2
        have HN := Lib.hid (MIS.out (.inr (.inl (by omega))))
        have HNK := Lib.hid (HK.out.trans HN.out)
        clear HIT MIS h1 h2 HK HN
        refine wp_region_tailV 23 (by kernel_rfl) (by kernel_rfl) ?_
        intro OPS HOPS
        have g3 : Hid ((OPS[3]?).bind (·.dst) = some 20) := Lib.hid (by rw [HOPS.out]; kernel_rfl)
        have g14 : Hid ((OPS[14]?).bind (·.dst) = some 31) := Lib.hid (by rw [HOPS.out]; kernel_rfl)
        simp only [List.take_succ_cons, List.take_zero, List.drop_succ_cons, List.drop_zero]
        still_step
        still_step
        still_step
        still_step
        refine wpStill_wantG 3 20 true true rfl g3.out rfl rfl (fun K hK => ?_)
        go_simp
        refine hK _ ?_
        clear hK K
        refine wpStill_wantG 3 20 true true rfl g3.out rfl rfl (fun K hK => ?_)
        go_simp
        refine hK _ ?_
        clear hK K
        refine wpStill_wantG 3 20 true true rfl g3.out rfl rfl (fun K hK => ?_)
        go_simp
        refine hK _ ?_
        clear hK K
        refine wpStill_wantG 3 20 true true rfl g3.out rfl rfl (fun K hK => ?_)
        go_simp
        refine hK _ ?_
        clear hK K
        refine wpStill_wantG 3 20 true true rfl g3.out rfl rfl (fun K hK => ?_)
        go_simp
        refine hK _ ?_
        clear hK K
        refine wpStill_wantG 3 20 true true rfl g3.out rfl rfl (fun K hK => ?_)
        go_simp
        refine hK _ ?_
        clear hK K
        refine wpStill_wantG 3 20 true true rfl g3.out rfl rfl (fun K hK => ?_)
        go_simp
        refine hK _ ?_
        clear hK K
        refine wpStill_wantG 3 20 true true rfl g3.out rfl rfl (fun K hK => ?_)
        go_simp
        refine hK _ ?_
        clear hK K
        refine wpStill_wantG 3 20 true true rfl g3.out rfl rfl (fun K hK => ?_)
        go_simp
        refine hK _ ?_
        clear hK K
        still_step
        still_step
        refine wpStill_skip ((wanted_of (j := 14) (d := 31) (b := true) (v := false) rfl g14.out rfl).trans rfl) ?_
        simp only [Act.put, List.setIfInBounds_toArray, List.set_cons_zero, List.set_cons_succ]
        refine wpStill_skip ((wanted_of (j := 14) (d := 31) (b := true) (v := false) rfl g14.out rfl).trans rfl) ?_
        simp only [Act.put, List.setIfInBounds_toArray, List.set_cons_zero, List.set_cons_succ]
        refine wpStill_skip ((wanted_of (j := 14) (d := 31) (b := true) (v := false) rfl g14.out rfl).trans rfl) ?_
        simp only [Act.put, List.setIfInBounds_toArray, List.set_cons_zero, List.set_cons_succ]
        refine wpStill_skip ((wanted_of (j := 14) (d := 31) (b := true) (v := false) rfl g14.out rfl).trans rfl) ?_
        simp only [Act.put, List.setIfInBounds_toArray, List.set_cons_zero, List.set_cons_succ]
        refine wpStill_skip ((wanted_of (j := 14) (d := 31) (b := true) (v := false) rfl g14.out rfl).trans rfl) ?_
        simp only [Act.put, List.setIfInBounds_toArray, List.set_cons_zero, List.set_cons_succ]
        refine wpStill_skip ((wanted_of (j := 14) (d := 31) (b := true) (v := false) rfl g14.out rfl).trans rfl) ?_
        simp only [Act.put, List.setIfInBounds_toArray, List.set_cons_zero, List.set_cons_succ]
        refine wpStill_skip ((wanted_of (j := 14) (d := 31) (b := true) (v := false) rfl g14.out rfl).trans rfl) ?_
        simp only [Act.put, List.setIfInBounds_toArray, List.set_cons_zero, List.set_cons_succ]
        refine wpStill_skip ((wanted_of (j := 14) (d := 31) (b := true) (v := false) rfl g14.out rfl).trans rfl) ?_
        simp only [Act.put, List.setIfInBounds_toArray, List.set_cons_zero, List.set_cons_succ]
        refine wpStill_nil ?_
        change wpList _ _ _ _ _ wr.drew
        have hHd := hH.drew
        have hBd := hBk.drew
        have hbd := hb.drew
        clear hH hBk hb q4d e7d r0d rbd d1 d2
        go_wp2_with fail
        go_roundw
        case rel => exact ⟨k + 1, by omega, by go_num, hHd, hBd, hbd, HNK⟩
        case measure => simp [intOf]; omega
    · obtain rfl : k = n := by omega
      have HF := Lib.hid (HK.out.trans HEND.out)
      go_wp2_with fail
      go_ret
      exact ⟨by rw [HF.out]; rfl, hb⟩
end Go.Proofs.Ytmamihkcikgmcaa
/- addScore and l02Point: a score goes up by one, to at most 1000000; rowOk and l02RowOk. -/
namespace Go.Proofs.Ytmamihkcikgmcaa
open Go.RowKit

theorem score_cell {w : World} {B G : Nat} {x xs xb : Value} {X : Wd} (h : Hd w B G x xs xb X) {g n cap k : Nat} (hxs : xs = .slice (some ⟨g, 0, none⟩) n cap) (hk : k < X.scores.length) : w.cell? ⟨g, k, none⟩ = some (.int .i64 (iAt X.scores k)) ∧ w.frozen? ⟨g, k, none⟩ = false := by
  subst hxs
  have hn : n = X.scores.length := by
    obtain ⟨_, ao, c, e, _⟩ := h.own.s.at_
    simp only [Value.slice.injEq] at e
    exact e.2.1
  subst hn
  refine ⟨?_, h.own.s.free k (by omega)⟩
  rw [h.own.s.cell (by omega), List.getElem?_map, List.getElem?_eq_getElem hk, iAt_eq hk]
  rfl
theorem addT_lt {sc : List Int} {k : Nat} (h : iAt sc k < 1000000) : sc.set k (iAt sc k + 1) = addT sc k := by
  unfold addT
  rw [Int.toNat_natCast, Int.min_eq_left (by omega)]
theorem addT_ge {sc : List Int} {k : Nat} (hk : k < sc.length) (h : iAt sc k = 1000000) : sc = addT sc k := by
  unfold addT
  rw [Int.toNat_natCast, Int.min_eq_right (by omega)]
  rw [← h, iAt_eq hk, List.set_getElem_self]
theorem addT_ge2 {sc : List Int} {k : Nat} (h : iAt sc k = 1000000) : sc.set k 1000000 = addT sc k := by
  unfold addT
  rw [Int.toNat_natCast, Int.min_eq_right (by omega)]
set_option maxRecDepth 100000 in
set_option maxHeartbeats 2000000 in
theorem addscore_impl {x xs xb : Value} {X : Wd} {B G : Nat} (k : Nat) (w : World) (h : Hd w B G x xs xb X) (hk : k < X.scores.length) (hs : 0 ≤ iAt X.scores k ∧ iAt X.scores k ≤ 1000000) (hm : X.scores.length ≤ 1000) :
    Calls Try.prog 119 #[.pointer (some ⟨G, 0, none⟩), .int .i64 (k : Int)] w fun e w' => e = .returned (.tuple #[]) ∧ Hd w' B G x xs xb { X with scores := addT X.scores k } ∧ Tch (fun i => xs.ownBlock = some i) w w' := by
  obtain ⟨g, cap, hxs, hg⟩ := h.formS (by omega)
  obtain ⟨hc, hf⟩ := score_cell h hxs hk
  subst hxs
  have HLT := Lib.hid (addT_lt (sc := X.scores) (k := k))
  have HGE := Lib.hid (addT_ge (sc := X.scores) hk)
  have HS := fun z => h.elemS hk z
  have q3 := h.blk.c3
  have b1 : (0 : Int) ≤ (k : Int) := by omega
  have b2 : (k : Int) < (X.scores.length : Int) := by omega
  generalize hz : iAt X.scores k = z at *
  have Hz := Lib.hid hz
  clear hz
  by_cases hlt : z < 1000000
  · have hq := HS (z + 1)
    rw [HLT.out hlt] at hq
    clear HS HLT HGE
    go_enter Try.func119, Try.ntmps119
    go_wp2_with ((with_reducible refine store_cell (o := ⟨none, _, _, _, _, _⟩) rfl _ _ _ rfl g k rfl (.int .i64 (z + 1)) rfl rfl size_int hc hf ?_); generalize World.setCell _ _ _ = wz at hq)
    exact Great.bodyPost_end0 rfl rfl ⟨rfl, hq.1, Tch.of_grown1 hq.2 rfl⟩
  · have he := HGE.out (by omega)
    rw [← he]
    have he' := Lib.hid he
    clear he HS HLT HGE
    go_enter Try.func119, Try.ntmps119
    go_wp2_with fail
    exact Great.bodyPost_end0 rfl rfl ⟨rfl, h, Tch.refl _ _⟩
set_option maxRecDepth 100000 in
set_option maxHeartbeats 2000000 in
theorem point_spec {x xs xb : Value} {X : Wd} {B G : Nat} (k : Nat) (w : World) (h : Hd w B G x xs xb X) (hk : k < X.scores.length) (hs : 0 ≤ iAt X.scores k ∧ iAt X.scores k ≤ 1000000) (hm : X.scores.length ≤ 1000) :
    Calls Try.prog 144 #[.pointer (some ⟨G, 0, none⟩), .int .i64 (k : Int)] w fun e w' => e = .returned (.tuple #[]) ∧ Hd w' B G x xs xb { X with scores := addT X.scores k } ∧ Tch (fun i => xs.ownBlock = some i) w w' := by
  obtain ⟨g, cap, hxs, hg⟩ := h.formS (by omega)
  obtain ⟨hc, hf⟩ := score_cell h hxs hk
  subst hxs
  have HLT := Lib.hid (addT_lt (sc := X.scores) (k := k))
  have HGE := Lib.hid (addT_ge2 (sc := X.scores) (k := k))
  have HS := fun z => h.drew.elemS hk z
  have q3 : w.drew.cell? ⟨G, 3, none⟩ = some (.slice (some ⟨g, 0, none⟩) X.scores.length cap) := h.blk.c3
  have hcd : w.drew.cell? ⟨g, k, none⟩ = some (.int .i64 (iAt X.scores k)) := hc
  have hfd : w.drew.frozen? ⟨g, k, none⟩ = false := hf
  have b1 : (0 : Int) ≤ (k : Int) := by omega
  have b2 : (k : Int) < (X.scores.length : Int) := by omega
  generalize hz : iAt X.scores k = z at *
  have Hz := Lib.hid hz
  clear hz hc hf
  obtain ⟨v, hv, hv2⟩ : ∃ v : Int, (min (z + 1) 1000000 = v) ∧ X.scores.set k v = addT X.scores k := by
    by_cases hlt : z < 1000000
    · exact ⟨z + 1, Int.min_eq_left (by omega), HLT.out hlt⟩
    · exact ⟨1000000, Int.min_eq_right (by omega), HGE.out (by omega)⟩
  have hq := HS v
  rw [hv2] at hq
  clear HS HLT HGE hv2
  have hwz : IntKind.i64.wrap (z + 1) = z + 1 := IntWalk.i64_in _ (by omega)
  go_enter Try.func144, Try.ntmps144
  go_upto_region 0 with (fail)
  refine wp_region_tailV 15 (by kernel_rfl) (by kernel_rfl) ?_
  intro OPS HOPS
  simp only [List.take_succ_cons, List.take_zero, List.drop_succ_cons, List.drop_zero]
  repeat still_step
  refine wpStill_nil ?_
  change wpList _ _ _ _ _ w.drew
  clear hwz hv
  refine store_cell (o := ⟨none, _, _, _, _, _⟩) rfl _ _ _ rfl g k rfl (.int .i64 v) rfl rfl size_int hcd hfd ?_
  generalize World.setCell _ _ _ = wz at hq
  go_wp2_with fail
  exact Great.bodyPost_end0 rfl rfl ⟨rfl, hq.1, (Tch.of_below (Below.refl _ _).drew).trans (Tch.of_grown1 hq.2 rfl)⟩
set_option maxHeartbeats 1000000 in
theorem rowok_impl {v : Value} {l : List Int} (n : Nat) (w : World) (h : At w 1 v l.length (l.map (Value.int .i64))) (hm : l.length ≤ 1048576) (hn : n ≤ 1048576) :
    Calls Try.prog 81 #[v, .int .i64 (n : Int)] w fun e w' => e = .returned (.bool (rowOk l n)) ∧ w = w' := by
  have HI := fun wx hx => inputs_impl (v := v) (l := l) wx hx (by omega)
  have he : okIn l = l.all fun x => inB x 0 15 := rfl
  have HY : ∀ b, okIn l = b → l.length = n → rowOk l n = b := fun b hb hl => by unfold rowOk; rw [decide_eq_true hl, Bool.true_and, ← he]; exact hb
  have HN : l.length ≠ n → rowOk l n = false := fun hl => by unfold rowOk; rw [decide_eq_false hl, Bool.false_and]
  have HYY := Lib.hid HY
  have HNN := Lib.hid HN
  clear he HY HN
  have h0 := h
  obtain ⟨ao, cap, rfl, _⟩ := h.cell
  by_cases hl : l.length = n
  · have HB0 := Lib.hid (HYY.out _ rfl hl)
    clear HYY HNN
    subst hl
    go_enter Try.func81, Try.ntmps81
    go_wp2_with fail
    refine (HI _ h0).mono ?_
    rintro e wx ⟨rfl, rfl⟩
    generalize okIn l = b at *
    go_wp2_with fail
    go_ret
    exact ⟨by rw [HB0.out]; rfl, rfl⟩
  · have x1 : ((l.length : Int) == (n : Int)) = false := by simp; omega
    have HB := Lib.hid (HNN.out hl)
    clear hl
    go_enter Try.func81, Try.ntmps81
    go_wp2_with fail
    go_ret
    exact ⟨by first | (rw [HB.out]; rfl) | rw [HB.out], rfl⟩
theorem allR_succ {l : List Int} {k : Nat} (hk : k < l.length) : (l.take (k + 1)).all (fun x => inB x 0 15) = ((l.take k).all (fun x => inB x 0 15) && inB (iAt l k) 0 15) := by
  rw [List.take_add_one, List.getElem?_eq_getElem hk, List.all_append, iAt_eq hk]; simp
theorem all_not {l : List Int} {k : Nat} (hk : k < l.length) (h : inB (iAt l k) 0 15 = false) : (l.all fun x => inB x 0 15) = false := by
  rw [List.all_eq_false]
  exact ⟨l[k], List.getElem_mem hk, by rw [← iAt_eq hk, h]; simp⟩
set_option maxHeartbeats 2000000 in
theorem rowok_spec {v : Value} {l : List Int} (n : Nat) (w : World) (h : At w 1 v l.length (l.map (Value.int .i64))) (hm : l.length ≤ 1048576) (_hn : n ≤ 1048576) :
    Calls Try.prog 101 #[v, .int .i64 (n : Int)] w fun e w' => e = .returned (.bool (rowOk l n)) ∧ w = w' := by
  have HS := Lib.hid (fun k (hk : k < l.length) => allR_succ hk)
  have HBAD : Hid (∀ k (hk : k < l.length), inB (iAt l k) 0 15 = false → rowOk l n = false) := Lib.hid (fun k hk hb => by unfold rowOk; rw [all_not hk hb, Bool.and_false])
  have HALL : Hid ((l.take l.length).all (fun x => inB x 0 15) = true → rowOk l n = decide (l.length = n)) := Lib.hid (fun hb => by rw [List.take_length] at hb; unfold rowOk; rw [hb, Bool.and_true])
  have HAT : Hid (∀ k (hk : k < l.length), l[k] = iAt l k) := Lib.hid (fun k hk => (iAt_eq hk).symm)
  obtain ⟨ao, cap, rfl, hc⟩ := h.cell
  go_enter Try.func101, Try.ntmps101
  go_wp2_with fail
  go_loop [5] (fun i => ∃ k : Nat, k ≤ l.length ∧ i = .int .i64 k ∧ Hid ((l.take k).all (fun x => inB x 0 15) = true)) (fun i => l.length - (intOf i).toNat)
  case atStart => exact ⟨0, Nat.zero_le _, rfl, Lib.hid (by simp)⟩
  case round =>
    obtain ⟨k, hk, rfl, HK⟩ := hrel
    by_cases hlt : k < l.length
    · obtain ⟨g, off, rfl, hg, hcell⟩ := hc (by omega)
      have ck := hcell k hlt
      rw [HAT.out k hlt] at ck
      have b1 : (0 : Int) ≤ (k : Int) := by omega
      have b2 : (k : Int) < (l.length : Int) := by omega
      clear hcell hc
      have HSK := Lib.hid (HS.out k hlt)
      have HBK := Lib.hid (HBAD.out k hlt)
      clear HS HBAD HAT
      generalize iAt l k = z at *
      go_wp2_with fail
      refine (in_any _ _ _ _).mono ?_
      rintro e wx ⟨rfl, rfl⟩
      cases hb : inB z 0 15 with
      | false =>
        have HB := Lib.hid (HBK.out hb)
        clear hb
        go_wp2_with fail
        go_ret
        exact ⟨by first | (rw [HB.out]; rfl) | rw [HB.out], rfl⟩
      | true =>
        have HB := Lib.hid (HSK.out.trans (by rw [HK.out, hb]))
        clear hb HSK HBK HK
        go_wp2_with fail
        go_round
        case rel => exact ⟨k + 1, by omega, by go_num, HB⟩
        case measure => simp [intOf]; omega
    · obtain rfl : k = l.length := by omega
      have HB := Lib.hid (HALL.out HK.out)
      clear hc HS HBAD HAT HALL HK
      go_wp2_with fail
      go_ret
      refine ⟨?_, rfl⟩
      rw [HB.out]
      show Ending.returned (.bool ((l.length : Int) == (n : Int))) = _
      have e : ((l.length : Int) == (n : Int)) = decide (l.length = n) := by rw [Bool.eq_iff_iff]; simp; omega
      rw [e]
end Go.Proofs.Ytmamihkcikgmcaa
/- RandomBelow: the program's and the reference's return the same two plain functions of their arguments. -/
namespace Go.Proofs.Ytmamihkcikgmcaa
open Go.RowKit

def rndOk (s n : Int) : Prop := 0 ≤ s ∧ s ≤ 65535 ∧ 1 ≤ n ∧ n ≤ 4096
instance (s n : Int) : Decidable (rndOk s n) := by unfold rndOk; infer_instance
def rnd1 (s n : Int) : Int := if rndOk s n then nextR s else 0
def rnd2 (s n : Int) : Int := if rndOk s n then nextR s / 16 % n else 0

theorem rnd_impl (s n : Int) (w : World) :
    Calls Try.prog 88 #[.int .i64 s, .int .i64 n] w fun e w' => e = .returned (.tuple #[.int .i64 (rnd1 s n), .int .i64 (rnd2 s n)]) ∧ Drawn w w' := by
  by_cases h : rndOk s n
  · have H1 := Lib.hid (show rnd1 s n = nextR s from if_pos h)
    have H2 := Lib.hid (show rnd2 s n = nextR s / 16 % n from if_pos h)
    obtain ⟨h1, h2, h3, h4⟩ := h
    have hb := nextR_bd s
    go_enter Try.func88, Try.ntmps88
    go_wp2_with (go_at_call 86; refine (next_impl _ _).mono ?_; rintro e w' ⟨rfl, rfl⟩)
    have hq := nextR_bd s
    have HQ := Lib.hid (show IntKind.i64.wrap ((nextR s).tdiv 16) = nextR s / 16 from IntWalk.i64_quo _ _ (by omega))
    go_quiet (fail)
    go_wp2
    go_ret2
    exact ⟨by rw [H1.out, H2.out]; rfl, Drawn.mk _ _⟩
  · have H1 := Lib.hid (show rnd1 s n = 0 from if_neg h)
    have H2 := Lib.hid (show rnd2 s n = 0 from if_neg h)
    have h' : s < 0 ∨ 65535 < s ∨ n < 1 ∨ 4096 < n := by unfold rndOk at h; omega
    clear h
    go_enter Try.func88, Try.ntmps88
    go_wp2_with (fail)
    all_goals (go_ret2; exact ⟨by rw [H1.out, H2.out]; rfl, Drawn.refl _⟩)
theorem rnd_spec (s n : Int) (w : World) :
    Calls Try.prog 134 #[.int .i64 s, .int .i64 n] w fun e w' => e = .returned (.tuple #[.int .i64 (rnd1 s n), .int .i64 (rnd2 s n)]) ∧ Drawn w w' := by
  by_cases h : rndOk s n
  · have H1 := Lib.hid (show rnd1 s n = nextR s from if_pos h)
    have H2 := Lib.hid (show rnd2 s n = nextR s / 16 % n from if_pos h)
    obtain ⟨h1, h2, h3, h4⟩ := h
    have hb := nextR_bd s
    go_enter Try.func134, Try.ntmps134
    go_wp2_with (first | (go_at_call 132; refine (next_spec _ _).mono ?_; rintro e w' ⟨rfl, rfl⟩) | (go_at_call 90; refine (in_yes _ _ _ _ (by omega) (by omega)).mono ?_; rintro e w' ⟨rfl, rfl⟩))
    have hq := nextR_bd s
    have HQ := Lib.hid (show IntKind.i64.wrap ((nextR s).tdiv 16) = nextR s / 16 from IntWalk.i64_quo _ _ (by omega))
    go_quiet (fail)
    go_wp2
    go_ret2
    exact ⟨by rw [H1.out, H2.out]; rfl, Drawn.mk _ _⟩
  · have H1 := Lib.hid (show rnd1 s n = 0 from if_neg h)
    have H2 := Lib.hid (show rnd2 s n = 0 from if_neg h)
    have h' : s < 0 ∨ 65535 < s ∨ n < 1 ∨ 4096 < n := by unfold rndOk at h; omega
    clear h
    rcases (show (s < 0 ∨ 65535 < s) ∨ (0 ≤ s ∧ s ≤ 65535) ∧ (n < 1 ∨ 4096 < n) by omega) with h | ⟨⟨h1, h2⟩, h3⟩
    all_goals clear h'
    all_goals go_enter Try.func134, Try.ntmps134
    all_goals go_wp2_with (first | (go_at_call 90; refine (in_yes _ _ _ _ ?_ ?_).mono ?_; omega; omega; rintro e w' ⟨rfl, rfl⟩) | (go_at_call 90; refine (in_no _ _ _ _ ?_).mono ?_; omega; rintro e w' ⟨rfl, rfl⟩))
    all_goals (go_ret2; exact ⟨by rw [H1.out, H2.out]; rfl, Drawn.refl _⟩)
end Go.Proofs.Ytmamihkcikgmcaa
/- SpotsOf, the program's and the reference's. -/
namespace Go.Proofs.Ytmamihkcikgmcaa
open Go.RowKit

def spL (l : List (Int × Int)) : List (List Int) := l.map fun p => [p.1, p.2]
theorem spL_len (l : List (Int × Int)) : (spL l).length = l.length := by simp [spL]
theorem spL_app (l r : List (Int × Int)) : spL (l ++ r) = spL l ++ spL r := by simp [spL]
/-- the spots ahead of column c of row r -/
def spUp (l : List ByteArray) (r c : Nat) : List (List Int) := spL (spR l r ++ spC (rowAt l r) r c)
theorem spUp_0 (l : List ByteArray) : spUp l 0 0 = [] := rfl
theorem spUp_next (l : List ByteArray) (r : Nat) : spUp l r (rowAt l r).size = spUp l (r + 1) 0 := by
  unfold spUp
  simp only [spR, spC, List.append_nil]
theorem spUp_yes {l : List ByteArray} {r c : Nat} (h : byteAt (rowAt l r) c = 111) : spUp l r (c + 1) = spUp l r c ++ [[16 * (c : Int) + 4, 16 * (r : Int) + 4]] := by
  unfold spUp
  simp only [spC, if_pos h, spL_app, List.append_assoc]
  rfl
theorem spUp_no {l : List ByteArray} {r c : Nat} (h : byteAt (rowAt l r) c ≠ 111) : spUp l r (c + 1) = spUp l r c := by
  unfold spUp
  simp only [spC, if_neg h, List.append_nil]
theorem spUp_end {l : List ByteArray} (h : lvT l = true) : spUp l l.length 0 = spL (spotsT l) := by
  unfold spUp spotsT
  rw [if_pos h]
  simp only [spC, List.append_nil]
theorem spUp_len {l : List ByteArray} {w : Nat} (hl : Lv l w) {r c : Nat} (hr : r < l.length) (hc : c ≤ w) : (spUp l r c).length ≤ 300 := by
  unfold spUp
  rw [spL_len, List.length_append]
  have h1 := spR_len hl r (by omega)
  have h2 := spC_len (rowAt l r) r c
  have h3 := hl.n12
  have h4 := hl.w20
  have : r * w ≤ 12 * 20 := Nat.mul_le_mul (by omega) (by omega)
  omega
set_option maxRecDepth 100000 in
set_option maxHeartbeats 8000000 in
theorem spots_impl {u : Value} {l : List ByteArray} (w : World) (h : At w 1 u l.length (l.map Value.string)) (hm : l.length ≤ 1048576) (hz : ∀ s ∈ l, s.size ≤ 1048576) :
    Calls Try.prog 87 #[.agg #[u]] w fun e w' => ∃ v us, e = .returned v ∧ OwnSS w' w.heap.size v us (spL (spotsT l)) ∧ Below w.heap.size w w' := by
  have HL : ∀ wx, Below w.heap.size w wx → Calls Try.prog 58 #[.agg #[u]] wx fun e w' => e = .returned (.bool (lvT l)) ∧ Below wx.heap.size wx w' := fun wx hx => lvok_impl wx (h.below hx) hm hz
  obtain ⟨ao, cap, rfl, hc⟩ := h.cellS
  go_enter Try.func87, Try.ntmps87
  go_wp2_with fail
  generalize hw1 : w.alloc _ = w1
  have hb1 : Below w.heap.size w w1 := by rw [← hw1]; exact (Below.refl _ _).alloc (Nat.le_refl _) _
  have c1 : w1.cell? ⟨w.heap.size, 0, none⟩ = some (.slice ao l.length cap) := by rw [← hw1]; exact World.cell?_alloc_new _ _ _ 0
  have s1 : w.heap.size < w1.heap.size := by rw [← hw1]; simp
  clear hw1
  refine (HL _ hb1).mono ?_
  rintro e wa ⟨rfl, ha⟩
  have hba := hb1.trans (ha.mono hb1.size)
  have ca : wa.cell? ⟨w.heap.size, 0, none⟩ = some (.slice ao l.length cap) := (ha.cell (by show w.heap.size < _; omega)).trans c1
  have sa : w.heap.size < wa.heap.size := by have := ha.size; omega
  clear ha hb1 c1 s1 HL
  cases hlv : lvT l with
  | false =>
    have HN : Hid (spotsT l = []) := Lib.hid (if_neg (by rw [hlv]; simp))
    clear hlv
    go_wp2_with fail
    go_ret
    exact ⟨nilV, [], rfl, by rw [HN.out]; exact OwnSS.nil _ _, hba⟩
  | true =>
  have HLV := Lib.hid (lvT_lv hlv)
  have HE := Lib.hid (spUp_end hlv)
  clear hlv
  go_wp2_with fail
  go_loopw [3, 13] (fun v i wx => ∃ (r : Nat) (us : List Value), r ≤ l.length ∧ i = .int .i64 r ∧ OwnSS wx w.heap.size v us (spUp l r 0) ∧ Below w.heap.size w wx ∧ w.heap.size < wx.heap.size) (fun _ i _ => l.length - (intOf i).toNat)
  case atStart => exact ⟨0, [], Nat.zero_le _, rfl, OwnSS.nil _ _, hba, sa⟩
  case round =>
    obtain ⟨r, us, hr, rfl, hO, hbl, hsz⟩ := hrel
    by_cases hr0 : ¬ r < l.length
    · obtain rfl : r = l.length := by omega
      rw [HE.out] at hO
      obtain ⟨vo, vc, rfl⟩ := hO.o.slice_
      go_wp2_with fail
      go_ret
      exact ⟨_, us, rfl, hO, hbl⟩
    have hr1 : r < l.length := by omega
    clear hr0
    obtain ⟨g, off, rfl, hg, hcell⟩ := hc (by omega)
    have cr : wr.cell? ⟨g, off + r, none⟩ = some (.string (rowAt l r)) := (hbl.cell hg).trans (by rw [rowAt_eq hr1]; exact hcell r hr1)
    have HNX := Lib.hid (spUp_next l r)
    have HY := Lib.hid (fun c => spUp_yes (l := l) (r := r) (c := c))
    have HNN := Lib.hid (fun c => spUp_no (l := l) (r := r) (c := c))
    have hrs := HLV.out.rows r hr1
    have HLEN := Lib.hid (fun c (hc : c ≤ (rowAt l r).size) => spUp_len HLV.out (c := c) hr1 (by omega))
    have hw20 : (rowAt l r).size ≤ 20 := by have := HLV.out.w20; omega
    have hr12 : r ≤ 12 := by have := HLV.out.n12; omega
    generalize hsp : spUp l r = sp at *
    obtain ⟨row, hrw⟩ : ∃ x, rowAt l r = x := ⟨_, rfl⟩
    rw [hrw] at cr HNX HY HNN HLEN hw20
    clear hrw hrs hcell hsp

    go_wp2_with fail
    go_loopw [3, 6] (fun v i wx => ∃ (k : Nat) (us : List Value), k ≤ row.size ∧ i = .int .i64 k ∧ OwnSS wx w.heap.size v us (sp k) ∧ Below w.heap.size w wx ∧ w.heap.size < wx.heap.size) (fun _ i _ => row.size - (intOf i).toNat)
    case atStart => exact ⟨0, us, Nat.zero_le _, rfl, hO, hbl, hsz⟩
    case round =>
      clear hO hbl hsz cr us
      obtain ⟨k, us, hk, rfl, hO, hbl, hsz⟩ := hrel

      by_cases hk0 : ¬ k < row.size
      · obtain rfl : k = row.size := by omega
        rw [HNX.out] at hO
        go_wp2_with fail
        go_roundw
        case rel => exact ⟨r + 1, us, by omega, by go_num, hO, hbl, hsz⟩
        case measure => simp [intOf]; omega
      have hk1 : k < row.size := by omega
      clear hk0
      have HB := Lib.hid (byteAt_eq hk1)
      by_cases h1 : byteAt row k = 111
      · have HN := Lib.hid (HY.out k h1)
        have e1 : ((row[k]'hk1).toNat : Int) = 111 := by rw [← HB.out]; exact h1
        have x1 : (((row[k]'hk1).toNat : Int) == 111) = true := beq_iff_eq.2 e1
        have hul : us.length ≤ 300 := by rw [hO.n]; exact HLEN.out k hk
        clear h1 e1
        go_upto_region 11 with (fail)
        have hus := hO.o
        obtain ⟨vo, vc, rfl⟩ := hus.slice_
        have hW : Below wr.heap.size wr (wr.alloc (.cells #[.int .i64 ((k : Int) * 16 + 4), .int .i64 ((r : Int) * 16 + 4)] 3)) := (Below.refl _ _).alloc (Nat.le_refl _) _
        have hX : Own (wr.alloc (.cells #[.int .i64 ((k : Int) * 16 + 4), .int .i64 ((r : Int) * 16 + 4)] 3)) w.heap.size 1 (.slice (some ⟨wr.heap.size, 0, none⟩) 2 2) 2 (ints [(k : Int) * 16 + 4, (r : Int) * 16 + 4]) := Own.lit 3 rfl rfl (by omega) (by unfold maxLen; omega)
        go_wp2_with (with_reducible refine app_ss (o := ⟨some 37, _, _, _, _, _⟩) _ _ rfl rfl _ _ rfl w.heap.size (hus.alloc _) rfl (wr.heap.size + 1) (by simp) rfl (by omega) (by simp; omega) ?_)
        intro v' w' h1 h2 h3
        have hO' := hO.snoc (l := [(k : Int) * 16 + 4, (r : Int) * 16 + 4]) hW hX (fun g hg => by simp only [Value.ownBlock, Option.some.injEq] at hg; omega) h1 h2 (by simpa using h3)
        have hb' := (hbl.trans (hW.mono (by omega))).trans ((Below.refl w.heap.size _).grown h2 (by simp; omega) (fun k hk => (hus.ge k hk).1))
        have hs' := h2.size
        rw [World.size_alloc] at hs'
        have hE : sp (k + 1) = sp k ++ [[(k : Int) * 16 + 4, (r : Int) * 16 + 4]] := by rw [HN.out, show 16 * (k : Int) = (k : Int) * 16 by omega, show 16 * (r : Int) = (r : Int) * 16 by omega]
        have HEE := Lib.hid hE
        clear hE h1 h2 h3 hO hbl hX hW hus
        go_wp2_with fail
        go_roundw
        case rel => exact ⟨k + 1, _, by omega, by go_num, by rw [HEE.out]; exact hO', hb', by omega⟩
        case measure => simp [intOf]; omega
      · have HN := Lib.hid (HNN.out k h1)
        have e1 : ((row[k]'hk1).toNat : Int) ≠ 111 := fun e => h1 (by rw [HB.out]; exact e)
        have x1 : (((row[k]'hk1).toNat : Int) == 111) = false := beq_eq_false_iff_ne.2 e1
        clear h1 e1
        go_wp2_with fail
        go_roundw
        case rel => exact ⟨k + 1, us, by omega, by go_num, by rw [HN.out]; exact hO, hbl, hsz⟩
        case measure => simp [intOf]; omega
end Go.Proofs.Ytmamihkcikgmcaa
/- SpotsOf, the reference's. -/
namespace Go.Proofs.Ytmamihkcikgmcaa
open Go.RowKit

/-- the value's own block is not block b -/
def SafeA (_ : World) (v : Value) (b : Nat) : Prop := v.ownBlock ≠ some b
set_option maxRecDepth 100000 in
set_option maxHeartbeats 8000000 in
theorem spots_spec {u : Value} {l : List ByteArray} (w : World) (h : At w 1 u l.length (l.map Value.string)) (hm : l.length ≤ 1048576) (hz : ∀ s ∈ l, s.size ≤ 1048576) :
    Calls Try.prog 133 #[.agg #[u]] w fun e w' => ∃ v us, e = .returned v ∧ OwnSS w' w.heap.size v us (spL (spotsT l)) ∧ Below w.heap.size w w' := by
  have HL : ∀ wx, Below w.heap.size w wx → Calls Try.prog 56 #[.agg #[u]] wx fun e w' => e = .returned (.bool (lvT l)) ∧ Below wx.heap.size wx w' := fun wx hx => lvok_spec wx (h.below hx) hm hz
  obtain ⟨ao, cap, rfl, hc⟩ := h.cellS
  go_enter Try.func133, Try.ntmps133
  go_upto_region 2 with (fail)
  generalize hw1 : (w.alloc _).alloc _ = w1
  have hb1 : Below w.heap.size w w1 := by rw [← hw1]; exact ((Below.refl _ _).alloc (Nat.le_refl _) _).alloc (by simp) _
  have c1 : w1.cell? ⟨w.heap.size, 0, none⟩ = some (.slice ao l.length cap) := by rw [← hw1]; exact cell_alloc_lt (World.cell?_alloc_new _ _ _ 0) _ (by simp)
  have s1 : w.heap.size < w1.heap.size := by rw [← hw1]; simp; omega
  have o1 : Own w1 w.heap.size 1 (.slice (some ⟨w.heap.size + 1, 0, none⟩) 0 0) 0 [] := by
    rw [← hw1]
    have := Own.lit (w := w.alloc (.cells #[.slice ao l.length cap] 27)) (base := w.heap.size) (sz := 1) (n := 0) (C := #[]) (cs := []) 33 rfl rfl (by simp) (by unfold maxLen; omega)
    rwa [show (w.alloc (.cells #[.slice ao l.length cap] 27)).heap.size = w.heap.size + 1 by simp] at this
  have hO1 : OwnSS w1 w.heap.size (.slice (some ⟨w.heap.size + 1, 0, none⟩) 0 0) [] (spUp l 0 0) := ⟨o1, rfl, fun _ h => absurd h (Nat.not_lt_zero _), fun _ _ h => absurd h (Nat.not_lt_zero _), fun _ h => absurd h (Nat.not_lt_zero _)⟩
  clear hw1 o1
  cases hlv : lvT l with
  | false =>
    have HN : Hid (spotsT l = []) := Lib.hid (if_neg (by rw [hlv]; simp))
    by_cases h0 : 0 < l.length
    · go_wp2_with fail
      go_loopw [3, 4] (fun v i wx => i = .int .i64 0 ∧ wx = w1 ∧ v = .slice (some ⟨w.heap.size + 1, 0, none⟩) 0 0) (fun _ _ _ => 0)
      case atStart => exact ⟨rfl, rfl, rfl⟩
      case round =>
        obtain ⟨rfl, rfl, rfl⟩ := hrel
        go_wp2_with fail
        refine (HL _ hb1).mono ?_
        rintro e wa ⟨rfl, ha⟩
        have hba := hb1.trans (ha.mono hb1.size)
        have hOa := hO1.belowS ha
        rw [hlv]
        clear hlv
        go_wp2_with fail
        go_ret
        exact ⟨_, [], rfl, by rw [HN.out]; exact hOa, hba⟩
    · have h00 : l.length = 0 := by omega
      rw [h00] at c1
      clear hlv
      go_wp2_with fail
      go_loopw [3, 4] (fun v i wx => i = .int .i64 0 ∧ wx = w1 ∧ v = .slice (some ⟨w.heap.size + 1, 0, none⟩) 0 0) (fun _ _ _ => 0)
      case atStart => exact ⟨rfl, rfl, rfl⟩
      case round =>
        obtain ⟨rfl, rfl, rfl⟩ := hrel
        go_wp2_with fail
        go_ret
        exact ⟨_, [], rfl, by rw [HN.out]; exact hO1, hb1⟩
  | true =>
  have HLV := Lib.hid (lvT_lv hlv)
  have HE := Lib.hid (spUp_end hlv)
  rw [hlv] at HL
  clear hlv
  go_wp2_with fail
  go_loopw [3, 4] (fun v i wx => ∃ (r : Nat) (us : List Value), r ≤ l.length ∧ i = .int .i64 r ∧ OwnSS wx w.heap.size v us (spUp l r 0) ∧ Below w.heap.size w wx ∧ w.heap.size < wx.heap.size ∧ wx.cell? ⟨w.heap.size, 0, none⟩ = some (.slice ao l.length cap) ∧ SafeA wx v w.heap.size) (fun _ i _ => l.length - (intOf i).toNat)
  case atStart => exact ⟨0, [], Nat.zero_le _, rfl, hO1, hb1, s1, c1, by unfold SafeA; simp [Value.ownBlock]⟩
  case round =>
    clear c1 hO1 hb1 s1
    obtain ⟨r, us, hr, rfl, hO, hbl, hsz, cL, hsf⟩ := hrel
    by_cases hr0 : ¬ r < l.length
    · obtain rfl : r = l.length := by omega
      rw [HE.out] at hO
      obtain ⟨vo, vc, rfl⟩ := hO.o.slice_
      go_wp2_with fail
      go_ret
      exact ⟨_, us, rfl, hO, hbl⟩
    have hr1 : r < l.length := by omega
    clear hr0
    go_wp2_with fail
    refine (HL _ hbl).mono ?_
    rintro e wz ⟨rfl, ha⟩
    have hO2 := hO.belowS ha
    have hbl2 := hbl.trans (ha.mono hbl.size)
    have cL2 : wz.cell? ⟨w.heap.size, 0, none⟩ = some (.slice ao l.length cap) := (ha.cell hsz).trans cL
    have hsz2 : w.heap.size < wz.heap.size := by have := ha.size; omega
    clear hO hbl cL hsz ha
    obtain ⟨g, off, rfl, hg, hcell⟩ := hc (by omega)
    have HCR := Lib.hid (show w.cell? ⟨g, off + r, none⟩ = some (.string (rowAt l r)) by rw [rowAt_eq hr1]; exact hcell r hr1)
    have HNX := Lib.hid (spUp_next l r)
    have HY := Lib.hid (fun c => spUp_yes (l := l) (r := r) (c := c))
    have HNN := Lib.hid (fun c => spUp_no (l := l) (r := r) (c := c))
    have hrs := HLV.out.rows r hr1
    have HLEN := Lib.hid (fun c (hc : c ≤ (rowAt l r).size) => spUp_len HLV.out (c := c) hr1 (by omega))
    have hw20 : (rowAt l r).size ≤ 20 := by have := HLV.out.w20; omega
    have hr12 : r ≤ 12 := by have := HLV.out.n12; omega
    generalize hsp : spUp l r = sp at *
    obtain ⟨row, hrw⟩ : ∃ x, rowAt l r = x := ⟨_, rfl⟩
    rw [hrw] at HCR HNX HY HNN HLEN hw20
    clear hrw hrs hcell hsp
    go_wp2_with fail
    go_loopw [3, 5] (fun v i wx => ∃ (k : Nat) (us : List Value), k ≤ row.size ∧ i = .int .i64 k ∧ OwnSS wx w.heap.size v us (sp k) ∧ Below w.heap.size w wx ∧ w.heap.size < wx.heap.size ∧ wx.cell? ⟨w.heap.size, 0, none⟩ = some (.slice (some ⟨g, off, none⟩) l.length cap) ∧ SafeA wx v w.heap.size) (fun _ i _ => row.size - (intOf i).toNat)
    case atStart => exact ⟨0, us, Nat.zero_le _, rfl, hO2, hbl2, hsz2, cL2, hsf⟩
    case round =>
      clear hO2 hbl2 hsz2 cL2 hsf us
      obtain ⟨k, us, hk, rfl, hO, hbl, hsz, cL, hsf⟩ := hrel
      have cr := (hbl.cell hg).trans HCR.out
      by_cases hk0 : ¬ k < row.size
      · obtain rfl : k = row.size := by omega
        rw [HNX.out] at hO
        go_wp2_with fail
        go_roundw
        case rel => exact ⟨r + 1, us, by omega, by go_num, hO, hbl, hsz, cL, hsf⟩
        case measure => simp [intOf]; omega
      have hk1 : k < row.size := by omega
      clear hk0
      have HB := Lib.hid (byteAt_eq hk1)
      by_cases h1 : byteAt row k = 111
      · have HN := Lib.hid (HY.out k h1)
        have e1 : ((row[k]'hk1).toNat : Int) = 111 := by rw [← HB.out]; exact h1
        have x1 : (((row[k]'hk1).toNat : Int) == 111) = true := beq_iff_eq.2 e1
        have hul : us.length ≤ 300 := by rw [hO.n]; exact HLEN.out k hk
        clear h1 e1
        go_upto_region 9 with (fail)
        have hus := hO.o
        obtain ⟨vo, vc, rfl⟩ := hus.slice_
        clear cr
        have hW : Below wr.heap.size wr (wr.alloc (.cells #[.int .i64 (16 * (k : Int) + 4), .int .i64 (16 * (r : Int) + 4)] 3)) := (Below.refl _ _).alloc (Nat.le_refl _) _
        have hX : Own (wr.alloc (.cells #[.int .i64 (16 * (k : Int) + 4), .int .i64 (16 * (r : Int) + 4)] 3)) w.heap.size 1 (.slice (some ⟨wr.heap.size, 0, none⟩) 2 2) 2 (ints [16 * (k : Int) + 4, 16 * (r : Int) + 4]) := Own.lit 3 rfl rfl (by omega) (by unfold maxLen; omega)
        go_wp2_with (with_reducible refine app_ss (o := ⟨some 45, _, _, _, _, _⟩) _ _ rfl rfl _ _ rfl w.heap.size (hus.alloc _) rfl (wr.heap.size + 1) (by simp) rfl (by omega) (by simp; omega) ?_)
        intro v' w' h1 h2 h3
        have hO' := hO.snoc (l := [16 * (k : Int) + 4, 16 * (r : Int) + 4]) hW hX (fun g hg => by simp only [Value.ownBlock, Option.some.injEq] at hg; omega) h1 h2 (by simpa using h3)
        have hb' := (hbl.trans (hW.mono (by omega))).trans ((Below.refl w.heap.size _).grown h2 (by simp; omega) (fun k hk => (hus.ge k hk).1))
        have hs' := h2.size
        rw [World.size_alloc] at hs'
        have cL' : w'.cell? ⟨w.heap.size, 0, none⟩ = some (.slice (some ⟨g, off, none⟩) l.length cap) := by
          rw [World.cell?_of_block (h2.block w.heap.size (by simp; omega) (fun e => hsf e.symm))]
          exact cell_alloc_lt cL _ hsz
        have hsf' : SafeA w' v' w.heap.size := by
          rcases h3 with h3 | ⟨q, h3, hq⟩
          · unfold SafeA; rw [h3]; exact hsf
          · unfold SafeA; rw [h3]; simp only [ne_eq, Option.some.injEq]; omega
        have HEE := Lib.hid HN.out
        clear h1 h2 h3 hO hbl hX hW hus cL hsf
        go_wp2_with fail
        go_roundw
        case rel => exact ⟨k + 1, _, by omega, by go_num, by rw [HEE.out]; exact hO', hb', by omega, cL', hsf'⟩
        case measure => simp [intOf]; omega
      · have HN := Lib.hid (HNN.out k h1)
        have e1 : ((row[k]'hk1).toNat : Int) ≠ 111 := fun e => h1 (by rw [HB.out]; exact e)
        have x1 : (((row[k]'hk1).toNat : Int) == 111) = false := beq_eq_false_iff_ne.2 e1
        clear h1 e1
        go_wp2_with fail
        go_roundw
        case rel => exact ⟨k + 1, us, by omega, by go_num, by rw [HN.out]; exact hO, hbl, hsz, cL, hsf⟩
        case measure => simp [intOf]; omega
end Go.Proofs.Ytmamihkcikgmcaa
