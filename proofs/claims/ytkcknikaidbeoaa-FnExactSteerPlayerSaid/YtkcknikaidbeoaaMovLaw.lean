/- What a move and a steering do, plain: for FnMoves, FnSteered, FnWorldStays. -/
import Derived.Test.YtkcknikaidbeoaaStayLaw
namespace Go.Proofs.Ytkcknikaidbeoaa
open Go.RowKit

theorem mvGo_way {sol : Int → Bool} {d : Int} : ∀ (n : Nat) (x : Int), ∃ m : Nat, m ≤ n ∧ (mvGo sol d n x).1 = x + d * (m : Int) ∧ ((mvGo sol d n x).2 = false → m = n)
  | 0, x => ⟨0, Nat.le_refl _, by simp [mvGo], fun _ => rfl⟩
  | n + 1, x => by
    by_cases hs : sol (x + d) = true
    · rw [mvGo_stop hs]
      exact ⟨0, Nat.zero_le _, by simp, fun h => by cases h⟩
    · rw [mvGo_more (by simpa using hs)]
      obtain ⟨m, h1, h2, h3⟩ := mvGo_way n (x + d)
      refine ⟨m + 1, by omega, ?_, fun h => by rw [h3 h]⟩
      rw [h2]
      have : d * ((m + 1 : Nat) : Int) = d * (m : Int) + d := by rw [Int.natCast_add, Int.mul_add]; simp
      rw [this]; omega
/-- how far a direction goes -/
theorem way_bd {sol : Int → Bool} {v x : Int} (h1 : -15 ≤ v) (h2 : v ≤ 15) : ∃ e : Int, (mvGo sol (dirOf v) (cntOf v) x).1 = x + e ∧ 0 ≤ e * v ∧ e * v ≤ 225 ∧ e * e ≤ v * v ∧ 0 ≤ e * e ∧ v * v ≤ 225 ∧ -15 ≤ e ∧ e ≤ 15 ∧ ((mvGo sol (dirOf v) (cntOf v) x).2 = false → e = v) := by
  obtain ⟨m, hm, he, hf⟩ := mvGo_way (sol := sol) (d := dirOf v) (cntOf v) x
  have hc : ((cntOf v : Nat) : Int) = (v.natAbs : Int) := rfl
  by_cases hv : v < 0
  · rw [dir_neg hv] at he hf
    obtain ⟨k, hk⟩ : ∃ k : Nat, v = -(k : Int) := ⟨v.natAbs, by omega⟩
    subst hk
    have hmk : m ≤ k := by unfold cntOf at hm; omega
    have hk15 : k ≤ 15 := by omega
    have q1 : m * k ≤ 15 * 15 := Nat.mul_le_mul (by omega) hk15
    have q2 : m * m ≤ k * k := Nat.mul_le_mul hmk hmk
    have q3 : k * k ≤ 15 * 15 := Nat.mul_le_mul hk15 hk15
    have c1 : ((m * k : Nat) : Int) = (m : Int) * (k : Int) := Int.natCast_mul _ _
    have c2 : ((m * m : Nat) : Int) = (m : Int) * (m : Int) := Int.natCast_mul _ _
    have c3 : ((k * k : Nat) : Int) = (k : Int) * (k : Int) := Int.natCast_mul _ _
    rw [dir_neg hv]
    refine ⟨-(m : Int), by rw [he]; omega, ?_, ?_, ?_, ?_, ?_, by omega, by omega, fun h => ?_⟩
    · rw [Int.neg_mul_neg]; omega
    · rw [Int.neg_mul_neg]; omega
    · rw [Int.neg_mul_neg, Int.neg_mul_neg]; omega
    · rw [Int.neg_mul_neg]; omega
    · rw [Int.neg_mul_neg]; omega
    · have := hf h; unfold cntOf at this; omega
  · rw [dir_pos (by omega)] at he hf
    obtain ⟨k, hk⟩ : ∃ k : Nat, v = (k : Int) := ⟨v.natAbs, by omega⟩
    subst hk
    have hmk : m ≤ k := by unfold cntOf at hm; omega
    have hk15 : k ≤ 15 := by omega
    have q1 : m * k ≤ 15 * 15 := Nat.mul_le_mul (by omega) hk15
    have q2 : m * m ≤ k * k := Nat.mul_le_mul hmk hmk
    have q3 : k * k ≤ 15 * 15 := Nat.mul_le_mul hk15 hk15
    have c1 : ((m * k : Nat) : Int) = (m : Int) * (k : Int) := Int.natCast_mul _ _
    have c2 : ((m * m : Nat) : Int) = (m : Int) * (m : Int) := Int.natCast_mul _ _
    have c3 : ((k * k : Nat) : Int) = (k : Int) * (k : Int) := Int.natCast_mul _ _
    rw [dir_pos (by omega)]
    refine ⟨(m : Int), by rw [he]; omega, by omega, by omega, by omega, by omega, by omega, by omega, by omega, fun h => ?_⟩
    have := hf h; unfold cntOf at this; omega
/-- a move of a body at a free place, with any speed in the range -/
structure Moved (l : List ByteArray) (b c : Bd) (st : Bool) : Prop where
  kind : c.kind = b.kind
  free : solT l c.x c.y (szOf c.kind) = false
  dx : ∃ e : Int, c.x = b.x + e ∧ 0 ≤ e * b.vx ∧ e * b.vx ≤ 225 ∧ e * e ≤ b.vx * b.vx ∧ 0 ≤ e * e ∧ b.vx * b.vx ≤ 225 ∧ -15 ≤ e ∧ e ≤ 15 ∧ (st = false → e = b.vx)
  dy : ∃ e : Int, c.y = b.y + e ∧ 0 ≤ e * b.vy ∧ e * b.vy ≤ 225 ∧ e * e ≤ b.vy * b.vy ∧ 0 ≤ e * e ∧ b.vy * b.vy ≤ 225 ∧ -15 ≤ e ∧ e ≤ 15 ∧ (st = false → e = b.vy)
  vx : (c.vx = 0 ∨ c.vx = b.vx) ∧ (st = false → c.vx = b.vx)
  vy : (c.vy = 0 ∨ c.vy = b.vy) ∧ (st = false → c.vy = b.vy)
  stop : st = true → c.vx = 0 ∨ c.vy = 0
theorem moveU_moved {l : List ByteArray} {b : Bd} (hf : solT l b.x b.y (szOf b.kind) = false) (hx : -15 ≤ b.vx ∧ b.vx ≤ 15) (hy : -15 ≤ b.vy ∧ b.vy ≤ 15) : Moved l b (moveU l b).1 (moveU l b).2 := by
  obtain ⟨p, s1, hp⟩ : ∃ p s1, mvGo (fun a => solT l a b.y (szOf b.kind)) (dirOf b.vx) (cntOf b.vx) b.x = (p, s1) := ⟨_, _, rfl⟩
  obtain ⟨q, s2, hq⟩ : ∃ q s2, mvGo (fun a => solT l p a (szOf b.kind)) (dirOf b.vy) (cntOf b.vy) b.y = (q, s2) := ⟨_, _, rfl⟩
  have hm := mvT_eq hp hq
  have w1 := way_bd (sol := fun a => solT l a b.y (szOf b.kind)) (x := b.x) hx.1 hx.2
  have w2 := way_bd (sol := fun a => solT l p a (szOf b.kind)) (x := b.y) hy.1 hy.2
  rw [hp] at w1
  rw [hq] at w2
  have e : moveU l b = ({ b with x := p, y := q, vx := if s1 = true then 0 else b.vx, vy := if s2 = true then 0 else b.vy }, s1 || s2) := by
    unfold moveU; simp only [hm]
  have hfree := mvT_free (vx := b.vx) (vy := b.vy) hf
  rw [hm] at hfree
  rw [e]
  obtain ⟨e1, a1, a2, a3, a4, a5, a6, a7, a8, a9⟩ := w1
  obtain ⟨e2, b1, b2, b3, b4, b5, b6, b7, b8, b9⟩ := w2
  refine ⟨rfl, hfree, ⟨e1, a1, a2, a3, a4, a5, a6, a7, a8, fun h => a9 ?_⟩, ⟨e2, b1, b2, b3, b4, b5, b6, b7, b8, fun h => b9 ?_⟩, ⟨?_, fun h => ?_⟩, ⟨?_, fun h => ?_⟩, fun h => ?_⟩
  · cases s1 with
    | false => rfl
    | true => simp at h
  · cases s2 with
    | false => rfl
    | true => simp at h
  · simp only; split
    · exact .inl rfl
    · exact .inr rfl
  · cases s1 with
    | false => rfl
    | true => simp at h
  · simp only; split
    · exact .inl rfl
    · exact .inr rfl
  · cases s2 with
    | false => rfl
    | true => simp at h
  · cases s1 with
    | true => exact .inl rfl
    | false =>
      cases s2 with
      | true => exact .inr rfl
      | false => simp at h

/-! the timers of the players, for the reloading -/
theorem hitP_at {pl : List Bd} {k j : Nat} (hk : k < pl.length) : bAt (hitP pl k) j = if j = k then (if (bAt pl k).life - 1 = 0 then { bAt pl k with life := 0, vx := 0, vy := 0, timer := 20 } else { bAt pl k with life := (bAt pl k).life - 1 }) else bAt pl j := bAt_set hk
/-- a player behind the shots: as before, or hit -/
def Hurt (a b : Bd) : Prop := (b.life ≠ 0 → b.timer = a.timer ∧ a.life ≠ 0) ∧ (b.life = 0 → a.life = 0 ∧ b.timer = a.timer ∨ a.life ≠ 0 ∧ b.timer = 20)
theorem Hurt.refl (a : Bd) : Hurt a a := ⟨fun h => ⟨rfl, h⟩, fun h => .inl ⟨h, rfl⟩⟩
theorem Hurt.trans {a b c : Bd} (h : Hurt a b) (k : Hurt b c) : Hurt a c := by
  refine ⟨fun hc => ?_, fun hc => ?_⟩
  · obtain ⟨k1, k2⟩ := k.1 hc
    obtain ⟨h1, h2⟩ := h.1 k2
    exact ⟨k1.trans h1, h2⟩
  · rcases k.2 hc with ⟨k1, k2⟩ | ⟨k1, k2⟩
    · rcases h.2 k1 with ⟨h1, h2⟩ | ⟨h1, h2⟩
      · exact .inl ⟨h1, k2.trans h2⟩
      · exact .inr ⟨h1, k2.trans h2⟩
    · exact .inr ⟨(h.1 k1).2, k2⟩
theorem shStep_hurt {s : Sh} {b : Bd} (k : Nat) : Hurt (bAt s.pl k) (bAt (shStep s b).pl k) := by
  unfold shStep
  split
  · rename_i h1
    obtain ⟨h2, h3, _⟩ := metT_yes h1.2
    simp only
    rw [hitP_at h2]
    split
    · rename_i e
      rw [← e] at h3 ⊢
      split
      · exact ⟨fun h => by simp at h, fun _ => .inr ⟨by omega, rfl⟩⟩
      · rename_i h4
        exact ⟨fun _ => ⟨rfl, by omega⟩, fun h => absurd h h4⟩
    · exact Hurt.refl _
  · exact Hurt.refl _
theorem shAll_hurt (k : Nat) : ∀ (bs : List Bd) (s : Sh), Hurt (bAt s.pl k) (bAt (bs.foldl shStep s).pl k)
  | [], _ => Hurt.refl _
  | _ :: r, _ => (shStep_hurt k).trans (shAll_hurt k r _)
theorem plStep_at {l : List ByteArray} {row : List Int} {bs : List Bd} {k j : Nat} (hk : k < bs.length) (hj : j < bs.length) :
    bAt (plStep l row k bs) j = if j = k then (if (bAt bs k).life = 0 then (if (bAt bs k).timer - 1 = 0 then freshB l k else { bAt bs k with timer := (bAt bs k).timer - 1 }) else (steerU l (bAt bs k) (iAt row k)).1) else bAt bs j := by
  unfold plStep
  split
  · rw [bAt_set hk]
  · split
    · rw [bAt_append (by rw [List.length_set]; exact hj), bAt_set hk]
    · rw [bAt_set hk]
theorem plStep_len {l : List ByteArray} {row : List Int} {bs : List Bd} {k : Nat} : bs.length ≤ (plStep l row k bs).length := by
  unfold plStep
  split
  · simp
  · split
    · simp
    · simp
def plNew (l : List ByteArray) (row : List Int) (k : Nat) (b : Bd) : Bd := if b.life = 0 then (if b.timer - 1 = 0 then freshB l k else { b with timer := b.timer - 1 }) else (steerU l b (iAt row k)).1
theorem plUp_at {l : List ByteArray} {row : List Int} {bs : List Bd} {n : Nat} (hn : n ≤ bs.length) : ∀ m, m ≤ n → n ≤ (plUp l row bs m).length ∧ ∀ j, j < n → bAt (plUp l row bs m) j = if j < m then plNew l row j (bAt bs j) else bAt bs j
  | 0, _ => ⟨hn, fun j _ => by rw [if_neg (by omega)]; rfl⟩
  | m + 1, hm => by
    obtain ⟨h1, h2⟩ := plUp_at (l := l) (row := row) hn m (by omega)
    refine ⟨Nat.le_trans h1 plStep_len, fun j hj => ?_⟩
    rw [plUp, plStep_at (by omega) (by omega), h2 m (by omega), if_neg (Nat.lt_irrefl _)]
    by_cases e : j = m
    · subst e; rw [if_pos rfl, if_pos (Nat.lt_succ_self j)]; rfl
    · rw [if_neg e, h2 j hj]
      by_cases h3 : j < m
      · rw [if_pos h3, if_pos (by omega)]
      · rw [if_neg h3, if_neg (by omega)]
theorem step_pl {w : Wd} {row : List Int} (h : WOk w) {k : Nat} (hk : k < w.scores.length) : Hurt (plNew w.rows row k (bAt w.bodies k)) (bAt (stepU w row).bodies k) := by
  have hb1 := plUp_ok row h.lv h.n.2 h.bods w.scores.length (Nat.le_refl _)
  have hb2 := mvAll_ok hb1
  have hlb := hb2.le
  have hb3 := (step_parts row h).2.2.le
  rw [stepU_pl (by omega)]
  have hs := shAll_ok (l := w.rows) (n := w.scores.length) (sc0 := w.scores) ((bodies1 w row).drop w.scores.length) ⟨(bodies1 w row).take w.scores.length, w.scores, []⟩ ⟨pls_take hb2, ⟨rfl, h.sc⟩, fun _ _ => Int.le_refl _, fun b hb => by simp at hb⟩ hb2.ot
  have hlen : (shAll ((bodies1 w row).take w.scores.length) w.scores ((bodies1 w row).drop w.scores.length)).pl.length = w.scores.length := hs.pl.len
  show Hurt _ (bAt ((shAll ((bodies1 w row).take w.scores.length) w.scores ((bodies1 w row).drop w.scores.length)).pl ++ _) k)
  rw [bAt_append (by omega)]
  have hh := shAll_hurt k ((bodies1 w row).drop w.scores.length) ⟨(bodies1 w row).take w.scores.length, w.scores, []⟩
  have e1 : bAt ((bodies1 w row).take w.scores.length) k = mvPl w.rows (plNew w.rows row k (bAt w.bodies k)) := by
    rw [bAt_take hk]
    unfold bodies1
    rw [mvAll_pl hb1 hk, (plUp_at (l := w.rows) (row := row) h.bods.le w.scores.length (Nat.le_refl _)).2 k hk, if_pos hk]
  simp only [e1] at hh
  have e2 : (mvPl w.rows (plNew w.rows row k (bAt w.bodies k))).life = (plNew w.rows row k (bAt w.bodies k)).life ∧ (mvPl w.rows (plNew w.rows row k (bAt w.bodies k))).timer = (plNew w.rows row k (bAt w.bodies k)).timer := by
    unfold mvPl
    split <;> exact ⟨rfl, rfl⟩
  unfold Hurt at hh ⊢
  rw [e2.1, e2.2] at hh
  exact hh
/-- how long a player's timer keeps the next shot away: s ticks since the last one -/
def Cool (s : Int) (b : Bd) : Prop := 12 ≤ b.timer + s
theorem cool_step {w : Wd} {row : List Int} (h : WOk w) {k : Nat} (hk : k < w.scores.length) {s : Int} (hs : 0 ≤ s) (hc : Cool s (bAt w.bodies k)) :
    Cool (s + 1) (bAt (stepU w row).bodies k) ∧ ((bAt (stepU w row).bodies k).timer = 12 → 0 < (bAt (stepU w row).bodies k).life → 0 < (bAt w.bodies k).life → 12 ≤ s + 1) := by
  have hp := h.bods.pl k hk
  have hh := step_pl (row := row) h hk
  have hok := (stepU_bods (row := row) h).pl k hk
  unfold Cool at hc ⊢
  have hl := hp.life
  have hl2 := hok.life
  by_cases h0 : (bAt w.bodies k).life = 0
  · have hd := hp.dead h0
    refine ⟨?_, fun _ _ h => by omega⟩
    unfold plNew at hh
    rw [if_pos h0] at hh
    by_cases h1 : (bAt w.bodies k).timer - 1 = 0
    · rw [if_pos h1] at hh
      by_cases h2 : (bAt (stepU w row).bodies k).life = 0
      · have := hok.dead h2
        rcases hh.2 h2 with ⟨a, _⟩ | ⟨_, a⟩
        · simp [freshB] at a
        · omega
      · have := hok.live h2
        omega
    · rw [if_neg h1] at hh
      by_cases h2 : (bAt (stepU w row).bodies k).life = 0
      · rcases hh.2 h2 with ⟨_, a⟩ | ⟨_, a⟩
        · simp only at a; omega
        · omega
      · exact absurd h0 (hh.1 h2).2
  · have hv := hp.live h0
    unfold plNew at hh
    rw [if_neg h0] at hh
    have et : (steerU w.rows (bAt w.bodies k) (iAt row k)).1.timer = if stFire (iAt row k) (bAt w.bodies k).timer = true then 12 else stT (bAt w.bodies k).timer := rfl
    have eT : 0 ≤ stT (bAt w.bodies k).timer ∧ stT (bAt w.bodies k).timer ≤ 11 ∧ (bAt w.bodies k).timer ≤ stT (bAt w.bodies k).timer + 1 := by unfold stT; split <;> omega
    have eF : stFire (iAt row k) (bAt w.bodies k).timer = true → (bAt w.bodies k).timer ≤ 1 := by
      unfold stFire stT
      intro hf
      simp only [Bool.and_eq_true, decide_eq_true_eq] at hf
      have := hf.2
      split at this <;> omega
    by_cases h2 : (bAt (stepU w row).bodies k).life = 0
    · refine ⟨?_, fun _ h _ => by omega⟩
      rcases hh.2 h2 with ⟨a, _⟩ | ⟨_, a⟩
      · exact absurd a h0
      · omega
    · obtain ⟨a, _⟩ := hh.1 h2
      rw [et] at a
      by_cases hf : stFire (iAt row k) (bAt w.bodies k).timer = true
      · rw [if_pos hf] at a
        have := eF hf
        exact ⟨by omega, fun _ _ _ => by omega⟩
      · rw [if_neg hf] at a
        exact ⟨by omega, fun h _ _ => by omega⟩
end Go.Proofs.Ytkcknikaidbeoaa
