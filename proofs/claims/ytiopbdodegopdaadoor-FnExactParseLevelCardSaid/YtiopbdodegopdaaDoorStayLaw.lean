/- Valid worlds stay valid, plain. -/
import Derived.Test.YtiopbdodegopdaaDoorWdLaw
namespace Go.Proofs.YtiopbdodegopdaaDoor
open Go.RowKit

structure PlOk (l : List ByteArray) (k : Nat) (b : Bd) : Prop where
  kind : b.kind = 0
  owner : b.owner = k
  free : solT l b.x b.y 12 = false
  vx : -15 ≤ b.vx ∧ b.vx ≤ 15
  vy : -15 ≤ b.vy ∧ b.vy ≤ 15
  aim : b.aim = 1 ∨ b.aim = -1
  life : 0 ≤ b.life ∧ b.life ≤ 3
  dead : b.life = 0 → 1 ≤ b.timer ∧ b.timer ≤ 20
  live : b.life ≠ 0 → 0 ≤ b.timer ∧ b.timer ≤ 12
structure OtOk (l : List ByteArray) (n : Nat) (b : Bd) : Prop where
  kind : b.kind = 1 ∨ b.kind = 2
  owner : 0 ≤ b.owner ∧ b.owner < n
  free : solT l b.x b.y (szOf b.kind) = false
  vx : -15 ≤ b.vx ∧ b.vx ≤ 15
  vy : -15 ≤ b.vy ∧ b.vy ≤ 15
  aim : b.aim = 0
  life : b.life = 0
  shot : b.kind = 1 → 1 ≤ b.timer ∧ b.timer ≤ 25
  item : b.kind = 2 → b.owner = 0 ∧ b.timer = 0
theorem szOf_0 : szOf 0 = 12 := rfl
theorem szOf_1 : szOf 1 = 4 := rfl
theorem szOf_2 : szOf 2 = 8 := rfl
theorem okBd_lv {l : List ByteArray} {n : Int} {b : Bd} (h : okBd l n b = true) : lvT l = true := by
  unfold okBd okB at h
  simp only [Bool.and_eq_true] at h
  exact h.1
theorem okBd_pl {l : List ByteArray} {n : Int} {b : Bd} {k : Nat} (h : okBd l n b = true) (h0 : b.kind = 0) (hk : b.owner = k) : PlOk l k b := by
  unfold okBd okB at h
  rw [if_pos h0] at h
  simp only [Bool.and_eq_true, decide_eq_true_eq, Bool.not_eq_true'] at h
  obtain ⟨_, _, h2, h3, h4, h5, h6, h7, h8⟩ := h
  rw [h0] at h3
  refine ⟨h0, hk, h3, h4, h5, h6, h7, fun e => ?_, fun e => ?_⟩
  · rw [if_pos e] at h8; simpa using h8
  · rw [if_neg e] at h8; simpa using h8
theorem okBd_ot {l : List ByteArray} {n : Nat} {b : Bd} (h : okBd l n b = true) (h0 : b.kind ≠ 0) : OtOk l n b := by
  unfold okBd okB at h
  rw [if_neg h0] at h
  simp only [Bool.and_eq_true, decide_eq_true_eq, Bool.not_eq_true'] at h
  obtain ⟨_, h1, h2, h3, h4, h5, h6, h7, h8⟩ := h
  refine ⟨by omega, h2, h3, h4, h5, h6, h7, fun e => ?_, fun e => ?_⟩
  · rw [if_pos e] at h8; simpa using h8
  · rw [if_neg (by omega)] at h8; simpa using h8
theorem pl_okBd {l : List ByteArray} {n : Int} {b : Bd} {k : Nat} (hl : lvT l = true) (h : PlOk l k b) (hn : (k : Int) < n) : okBd l n b = true := by
  have h1 := h.owner
  unfold okBd okB
  rw [if_pos h.kind]
  simp only [Bool.and_eq_true, decide_eq_true_eq, Bool.not_eq_true']
  refine ⟨hl, by rw [h.kind]; omega, by omega, by rw [h.kind]; exact h.free, h.vx, h.vy, h.aim, h.life, ?_⟩
  by_cases e : b.life = 0
  · rw [if_pos e]; simpa using h.dead e
  · rw [if_neg e]; simpa using h.live e
theorem ot_okBd {l : List ByteArray} {n : Nat} {b : Bd} (hl : lvT l = true) (h : OtOk l n b) : okBd l n b = true := by
  have h1 := h.kind
  unfold okBd okB
  rw [if_neg (show b.kind ≠ 0 by omega)]
  simp only [Bool.and_eq_true, decide_eq_true_eq, Bool.not_eq_true']
  refine ⟨hl, by omega, h.owner, h.free, h.vx, h.vy, h.aim, h.life, ?_⟩
  by_cases e : b.kind = 1
  · rw [if_pos e]; simpa using h.shot e
  · rw [if_neg e]; simpa using h.item (by omega)
/-- n players, then others -/
structure Bods (l : List ByteArray) (n : Nat) (bs : List Bd) : Prop where
  le : n ≤ bs.length
  most : bs.length ≤ 24
  pl : ∀ k, k < n → PlOk l k (bAt bs k)
  ot : ∀ b ∈ bs.drop n, OtOk l n b
theorem Bods.ot_at {l : List ByteArray} {n : Nat} {bs : List Bd} (h : Bods l n bs) {k : Nat} (h1 : n ≤ k) (h2 : k < bs.length) : OtOk l n (bs[k]'h2) := by
  refine h.ot _ ?_
  rw [List.mem_iff_getElem?]
  exact ⟨k - n, by rw [List.getElem?_drop, show n + (k - n) = k by omega, List.getElem?_eq_getElem h2]⟩
theorem Bods.any_at {l : List ByteArray} {n : Nat} {bs : List Bd} (hl : lvT l = true) (h : Bods l n bs) {k : Nat} (h2 : k < bs.length) : okBd l n (bs[k]'h2) = true := by
  by_cases h1 : k < n
  · have := h.pl k h1
    rw [bAt_eq h2] at this
    exact pl_okBd hl this (by omega)
  · exact ot_okBd hl (h.ot_at (by omega) h2)
structure WOk (w : Wd) : Prop where
  lv : lvT w.rows = true
  tick : 0 ≤ w.tick ∧ w.tick ≤ 100000
  seed : 0 ≤ w.seed ∧ w.seed ≤ 65535
  n : 1 ≤ w.scores.length ∧ w.scores.length ≤ 4
  sc : ∀ x ∈ w.scores, 0 ≤ x ∧ x ≤ 1000000
  bods : Bods w.rows w.scores.length w.bodies
theorem bodiesGo_at {l : List ByteArray} {n : Nat} : ∀ {bs : List Bd} {k : Nat}, bodiesGo l n k bs = true → ∀ j (h : j < bs.length), okBd l n (bs[j]'h) = true ∧ (k + j < n ↔ (bs[j]'h).kind = 0) ∧ (k + j < n → (bs[j]'h).owner = ((k + j : Nat) : Int))
  | b :: r, k, h, 0, _ => by
    simp only [bodiesGo, Bool.and_eq_true, decide_eq_true_eq] at h
    exact ⟨h.1, by simpa using h.2.1, by simpa using h.2.2.1⟩
  | b :: r, k, h, j + 1, hj => by
    simp only [bodiesGo, Bool.and_eq_true, decide_eq_true_eq] at h
    have := bodiesGo_at h.2.2.2 j (by simpa using hj)
    rw [show k + 1 + j = k + (j + 1) by omega] at this
    simpa using this
theorem bodiesGo_mk {l : List ByteArray} {n : Nat} : ∀ {bs : List Bd} {k : Nat}, (∀ j (h : j < bs.length), okBd l n (bs[j]'h) = true ∧ (k + j < n ↔ (bs[j]'h).kind = 0) ∧ (k + j < n → (bs[j]'h).owner = ((k + j : Nat) : Int))) → bodiesGo l n k bs = true
  | [], k, _ => rfl
  | b :: r, k, h => by
    have h0 := h 0 (by simp)
    simp only [bodiesGo, Bool.and_eq_true, decide_eq_true_eq]
    refine ⟨h0.1, by simpa using h0.2.1, by simpa using h0.2.2, bodiesGo_mk fun j hj => ?_⟩
    have := h (j + 1) (by simpa using hj)
    rw [show k + 1 + j = k + (j + 1) by omega]
    simpa using this
theorem okW_ok {w : Wd} (h : okW w = true) : WOk w := by
  unfold okW at h
  simp only [Bool.and_eq_true, decide_eq_true_eq, inB_iff] at h
  obtain ⟨h1, h2, h3, h4, h5, h6, h7⟩ := h
  have hb := bodiesGo_at h7
  simp only [Nat.zero_add] at hb
  refine ⟨h1, h2, h3, h4, fun x hx => ?_, h6.1, h6.2, fun k hk => ?_, fun b hm => ?_⟩
  · exact inB_iff.1 (List.all_eq_true.1 h5 x hx)
  · have hk' : k < w.bodies.length := by omega
    obtain ⟨a1, a2, a3⟩ := hb k hk'
    rw [bAt_eq hk']
    exact okBd_pl a1 (a2.1 hk) (a3 hk)
  · obtain ⟨j, hj⟩ := List.mem_iff_getElem?.1 hm
    rw [List.getElem?_drop] at hj
    obtain ⟨hlt, rfl⟩ := List.getElem?_eq_some_iff.1 hj
    obtain ⟨a1, a2, a3⟩ := hb _ hlt
    exact okBd_ot a1 (fun e => by have := a2.2 e; omega)
theorem ok_okW {w : Wd} (h : WOk w) : okW w = true := by
  unfold okW
  simp only [Bool.and_eq_true, decide_eq_true_eq, inB_iff]
  refine ⟨h.lv, h.tick, h.seed, h.n, List.all_eq_true.2 fun x hx => inB_iff.2 (h.sc x hx), ⟨h.bods.le, h.bods.most⟩, bodiesGo_mk fun j hj => ?_⟩
  simp only [Nat.zero_add]
  refine ⟨h.bods.any_at h.lv hj, ?_, fun hk => ?_⟩
  · by_cases hk : j < w.scores.length
    · have := (h.bods.pl j hk).kind
      rw [bAt_eq hj] at this
      exact ⟨fun _ => this, fun _ => hk⟩
    · have := (h.bods.ot_at (by omega) hj).kind
      exact ⟨fun h => absurd h hk, fun e => by omega⟩
  · have := (h.bods.pl j hk).owner
    rw [bAt_eq hj] at this
    exact this
/-! steering -/
theorem stVX_bd (i : Int) : -15 ≤ stVX i ∧ stVX i ≤ 15 := by unfold stVX; split <;> (try split) <;> omega
theorem stAim_ok (i : Int) {a : Int} (h : a = 1 ∨ a = -1) : stAim i a = 1 ∨ stAim i a = -1 := by
  unfold stAim; split
  · exact .inl rfl
  · split
    · exact .inr rfl
    · exact h
theorem stVY_bd (l : List ByteArray) (i : Int) {b : Bd} (h : -15 ≤ b.vy) : -15 ≤ stVY l i b ∧ stVY l i b ≤ 15 := by unfold stVY; split <;> omega
theorem steer_ok {l : List ByteArray} {k : Nat} {b : Bd} (h : PlOk l k b) (hl : b.life ≠ 0) (i : Int) : PlOk l k (steerU l b i).1 := by
  have ht := h.live hl
  refine ⟨h.kind, h.owner, h.free, stVX_bd i, stVY_bd l i h.vy.1, stAim_ok i h.aim, h.life, fun e => absurd e hl, fun _ => ?_⟩
  simp only [steerU]
  unfold stT
  split
  · omega
  · split <;> omega
theorem fresh_ok {l : List ByteArray} {k : Nat} (hl : lvT l = true) (hk : k < 4) : PlOk l k (freshB l k) :=
  ⟨rfl, rfl, start_free hl (by omega) (by omega), by simp only [freshB]; omega, by simp only [freshB]; omega, .inl rfl, by simp only [freshB]; omega, fun e => by simp [freshB] at e, fun _ => by simp only [freshB]; omega⟩
theorem shot_ok {l : List ByteArray} {k n : Nat} {b : Bd} (hl : lvT l = true) (h : PlOk l k b) (hk : k < n) : OtOk l n (shotB b) := by
  have hb := free_bd (lvT_lv hl) (by omega) (by omega) h.free
  have ha := h.aim
  have ho := h.owner
  unfold shotB
  rw [if_pos (by omega)]
  exact ⟨.inl rfl, by simp only; omega, free_sub (lvT_lv hl) (by omega) (by omega) h.free (by omega) (by omega) (by rw [szOf_1]; omega) (by rw [szOf_1]; omega) (by rw [szOf_1]; omega), by simp only; omega, by simp only; omega, rfl, rfl, fun _ => by simp only; omega, fun e => by simp at e⟩
theorem bAt_set {l : List Bd} {k j : Nat} {b : Bd} (h : k < l.length) : bAt (l.set k b) j = if j = k then b else bAt l j := by
  unfold bAt List.getD
  by_cases e : j = k
  · subst e; rw [List.getElem?_set_self h, if_pos rfl]; rfl
  · rw [List.getElem?_set_ne (Ne.symm e), if_neg e]
theorem bAt_append {l r : List Bd} {k : Nat} (h : k < l.length) : bAt (l ++ r) k = bAt l k := by unfold bAt List.getD; rw [List.getElem?_append_left h]
theorem drop_set_lt {l : List Bd} {k n : Nat} {b : Bd} (h : k < n) : (l.set k b).drop n = l.drop n := by
  apply List.ext_getElem?
  intro j
  rw [List.getElem?_drop, List.getElem?_drop, List.getElem?_set_ne (by omega)]
theorem Bods.set_ {l : List ByteArray} {n k : Nat} {bs : List Bd} {b : Bd} (h : Bods l n bs) (hk : k < n) (hb : PlOk l k b) : Bods l n (bs.set k b) := by
  have hle := h.le
  refine ⟨by rw [List.length_set]; exact h.le, by rw [List.length_set]; exact h.most, fun j hj => ?_, fun x hx => ?_⟩
  · rw [bAt_set (by omega)]
    split
    · rename_i e; subst e; exact hb
    · exact h.pl j hj
  · rw [drop_set_lt hk] at hx; exact h.ot x hx
theorem Bods.snoc {l : List ByteArray} {n : Nat} {bs : List Bd} {b : Bd} (h : Bods l n bs) (hm : bs.length < 24) (hb : OtOk l n b) : Bods l n (bs ++ [b]) := by
  have hle := h.le
  refine ⟨by simp; omega, by simp; omega, fun j hj => ?_, fun x hx => ?_⟩
  · rw [bAt_append (by omega)]; exact h.pl j hj
  · rw [List.drop_append_of_le_length h.le] at hx
    rcases List.mem_append.1 hx with hx | hx
    · exact h.ot x hx
    · rw [List.mem_singleton.1 hx]; exact hb
theorem plStep_ok {l : List ByteArray} {n k : Nat} {bs : List Bd} (row : List Int) (hl : lvT l = true) (hn : n ≤ 4) (h : Bods l n bs) (hk : k < n) : Bods l n (plStep l row k bs) := by
  have hp := h.pl k hk
  unfold plStep
  by_cases h0 : (bAt bs k).life = 0
  · rw [if_pos h0]
    refine h.set_ hk ?_
    have hd := hp.dead h0
    split
    · exact fresh_ok hl (by omega)
    · exact ⟨hp.kind, hp.owner, hp.free, hp.vx, hp.vy, hp.aim, hp.life, fun _ => by simp only; omega, fun e => absurd h0 e⟩
  · rw [if_neg h0]
    have hs := steer_ok hp h0 (iAt row k)
    split
    · rename_i hf
      exact (h.set_ hk hs).snoc (by rw [List.length_set]; exact hf.2) (shot_ok hl hs hk)
    · exact h.set_ hk hs
theorem plUp_ok {l : List ByteArray} {n : Nat} {bs : List Bd} (row : List Int) (hl : lvT l = true) (hn : n ≤ 4) (h : Bods l n bs) : ∀ k, k ≤ n → Bods l n (plUp l row bs k)
  | 0, _ => h
  | k + 1, hk => plStep_ok row hl hn (plUp_ok row hl hn h k (by omega)) (by omega)
/-! moving -/
theorem mvGo_free {sol : Int → Bool} {d : Int} : ∀ {n : Nat} {x : Int}, sol x = false → sol (mvGo sol d n x).1 = false
  | 0, x, h => h
  | n + 1, x, h => by
    by_cases hs : sol (x + d) = true
    · rw [mvGo_stop hs]; exact h
    · rw [mvGo_more (by simpa using hs)]
      exact mvGo_free (by simpa using hs)
theorem mvT_free {l : List ByteArray} {s x y vx vy : Int} (h : solT l x y s = false) : solT l (mvT l s x y vx vy).x (mvT l s x y vx vy).y s = false := by
  unfold mvT
  have h1 := mvGo_free (sol := fun a => solT l a y s) (d := dirOf vx) (n := cntOf vx) (x := x) h
  exact mvGo_free (sol := fun b => solT l _ b s) (d := dirOf vy) (n := cntOf vy) (x := y) h1
theorem mvT_vx {l : List ByteArray} {s x y vx vy : Int} : (mvT l s x y vx vy).vx = 0 ∨ (mvT l s x y vx vy).vx = vx := by
  unfold mvT; simp only; split
  · exact .inl rfl
  · exact .inr rfl
theorem mvT_vy {l : List ByteArray} {s x y vx vy : Int} : (mvT l s x y vx vy).vy = 0 ∨ (mvT l s x y vx vy).vy = vy := by
  unfold mvT; simp only; split
  · exact .inl rfl
  · exact .inr rfl
theorem moveU_pl {l : List ByteArray} {k : Nat} {b : Bd} (h : PlOk l k b) : PlOk l k (moveU l b).1 := by
  have e : szOf b.kind = 12 := by rw [h.kind]; rfl
  refine ⟨h.kind, h.owner, ?_, ?_, ?_, h.aim, h.life, h.dead, h.live⟩
  · simp only [moveU, e]; exact mvT_free h.free
  · have := h.vx
    rcases mvT_vx (l := l) (s := szOf b.kind) (x := b.x) (y := b.y) (vx := b.vx) (vy := b.vy) with h1 | h1
    · simp only [moveU, h1]; omega
    · simp only [moveU, h1]; omega
  · have := h.vy
    rcases mvT_vy (l := l) (s := szOf b.kind) (x := b.x) (y := b.y) (vx := b.vx) (vy := b.vy) with h1 | h1
    · simp only [moveU, h1]; omega
    · simp only [moveU, h1]; omega
theorem moveU_ot {l : List ByteArray} {n : Nat} {b : Bd} (h : OtOk l n b) : OtOk l n (moveU l b).1 := by
  refine ⟨h.kind, h.owner, ?_, ?_, ?_, h.aim, h.life, h.shot, h.item⟩
  · simp only [moveU]; exact mvT_free h.free
  · have := h.vx
    rcases mvT_vx (l := l) (s := szOf b.kind) (x := b.x) (y := b.y) (vx := b.vx) (vy := b.vy) with h1 | h1
    · simp only [moveU, h1]; omega
    · simp only [moveU, h1]; omega
  · have := h.vy
    rcases mvT_vy (l := l) (s := szOf b.kind) (x := b.x) (y := b.y) (vx := b.vx) (vy := b.vy) with h1 | h1
    · simp only [moveU, h1]; omega
    · simp only [moveU, h1]; omega
def mvPl (l : List ByteArray) (b : Bd) : Bd := if 0 < b.life then (moveU l b).1 else b
theorem mvOne_pl {l : List ByteArray} {b : Bd} (h : b.kind = 0) : mvOne l b = some (mvPl l b) := by
  unfold mvOne mvPl
  rw [if_pos h]
  split <;> rfl
theorem mvPl_ok {l : List ByteArray} {k : Nat} {b : Bd} (h : PlOk l k b) : PlOk l k (mvPl l b) := by
  unfold mvPl; split
  · exact moveU_pl h
  · exact h
theorem mvOne_ot {l : List ByteArray} {n : Nat} {b c : Bd} (h : OtOk l n b) (hc : mvOne l b = some c) : OtOk l n c := by
  have hk := h.kind
  have hm := moveU_ot h
  unfold mvOne at hc
  rw [if_neg (by omega)] at hc
  by_cases h1 : b.kind = 1
  · rw [if_pos h1] at hc
    split at hc
    · cases hc
    · rename_i h2
      simp only [Option.some.injEq] at hc
      subst hc
      have hs := h.shot h1
      have e : (moveU l b).1.timer = b.timer := rfl
      have e2 : (moveU l b).1.kind = b.kind := rfl
      refine ⟨hm.kind, hm.owner, hm.free, hm.vx, hm.vy, hm.aim, hm.life, fun _ => ?_, fun e3 => ?_⟩
      · simp only [e]; rw [e] at h2; omega
      · simp only [e2] at e3; omega
  · rw [if_neg h1] at hc
    simp only [Option.some.injEq] at hc
    subst hc
    exact h
theorem filterMap_pl {l : List ByteArray} : ∀ (bs : List Bd), (∀ b ∈ bs, b.kind = 0) → bs.filterMap (mvOne l) = bs.map (mvPl l)
  | [], _ => rfl
  | b :: r, h => by
    rw [List.filterMap_cons, mvOne_pl (h b (List.mem_cons_self ..)), List.map_cons, filterMap_pl r fun x hx => h x (List.mem_cons_of_mem _ hx)]
theorem take_kind {l : List ByteArray} {n : Nat} {bs : List Bd} (h : Bods l n bs) : ∀ b ∈ bs.take n, b.kind = 0 := by
  intro b hb
  obtain ⟨j, hj⟩ := List.mem_iff_getElem?.1 hb
  rw [List.getElem?_take] at hj
  split at hj
  · rename_i hlt
    obtain ⟨hl, rfl⟩ := List.getElem?_eq_some_iff.1 hj
    have := (h.pl j hlt).kind
    rwa [bAt_eq hl] at this
  · cases hj
theorem mvAll_split {l : List ByteArray} {n : Nat} {bs : List Bd} (h : Bods l n bs) : mvAll l bs = (bs.take n).map (mvPl l) ++ (bs.drop n).filterMap (mvOne l) := by
  unfold mvAll
  rw [← filterMap_pl _ (take_kind h), ← List.filterMap_append, List.take_append_drop]
theorem bAt_map {l : List Bd} {f : Bd → Bd} {k : Nat} (h : k < l.length) : bAt (l.map f) k = f (bAt l k) := by
  rw [bAt_eq (by simpa using h), bAt_eq h, List.getElem_map]
theorem bAt_take {l : List Bd} {n k : Nat} (h : k < n) : bAt (l.take n) k = bAt l k := by unfold bAt List.getD; rw [List.getElem?_take, if_pos h]
theorem mvAll_pl {l : List ByteArray} {n : Nat} {bs : List Bd} (h : Bods l n bs) {k : Nat} (hk : k < n) : bAt (mvAll l bs) k = mvPl l (bAt bs k) := by
  have hle := h.le
  rw [mvAll_split h, bAt_append (by rw [List.length_map, List.length_take]; omega), bAt_map (by rw [List.length_take]; omega), bAt_take hk]
theorem mvAll_ok {l : List ByteArray} {n : Nat} {bs : List Bd} (h : Bods l n bs) : Bods l n (mvAll l bs) := by
  have hle := h.le
  have hm := h.most
  have hfl := List.length_filterMap_le (mvOne l) bs
  refine ⟨?_, ?_, fun k hk => ?_, fun b hb => ?_⟩
  · rw [mvAll_split h, List.length_append, List.length_map, List.length_take]; omega
  · unfold mvAll; omega
  · rw [mvAll_pl h hk]; exact mvPl_ok (h.pl k hk)
  · rw [mvAll_split h, List.drop_append_of_le_length (by rw [List.length_map, List.length_take]; omega), List.drop_of_length_le (by rw [List.length_map, List.length_take]; omega), List.nil_append] at hb
    obtain ⟨a, ha, hab⟩ := List.mem_filterMap.1 hb
    exact mvOne_ot (h.ot a ha) hab
/-! hits -/
theorem metGo_yes {pl : List Bd} {b : Bd} {but : Int} : ∀ m, m ≤ pl.length → 0 ≤ metGo pl b but m → 0 < (bAt pl (metGo pl b but m).toNat).life ∧ metGo pl b but m ≠ but
  | 0, _, h => by simp only [metGo] at h; omega
  | m + 1, hm, h => by
    simp only [metGo] at h ⊢
    split at h
    · rename_i h1
      rw [if_pos h1]
      exact ⟨by simpa using h1.2.1, h1.1⟩
    · rename_i h1
      rw [if_neg h1]
      exact metGo_yes m (by omega) h
theorem metT_yes {pl : List Bd} {b : Bd} {but : Int} (h : 0 ≤ metT pl b but) : (metT pl b but).toNat < pl.length ∧ 0 < (bAt pl (metT pl b but).toNat).life ∧ metT pl b but ≠ but := by
  have hb := metT_bd pl b but
  have hy := metGo_yes _ (Nat.le_refl _) h
  exact ⟨by omega, hy.1, hy.2⟩
structure Pls (l : List ByteArray) (n : Nat) (pl : List Bd) : Prop where
  len : pl.length = n
  pl : ∀ k, k < n → PlOk l k (bAt pl k)
theorem hitP_len (pl : List Bd) (k : Nat) : (hitP pl k).length = pl.length := by unfold hitP; rw [List.length_set]
theorem hitP_ok {l : List ByteArray} {n k : Nat} {pl : List Bd} (h : Pls l n pl) (hk : k < n) (hl : 0 < (bAt pl k).life) : Pls l n (hitP pl k) := by
  have hn := h.len
  refine ⟨by rw [hitP_len]; exact hn, fun j hj => ?_⟩
  unfold hitP
  rw [bAt_set (by omega)]
  by_cases e : j = k
  · subst e
    rw [if_pos rfl]
    have hp := h.pl j hj
    have hlf := hp.life
    have hlv := hp.live (by omega)
    split
    · exact ⟨hp.kind, hp.owner, hp.free, by simp only; omega, by simp only; omega, hp.aim, by simp only; omega, fun _ => by simp only; omega, fun e => by simp at e⟩
    · rename_i h1
      exact ⟨hp.kind, hp.owner, hp.free, hp.vx, hp.vy, hp.aim, by simp only; omega, fun e => absurd e h1, fun _ => hlv⟩
  · rw [if_neg e]; exact h.pl j hj
structure Scs (n : Nat) (sc : List Int) : Prop where
  len : sc.length = n
  bd : ∀ x ∈ sc, 0 ≤ x ∧ x ≤ 1000000
theorem iAt_set {l : List Int} {k j : Nat} {b : Int} (h : k < l.length) : iAt (l.set k b) j = if j = k then b else iAt l j := by
  unfold iAt List.getD
  by_cases e : j = k
  · subst e; rw [List.getElem?_set_self h, if_pos rfl]; rfl
  · rw [List.getElem?_set_ne (Ne.symm e), if_neg e]
theorem Scs.at_ {n : Nat} {sc : List Int} (h : Scs n sc) {k : Nat} (hk : k < n) : 0 ≤ iAt sc k ∧ iAt sc k ≤ 1000000 := by
  have := h.len
  rw [iAt_eq (by omega)]
  exact h.bd _ (List.getElem_mem _)
theorem addT_len (sc : List Int) (p : Int) : (addT sc p).length = sc.length := by unfold addT; rw [List.length_set]
theorem addT_ok {n : Nat} {sc : List Int} {p : Int} (h : Scs n sc) (hp : 0 ≤ p) (hp2 : p < n) : Scs n (addT sc p) ∧ ∀ k, k < n → iAt sc k ≤ iAt (addT sc p) k := by
  have hl := h.len
  have hb := h.at_ (k := p.toNat) (by omega)
  refine ⟨⟨by rw [addT_len]; exact hl, fun x hx => ?_⟩, fun k hk => ?_⟩
  · rcases List.mem_or_eq_of_mem_set hx with h1 | h1
    · exact h.bd x h1
    · omega
  · unfold addT
    rw [iAt_set (by omega)]
    split
    · rename_i e; subst e; omega
    · exact Int.le_refl _
theorem addT_id {n : Nat} {sc : List Int} {p : Int} (h : Scs n sc) (hp : 0 ≤ p) (hp2 : p < n) (h1 : ¬ iAt sc p.toNat < 1000000) : addT sc p = sc := by
  have hl := h.len
  have hb := h.at_ (k := p.toNat) (by omega)
  have e : min (iAt sc p.toNat + 1) 1000000 = iAt sc p.toNat := by omega
  unfold addT
  rw [e, iAt_eq (by omega), List.set_getElem_self]
theorem addT_up {sc : List Int} {p : Int} (h1 : iAt sc p.toNat < 1000000) : addT sc p = sc.set p.toNat (iAt sc p.toNat + 1) := by
  unfold addT
  rw [show min (iAt sc p.toNat + 1) 1000000 = iAt sc p.toNat + 1 by omega]
/-- the state while shots hit -/
structure ShOk (l : List ByteArray) (n : Nat) (sc0 : List Int) (s : Sh) : Prop where
  pl : Pls l n s.pl
  sc : Scs n s.sc
  up : ∀ k, k < n → iAt sc0 k ≤ iAt s.sc k
  ot : ∀ b ∈ s.left, OtOk l n b
theorem shStep_ok {l : List ByteArray} {n : Nat} {sc0 : List Int} {s : Sh} {b : Bd} (h : ShOk l n sc0 s) (hb : OtOk l n b) : ShOk l n sc0 (shStep s b) := by
  have hn := h.pl.len
  unfold shStep
  split
  · rename_i h1
    obtain ⟨h2, h3, _⟩ := metT_yes h1.2
    have ho := hb.owner
    refine ⟨hitP_ok h.pl (by omega) h3, ?_, ?_, h.ot⟩
    · unfold hitS; split
      · exact (addT_ok h.sc ho.1 ho.2).1
      · exact h.sc
    · intro k hk
      unfold hitS; split
      · have := (addT_ok h.sc ho.1 ho.2).2 k hk
        have := h.up k hk
        simp only; omega
      · exact h.up k hk
  · refine ⟨h.pl, h.sc, h.up, fun x hx => ?_⟩
    rcases List.mem_append.1 hx with hx | hx
    · exact h.ot x hx
    · rw [List.mem_singleton.1 hx]; exact hb
theorem shAll_ok {l : List ByteArray} {n : Nat} {sc0 : List Int} : ∀ (bs : List Bd) (s : Sh), ShOk l n sc0 s → (∀ b ∈ bs, OtOk l n b) → ShOk l n sc0 (bs.foldl shStep s)
  | [], _, h, _ => h
  | b :: r, _, h, hb => shAll_ok r _ (shStep_ok h (hb b (List.mem_cons_self ..))) fun x hx => hb x (List.mem_cons_of_mem _ hx)
theorem shAll_left : ∀ (bs : List Bd) (s : Sh), (bs.foldl shStep s).left.length ≤ s.left.length + bs.length
  | [], _ => Nat.le_refl _
  | b :: r, s => by
    have h := shAll_left r (shStep s b)
    have h2 : (shStep s b).left.length ≤ s.left.length + 1 := by
      unfold shStep; split
      · exact Nat.le_succ _
      · simp
    simp only [List.foldl_cons, List.length_cons]
    omega
theorem itStep_ok {l : List ByteArray} {n : Nat} {sc0 : List Int} {pl : List Bd} {s : List Int × List Bd} {b : Bd} (hp : Pls l n pl) (h : Scs n s.1 ∧ (∀ k, k < n → iAt sc0 k ≤ iAt s.1 k) ∧ ∀ c ∈ s.2, OtOk l n c) (hb : OtOk l n b) :
    Scs n (itStep pl s b).1 ∧ (∀ k, k < n → iAt sc0 k ≤ iAt (itStep pl s b).1 k) ∧ ∀ c ∈ (itStep pl s b).2, OtOk l n c := by
  have hn := hp.len
  by_cases h1 : b.kind = 2 ∧ 0 ≤ metT pl b (-1)
  · have e : itStep pl s b = (addT s.1 (metT pl b (-1)), s.2) := if_pos h1
    have hm := metT_bd pl b (-1)
    have ha := addT_ok h.1 h1.2 (by omega)
    rw [e]
    exact ⟨ha.1, fun k hk => by have := ha.2 k hk; have := h.2.1 k hk; simp only; omega, h.2.2⟩
  · have e : itStep pl s b = (s.1, s.2 ++ [b]) := if_neg h1
    rw [e]
    refine ⟨h.1, h.2.1, fun x hx => ?_⟩
    rcases List.mem_append.1 hx with hx | hx
    · exact h.2.2 x hx
    · rw [List.mem_singleton.1 hx]; exact hb
theorem itAll_ok {l : List ByteArray} {n : Nat} {sc0 : List Int} {pl : List Bd} (hp : Pls l n pl) : ∀ (bs : List Bd) (s : List Int × List Bd), (Scs n s.1 ∧ (∀ k, k < n → iAt sc0 k ≤ iAt s.1 k) ∧ ∀ c ∈ s.2, OtOk l n c) → (∀ c ∈ bs, OtOk l n c) →
    (Scs n (bs.foldl (itStep pl) s).1 ∧ (∀ k, k < n → iAt sc0 k ≤ iAt (bs.foldl (itStep pl) s).1 k) ∧ ∀ c ∈ (bs.foldl (itStep pl) s).2, OtOk l n c)
  | [], _, h, _ => h
  | b :: r, _, h, hb => itAll_ok hp r _ (itStep_ok hp h (hb b (List.mem_cons_self ..))) fun x hx => hb x (List.mem_cons_of_mem _ hx)
theorem itAll_left (pl : List Bd) : ∀ (bs : List Bd) (s : List Int × List Bd), (bs.foldl (itStep pl) s).2.length ≤ s.2.length + bs.length
  | [], _ => Nat.le_refl _
  | b :: r, s => by
    have h := itAll_left pl r (itStep pl s b)
    have h2 : (itStep pl s b).2.length ≤ s.2.length + 1 := by
      unfold itStep; split
      · exact Nat.le_succ _
      · simp
    simp only [List.foldl_cons, List.length_cons]
    omega
theorem pls_take {l : List ByteArray} {n : Nat} {bs : List Bd} (h : Bods l n bs) : Pls l n (bs.take n) :=
  ⟨by have := h.le; rw [List.length_take]; omega, fun k hk => by rw [bAt_take hk]; exact h.pl k hk⟩
theorem hits_ok {l : List ByteArray} {n : Nat} {sc : List Int} {bs : List Bd} (hs : Scs n sc) (h : Bods l n bs) : Scs n (hitsT n sc bs).1 ∧ (∀ k, k < n → iAt sc k ≤ iAt (hitsT n sc bs).1 k) ∧ Bods l n (hitsT n sc bs).2 := by
  have h1 := shAll_ok (l := l) (n := n) (sc0 := sc) (bs.drop n) ⟨bs.take n, sc, []⟩ ⟨pls_take h, hs, fun _ _ => Int.le_refl _, fun b hb => by simp at hb⟩ h.ot
  have h2 := shAll_left (bs.drop n) ⟨bs.take n, sc, []⟩
  have h3 := itAll_ok h1.pl (shAll (bs.take n) sc (bs.drop n)).left ((shAll (bs.take n) sc (bs.drop n)).sc, []) ⟨h1.sc, h1.up, fun b hb => by simp at hb⟩ h1.ot
  have h4 := itAll_left (shAll (bs.take n) sc (bs.drop n)).pl (shAll (bs.take n) sc (bs.drop n)).left ((shAll (bs.take n) sc (bs.drop n)).sc, [])
  have hle := h.le
  have hmo := h.most
  have hl : (shAll (bs.take n) sc (bs.drop n)).pl.length = n := h1.pl.len
  simp only [List.length_nil, List.length_drop] at h2 h4
  refine ⟨h3.1, h3.2.1, ?_, ?_, fun k hk => ?_, fun b hb => ?_⟩
  · show n ≤ ((shAll (bs.take n) sc (bs.drop n)).pl ++ (itAll _ _ _).2).length
    rw [List.length_append]; omega
  · show ((shAll (bs.take n) sc (bs.drop n)).pl ++ (itAll _ _ _).2).length ≤ 24
    rw [List.length_append]
    have e : (itAll (shAll (bs.take n) sc (bs.drop n)).pl (shAll (bs.take n) sc (bs.drop n)).sc (shAll (bs.take n) sc (bs.drop n)).left).2.length ≤ (shAll (bs.take n) sc (bs.drop n)).left.length := by unfold itAll; omega
    have e2 : (shAll (bs.take n) sc (bs.drop n)).left.length ≤ bs.length - n := by unfold shAll; omega
    omega
  · show PlOk l k (bAt ((shAll (bs.take n) sc (bs.drop n)).pl ++ (itAll _ _ _).2) k)
    rw [bAt_append (by omega)]
    exact h1.pl.pl k hk
  · have hb' : b ∈ ((shAll (bs.take n) sc (bs.drop n)).pl ++ (itAll (shAll (bs.take n) sc (bs.drop n)).pl (shAll (bs.take n) sc (bs.drop n)).sc (shAll (bs.take n) sc (bs.drop n)).left).2).drop n := hb
    rw [List.drop_append_of_le_length (by omega), List.drop_of_length_le (by omega), List.nil_append] at hb'
    exact h3.2.2 b hb'
/-! spots -/
def spotOk (l : List ByteArray) (p : Int × Int) : Prop := ∃ r c : Nat, r < l.length ∧ c < (rowAt l r).size ∧ byteAt (rowAt l r) c = 111 ∧ p = (16 * (c : Int) + 4, 16 * (r : Int) + 4)
theorem spC_ok {l : List ByteArray} {r : Nat} (hr : r < l.length) : ∀ c, c ≤ (rowAt l r).size → ∀ p ∈ spC (rowAt l r) r c, spotOk l p
  | 0, _, p, h => by simp [spC] at h
  | c + 1, hc, p, h => by
    rw [spC] at h
    rcases List.mem_append.1 h with h | h
    · exact spC_ok hr c (by omega) p h
    · split at h
      · rename_i hb
        rw [List.mem_singleton.1 h]
        exact ⟨r, c, hr, by omega, hb, rfl⟩
      · simp at h
theorem spR_ok {l : List ByteArray} : ∀ r, r ≤ l.length → ∀ p ∈ spR l r, spotOk l p
  | 0, _, p, h => by simp [spR] at h
  | r + 1, hr, p, h => by
    rw [spR] at h
    rcases List.mem_append.1 h with h | h
    · exact spR_ok r (by omega) p h
    · exact spC_ok (by omega) _ (Nat.le_refl _) p h
theorem spots_ok {l : List ByteArray} : ∀ p ∈ spotsT l, spotOk l p := by
  intro p hp
  unfold spotsT at hp
  split at hp
  · exact spR_ok _ (Nat.le_refl _) p hp
  · simp at hp
theorem spot_free {l : List ByteArray} {p : Int × Int} (hl : lvT l = true) (h : spotOk l p) : solT l p.1 p.2 8 = false := by
  obtain ⟨r, c, hr, hc, hb, rfl⟩ := h
  have hv := lvT_lv hl
  have h2 := hv.n12
  have h3 := hv.w20
  rw [hv.rows r hr] at hc
  exact free_tile (bad_no hv hr hc (by omega)) (by omega) (by omega) (by omega) (by omega) (by omega)
theorem spC_len (row : ByteArray) (r : Nat) : ∀ c, (spC row r c).length ≤ c
  | 0 => Nat.le_refl _
  | c + 1 => by
    have := spC_len row r c
    rw [spC, List.length_append]
    split
    · show _ + 1 ≤ _; omega
    · show _ + 0 ≤ _; omega
theorem spR_len {l : List ByteArray} {w : Nat} (hl : Lv l w) : ∀ r, r ≤ l.length → (spR l r).length ≤ r * w
  | 0, _ => by simp [spR]
  | r + 1, hr => by
    have h1 := spR_len hl r (by omega)
    have h2 := spC_len (rowAt l r) r (rowAt l r).size
    have h3 := hl.rows r (by omega)
    rw [spR, List.length_append, Nat.succ_mul]
    omega
theorem spots_len (l : List ByteArray) : (spotsT l).length ≤ 240 := by
  unfold spotsT
  split
  · rename_i h
    have hv := lvT_lv h
    have h1 := spR_len hv l.length (Nat.le_refl _)
    have h2 := Nat.mul_le_mul hv.n12 hv.w20
    omega
  · exact Nat.zero_le _
theorem pAt_mem {l : List (Int × Int)} {k : Nat} (h : k < l.length) : pAt l k ∈ l := by
  have e : pAt l k = l[k]'h := by simp [pAt, List.getD, List.getElem?_eq_getElem h]
  rw [e]; exact List.getElem_mem h
theorem item_ok {l : List ByteArray} {n : Nat} {p : Int × Int} (hl : lvT l = true) (hn : 1 ≤ n) (h : spotOk l p) : OtOk l n (itemB p) :=
  ⟨.inr rfl, by simp only [itemB]; omega, spot_free hl h, by simp only [itemB]; omega, by simp only [itemB]; omega, rfl, rfl, fun e => by simp [itemB] at e, fun _ => ⟨rfl, rfl⟩⟩
theorem rand_lt {s : Int} {n : Nat} (h : n ≠ 0) : 0 ≤ randT s n ∧ (randT s n).toNat < n := by
  have h1 : 0 ≤ randT s n := Int.emod_nonneg _ (by omega)
  have h2 : randT s n < n := Int.emod_lt_of_pos _ (by omega)
  omega
/-- the parts of a tick -/
theorem step_parts {w : Wd} (row : List Int) (h : WOk w) : Scs w.scores.length (hits1 w row).1 ∧ (∀ k, k < w.scores.length → iAt w.scores k ≤ iAt (hits1 w row).1 k) ∧ Bods w.rows w.scores.length (hits1 w row).2 :=
  hits_ok ⟨rfl, h.sc⟩ (mvAll_ok (plUp_ok row h.lv h.n.2 h.bods _ (Nat.le_refl _)))
theorem stepU_sc (w : Wd) (row : List Int) : (stepU w row).scores = (hits1 w row).1 ∧ (stepU w row).rows = w.rows ∧ (stepU w row).tick = w.tick + 1 := by
  unfold stepU; simp only; split
  · exact ⟨rfl, rfl, rfl⟩
  · split <;> exact ⟨rfl, rfl, rfl⟩
theorem stepU_pl {w : Wd} {row : List Int} {k : Nat} (hk : k < (hits1 w row).2.length) : bAt (stepU w row).bodies k = bAt (hits1 w row).2 k := by
  unfold stepU; simp only; split
  · rfl
  · split
    · rfl
    · exact bAt_append hk
theorem stepU_seed (w : Wd) (row : List Int) : 0 ≤ (stepU w row).seed ∧ (stepU w row).seed ≤ 65535 := by
  unfold stepU; simp only; split
  · exact nextR_bd _
  · split <;> exact nextR_bd _
theorem stepU_bods {w : Wd} {row : List Int} (h : WOk w) : Bods w.rows w.scores.length (stepU w row).bodies := by
  obtain ⟨_, _, hb⟩ := step_parts row h
  unfold stepU; simp only
  split
  · exact hb
  · rename_i h1
    split
    · exact hb
    · exact hb.snoc (by omega) (item_ok h.lv h.n.1 (spots_ok _ (pAt_mem (rand_lt (by omega)).2)))
theorem stepU_ok {w : Wd} {row : List Int} (h : WOk w) (ht : w.tick < 100000) : WOk (stepU w row) := by
  obtain ⟨h1, h2, h3⟩ := stepU_sc w row
  obtain ⟨hs, _, _⟩ := step_parts row h
  have hb := stepU_bods (row := row) h
  have htk := h.tick
  refine ⟨by rw [h2]; exact h.lv, by rw [h3]; omega, stepU_seed w row, by rw [h1, hs.len]; exact h.n, by rw [h1]; exact hs.bd, ?_⟩
  rw [h1, h2, hs.len]
  exact hb
theorem stepU_up {w : Wd} {row : List Int} (h : WOk w) : ∀ k, k < w.scores.length → iAt w.scores k ≤ iAt (stepU w row).scores k := by
  rw [(stepU_sc w row).1]; exact (step_parts row h).2.1
theorem stepU_n {w : Wd} {row : List Int} (h : WOk w) : (stepU w row).scores.length = w.scores.length := by
  rw [(stepU_sc w row).1]; exact (step_parts row h).1.len
theorem stepT_ok {w : Wd} {row : List Int} (h : WOk w) : WOk (stepT w row) ∧ (stepT w row).scores.length = w.scores.length ∧ (stepT w row).rows = w.rows := by
  have ht := h.tick
  unfold stepT
  split
  · rename_i h1
    exact ⟨stepU_ok h (by omega), stepU_n h, (stepU_sc w row).2.1⟩
  · exact ⟨h, rfl, rfl⟩
theorem runT_ok : ∀ (rows : List (List Int)) {w : Wd}, WOk w → WOk (runT w rows) ∧ (runT w rows).scores.length = w.scores.length ∧ (runT w rows).rows = w.rows
  | [], w, h => ⟨h, rfl, rfl⟩
  | r :: rows, w, h => by
    have h1 := stepT_ok (row := r) h
    have h2 := runT_ok rows h1.1
    exact ⟨h2.1, h2.2.1.trans h1.2.1, h2.2.2.trans h1.2.2⟩
end Go.Proofs.YtiopbdodegopdaaDoor
