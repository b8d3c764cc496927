/- Texts LvLaw, MvLaw, StaLaw, FreeLaw, WdLaw, StayLaw, IdleLaw in one. -/
import Derived.Test.YtiopbdodegopdaaDoorKA
/- LevelOk and the walls, plain: what the program's and the reference's compute of the rows of a level. -/
namespace Go.Proofs.YtiopbdodegopdaaDoor
open Go.RowKit

def rowAt (l : List ByteArray) (r : Nat) : ByteArray := l.getD r ⟨#[]⟩
theorem rowAt_eq {l : List ByteArray} {r : Nat} (h : r < l.length) : rowAt l r = l[r]'h := by simp [rowAt, List.getD, List.getElem?_eq_getElem h]
/-- the last n columns of a row; K: what follows it -/
def goC (row : ByteArray) (w : Nat) (e0 : Bool) (K : List Bool → Bool → Bool) : Nat → List Bool → Bool → Bool
  | 0, sn, op => K sn op
  | n + 1, sn, op =>
    if byteAt row (w - (n + 1)) = 35 then goC row w e0 K n sn op
    else if e0 = true ∨ w - (n + 1) = 0 ∨ w - (n + 1) + 1 = w then false
    else if 49 ≤ byteAt row (w - (n + 1)) ∧ byteAt row (w - (n + 1)) ≤ 52 then
      (if sn.getD (byteAt row (w - (n + 1)) - 49).toNat false = true then false else goC row w e0 K n (sn.set (byteAt row (w - (n + 1)) - 49).toNat true) true)
    else if byteAt row (w - (n + 1)) = 111 ∨ byteAt row (w - (n + 1)) = 46 then goC row w e0 K n sn true
    else false
/-- the last m rows -/
def goR (l : List ByteArray) (w : Nat) : Nat → List Bool → Bool → Bool
  | 0, _, op => op
  | m + 1, sn, op => if (rowAt l (l.length - (m + 1))).size = w then goC (rowAt l (l.length - (m + 1))) w (decide (l.length - (m + 1) = 0) || decide (l.length - (m + 1) + 1 = l.length)) (goR l w m) w sn op else false
def edgeR (l : List ByteArray) (r : Nat) : Bool := decide (r = 0) || decide (r + 1 = l.length)
def lvT (l : List ByteArray) : Bool :=
  if 3 ≤ l.length ∧ l.length ≤ 12 ∧ 4 ≤ (rowAt l 0).size ∧ (rowAt l 0).size ≤ 20 then goR l (rowAt l 0).size l.length [false, false, false, false] false else false
theorem lvT_out {l : List ByteArray} (h : ¬ (3 ≤ l.length ∧ l.length ≤ 12 ∧ 4 ≤ (rowAt l 0).size ∧ (rowAt l 0).size ≤ 20)) : lvT l = false := if_neg h
theorem lvT_in {l : List ByteArray} (h1 : 3 ≤ l.length) (h2 : l.length ≤ 12) (h3 : 4 ≤ (rowAt l 0).size) (h4 : (rowAt l 0).size ≤ 20) : lvT l = goR l (rowAt l 0).size (l.length - 0) [false, false, false, false] false := if_pos ⟨h1, h2, h3, h4⟩
section
variable {row : ByteArray} {w k : Nat} {e0 : Bool} {K : List Bool → Bool → Bool} {sn : List Bool} {op : Bool}
theorem goC_step (h : k < w) : goC row w e0 K (w - k) sn op = if byteAt row k = 35 then goC row w e0 K (w - (k + 1)) sn op
    else if e0 = true ∨ k = 0 ∨ k + 1 = w then false
    else if 49 ≤ byteAt row k ∧ byteAt row k ≤ 52 then (if sn.getD (byteAt row k - 49).toNat false = true then false else goC row w e0 K (w - (k + 1)) (sn.set (byteAt row k - 49).toNat true) true)
    else if byteAt row k = 111 ∨ byteAt row k = 46 then goC row w e0 K (w - (k + 1)) sn true
    else false := by
  obtain ⟨n, hn⟩ : ∃ n, w - k = n + 1 := ⟨w - k - 1, by omega⟩
  have e1 : w - (n + 1) = k := by omega
  have e2 : w - (k + 1) = n := by omega
  rw [hn, e2]
  simp only [goC, e1]
theorem goC_wall (h : k < w) (h1 : byteAt row k = 35) : goC row w e0 K (w - k) sn op = goC row w e0 K (w - (k + 1)) sn op := by rw [goC_step h, if_pos h1]
theorem goC_edge (h : k < w) (h1 : byteAt row k ≠ 35) (h2 : e0 = true ∨ k = 0 ∨ k + 1 = w) : goC row w e0 K (w - k) sn op = false := by rw [goC_step h, if_neg h1, if_pos h2]
theorem goC_seen (h : k < w) (h1 : 49 ≤ byteAt row k) (h2 : byteAt row k ≤ 52) (h3 : sn.getD (byteAt row k - 49).toNat false = true) : goC row w e0 K (w - k) sn op = false := by
  rw [goC_step h, if_neg (by omega)]
  by_cases h4 : e0 = true ∨ k = 0 ∨ k + 1 = w
  · rw [if_pos h4]
  · rw [if_neg h4, if_pos ⟨h1, h2⟩, if_pos h3]
theorem goC_new (h : k < w) (h0 : ¬ (e0 = true ∨ k = 0 ∨ k + 1 = w)) (h1 : 49 ≤ byteAt row k) (h2 : byteAt row k ≤ 52) (h3 : sn.getD (byteAt row k - 49).toNat false = false) :
    goC row w e0 K (w - k) sn op = goC row w e0 K (w - (k + 1)) (sn.set (byteAt row k - 49).toNat true) true := by
  rw [goC_step h, if_neg (by omega), if_neg h0, if_pos ⟨h1, h2⟩, if_neg (by rw [h3]; simp)]
theorem goC_open (h : k < w) (h0 : ¬ (e0 = true ∨ k = 0 ∨ k + 1 = w)) (h1 : byteAt row k = 111 ∨ byteAt row k = 46) : goC row w e0 K (w - k) sn op = goC row w e0 K (w - (k + 1)) sn true := by
  rw [goC_step h, if_neg (by omega), if_neg h0, if_neg (by omega), if_pos h1]
theorem goC_bad (h : k < w) (h1 : byteAt row k ≠ 35) (h2 : byteAt row k < 49 ∨ 52 < byteAt row k) (h3 : byteAt row k ≠ 111) (h4 : byteAt row k ≠ 46) : goC row w e0 K (w - k) sn op = false := by
  rw [goC_step h, if_neg h1]
  by_cases h5 : e0 = true ∨ k = 0 ∨ k + 1 = w
  · rw [if_pos h5]
  · rw [if_neg h5, if_neg (by omega), if_neg (by omega)]
theorem goC_end (h : k = w) : goC row w e0 K (w - k) sn op = K sn op := by subst h; rw [Nat.sub_self]; rfl
end
theorem goR_step {l : List ByteArray} {w r : Nat} {sn : List Bool} {op : Bool} (h : r < l.length) : goR l w (l.length - r) sn op = if (rowAt l r).size = w then goC (rowAt l r) w (edgeR l r) (goR l w (l.length - (r + 1))) (w - 0) sn op else false := by
  obtain ⟨n, hn⟩ : ∃ n, l.length - r = n + 1 := ⟨l.length - r - 1, by omega⟩
  have e1 : l.length - (n + 1) = r := by omega
  have e2 : l.length - (r + 1) = n := by omega
  rw [hn, e2]
  simp only [goR, e1, edgeR, Nat.sub_zero]
theorem goR_yes {l : List ByteArray} {w r : Nat} {sn : List Bool} {op : Bool} (h : r < l.length) (h1 : (rowAt l r).size = w) : goR l w (l.length - r) sn op = goC (rowAt l r) w (edgeR l r) (goR l w (l.length - (r + 1))) (w - 0) sn op := by rw [goR_step h, if_pos h1]
theorem goR_no {l : List ByteArray} {w r : Nat} {sn : List Bool} {op : Bool} (h : r < l.length) (h1 : (rowAt l r).size ≠ w) : goR l w (l.length - r) sn op = false := by rw [goR_step h, if_neg h1]
theorem goR_end {l : List ByteArray} {w r : Nat} {sn : List Bool} {op : Bool} (h : r = l.length) : goR l w (l.length - r) sn op = op := by subst h; rw [Nat.sub_self]; rfl
/-- what a valid row holds -/
def tileOk (t : Int) : Prop := t = 35 ∨ (49 ≤ t ∧ t ≤ 52) ∨ t = 111 ∨ t = 46
theorem goC_true {row : ByteArray} {w : Nat} {e0 : Bool} {K : List Bool → Bool → Bool} : ∀ n sn op, n ≤ w → goC row w e0 K n sn op = true → (∀ k, w - n ≤ k → k < w → tileOk (byteAt row k)) ∧ ∃ sn' op', K sn' op' = true
  | 0, sn, op, _, h => ⟨fun k h1 h2 => by omega, sn, op, h⟩
  | n + 1, sn, op, hn, h => by
    have step : ∀ sn2 op2, goC row w e0 K n sn2 op2 = true → tileOk (byteAt row (w - (n + 1))) → (∀ k, w - (n + 1) ≤ k → k < w → tileOk (byteAt row k)) ∧ ∃ sn' op', K sn' op' = true := fun sn2 op2 h2 ht => by
      obtain ⟨h3, h4⟩ := goC_true n sn2 op2 (by omega) h2
      refine ⟨fun k hk hk2 => ?_, h4⟩
      by_cases e : k = w - (n + 1)
      · rw [e]; exact ht
      · exact h3 k (by omega) hk2
    simp only [goC] at h
    split at h
    · rename_i h1; exact step _ _ h (.inl h1)
    · split at h
      · cases h
      · split at h
        · rename_i h2
          split at h
          · cases h
          · exact step _ _ h (.inr (.inl h2))
        · split at h
          · rename_i h3; exact step _ _ h (.inr (.inr h3))
          · cases h
theorem goR_true {l : List ByteArray} {w : Nat} : ∀ m sn op, m ≤ l.length → goR l w m sn op = true → ∀ r, l.length - m ≤ r → r < l.length → (rowAt l r).size = w ∧ ∀ k, k < w → tileOk (byteAt (rowAt l r) k)
  | 0, sn, op, _, h, r, h1, h2 => by omega
  | m + 1, sn, op, hm, h, r, h1, h2 => by
    simp only [goR] at h
    split at h
    · rename_i hw
      obtain ⟨h3, sn', op', h4⟩ := goC_true w _ _ (Nat.le_refl _) h
      by_cases e : r = l.length - (m + 1)
      · rw [e]; exact ⟨hw, fun k hk => h3 k (by omega) hk⟩
      · exact goR_true m sn' op' (by omega) h4 r (by omega) h2
    · cases h
/-- what is known of a valid level -/
structure Lv (l : List ByteArray) (w : Nat) : Prop where
  n3 : 3 ≤ l.length
  n12 : l.length ≤ 12
  w4 : 4 ≤ w
  w20 : w ≤ 20
  rows : ∀ r, r < l.length → (rowAt l r).size = w
  tiles : ∀ r k, r < l.length → k < w → tileOk (byteAt (rowAt l r) k)
theorem lvT_lv {l : List ByteArray} (h : lvT l = true) : Lv l (rowAt l 0).size := by
  by_cases h0 : 3 ≤ l.length ∧ l.length ≤ 12 ∧ 4 ≤ (rowAt l 0).size ∧ (rowAt l 0).size ≤ 20
  · obtain ⟨h1, h2, h3, h4⟩ := h0
    rw [lvT_in h1 h2 h3 h4] at h
    have hr := goR_true (l.length - 0) _ _ (by omega) h
    exact ⟨h1, h2, h3, h4, fun r hr' => (hr r (by omega) hr').1, fun r k hr' hk => (hr r (by omega) hr').2 k hk⟩
  · rw [lvT_out h0] at h; cases h

/-- walls -/
def bad (l : List ByteArray) (r c : Nat) : Bool := decide (l.length ≤ r) || decide ((rowAt l r).size ≤ c) || decide (byteAt (rowAt l r) c = 35)
def solC (l : List ByteArray) (r : Nat) : Nat → Nat → Bool
  | 0, _ => false
  | n + 1, c => if bad l r c = true then true else solC l r n (c + 1)
def solR (l : List ByteArray) (c nc : Nat) : Nat → Nat → Bool
  | 0, _ => false
  | n + 1, r => if solC l r nc c = true then true else solR l c nc n (r + 1)
def spanN (x size : Int) : Nat := ((x + size - 1) / 16 - x / 16 + 1).toNat
def solI (l : List ByteArray) (x y size : Int) : Bool := solR l (x / 16).toNat (spanN x size) (spanN y size) (y / 16).toNat
def solT (l : List ByteArray) (x y size : Int) : Bool := if x < 0 ∨ 1000 < x ∨ y < 0 ∨ 1000 < y then true else solI l x y size
theorem solC_any {l : List ByteArray} {r c : Nat} (hb : bad l r c = true) : ∀ n c0, c0 ≤ c → c < c0 + n → solC l r n c0 = true
  | 0, _, h1, h2 => by omega
  | n + 1, c0, h1, h2 => by
    simp only [solC]
    by_cases e : c0 = c
    · rw [e, if_pos hb]
    · split
      · rfl
      · exact solC_any hb n (c0 + 1) (by omega) (by omega)
theorem solR_any {l : List ByteArray} {r c c0 nc : Nat} (hb : bad l r c = true) (h1 : c0 ≤ c) (h2 : c < c0 + nc) : ∀ n r0, r0 ≤ r → r < r0 + n → solR l c0 nc n r0 = true
  | 0, _, h3, h4 => by omega
  | n + 1, r0, h3, h4 => by
    simp only [solR]
    by_cases e : r0 = r
    · rw [e, if_pos (solC_any hb nc c0 h1 h2)]
    · split
      · rfl
      · exact solR_any hb h1 h2 n (r0 + 1) (by omega) (by omega)
theorem solT_neg {l : List ByteArray} {x y size : Int} (h : x < 0 ∨ 1000 < x ∨ y < 0 ∨ 1000 < y) : solT l x y size = true := if_pos h
theorem solT_in {l : List ByteArray} {x y size : Int} (h1 : 0 ≤ x) (h2 : x ≤ 1000) (h3 : 0 ≤ y) (h4 : y ≤ 1000) : solT l x y size = solR l (x / 16).toNat (spanN x size) (spanN y size) (y / 16).toNat := if_neg (by omega)
theorem solT_out {l : List ByteArray} {w : Nat} {x y size : Int} (hl : Lv l w) (hs : 1 ≤ size) (hs2 : size ≤ 16) (h : x < 0 ∨ y < 0 ∨ 16 * (w : Int) - size < x ∨ 16 * (l.length : Int) - size < y) : solT l x y size = true := by
  by_cases h0 : x < 0 ∨ 1000 < x ∨ y < 0 ∨ 1000 < y
  · exact solT_neg h0
  rw [solT_in (by omega) (by omega) (by omega) (by omega)]
  have hx : (x / 16).toNat < (x / 16).toNat + spanN x size := by unfold spanN; omega
  have hy : (y / 16).toNat < (y / 16).toNat + spanN y size := by unfold spanN; omega
  rcases (show 16 * (w : Int) - size < x ∨ 16 * (l.length : Int) - size < y by omega) with h | h
  · by_cases hr : l.length ≤ (y / 16).toNat
    · exact solR_any (r := (y / 16).toNat) (c := (x / 16).toNat) (by unfold bad; rw [decide_eq_true hr]; rfl) (Nat.le_refl _) hx _ _ (Nat.le_refl _) hy
    · refine solR_any (r := (y / 16).toNat) (c := ((x + size - 1) / 16).toNat) ?_ (by omega) (by unfold spanN; omega) _ _ (Nat.le_refl _) hy
      have e := hl.rows (y / 16).toNat (by omega)
      unfold bad
      rw [e, decide_eq_true (show w ≤ ((x + size - 1) / 16).toNat by omega)]
      simp
  · refine solR_any (r := ((y + size - 1) / 16).toNat) (c := (x / 16).toNat) ?_ (Nat.le_refl _) hx _ _ (by omega) (by unfold spanN; omega)
    unfold bad
    rw [decide_eq_true (show l.length ≤ ((y + size - 1) / 16).toNat by omega)]
    rfl
theorem solC_bad {l : List ByteArray} {r c n : Nat} (h : bad l r c = true) : solC l r (n + 1) c = true := if_pos h
theorem solC_ok {l : List ByteArray} {r c n : Nat} (h : bad l r c = false) : solC l r (n + 1) c = solC l r n (c + 1) := if_neg (by rw [h]; simp)
theorem solR_bad {l : List ByteArray} {c nc r n : Nat} (h : solC l r nc c = true) : solR l c nc (n + 1) r = true := if_pos h
theorem solR_ok {l : List ByteArray} {c nc r n : Nat} (h : solC l r nc c = false) : solR l c nc (n + 1) r = solR l c nc n (r + 1) := if_neg (by rw [h]; simp)
/-- a size of a place: SolidAt -/
def solA (l : List ByteArray) (x y size : Int) : Bool := if 1 ≤ size ∧ size ≤ 16 ∧ lvT l = true then solT l x y size else true
theorem solA_no {l : List ByteArray} {x y size : Int} (h : ¬ (1 ≤ size ∧ size ≤ 16 ∧ lvT l = true)) : solA l x y size = true := if_neg h
theorem solA_yes {l : List ByteArray} {x y size : Int} (h1 : 1 ≤ size) (h2 : size ≤ 16) (h3 : lvT l = true) : solA l x y size = solT l x y size := if_pos ⟨h1, h2, h3⟩
end Go.Proofs.YtiopbdodegopdaaDoor
/- BodyOk and MoveBody, plain. -/
namespace Go.Proofs.YtiopbdodegopdaaDoor
open Go.RowKit

/-- BodyOk -/
def okB (l : List ByteArray) (n k0 k1 k2 k3 k4 k5 k6 k7 k8 : Int) : Bool :=
  lvT l && (decide (0 ≤ k0 ∧ k0 ≤ 2) && (decide (0 ≤ k1 ∧ k1 < n) && (!solT l k2 k3 (szOf k0) && (decide (-15 ≤ k4 ∧ k4 ≤ 15) && (decide (-15 ≤ k5 ∧ k5 ≤ 15) &&
    (if k0 = 0 then decide (k6 = 1 ∨ k6 = -1) && (decide (0 ≤ k7 ∧ k7 ≤ 3) && (if k7 = 0 then decide (1 ≤ k8 ∧ k8 ≤ 20) else decide (0 ≤ k8 ∧ k8 ≤ 12)))
     else decide (k6 = 0) && (decide (k7 = 0) && (if k0 = 1 then decide (1 ≤ k8 ∧ k8 ≤ 25) else decide (k1 = 0) && decide (k8 = 0)))))))))
/-- n points in the direction d from x; true: stopped -/
def mvGo (sol : Int → Bool) (d : Int) : Nat → Int → Int × Bool
  | 0, x => (x, false)
  | n + 1, x => if sol (x + d) = true then (x, true) else mvGo sol d n (x + d)
theorem mvGo_stop {sol : Int → Bool} {d x : Int} {n : Nat} (h : sol (x + d) = true) : mvGo sol d (n + 1) x = (x, true) := if_pos h
theorem mvGo_more {sol : Int → Bool} {d x : Int} {n : Nat} (h : sol (x + d) = false) : mvGo sol d (n + 1) x = mvGo sol d n (x + d) := if_neg (by rw [h]; simp)
def dirOf (v : Int) : Int := if v < 0 then -1 else 1
def cntOf (v : Int) : Nat := v.natAbs
theorem dir_neg {v : Int} (h : v < 0) : dirOf v = -1 := if_pos h
theorem dir_pos {v : Int} (h : 0 ≤ v) : dirOf v = 1 := if_neg (by omega)
/-- the place, the speed and whether it was stopped, after both directions -/
structure Mv where
  x : Int
  y : Int
  vx : Int
  vy : Int
  st : Bool
def mvT (l : List ByteArray) (size x y vx vy : Int) : Mv :=
  let p := mvGo (fun a => solT l a y size) (dirOf vx) (cntOf vx) x
  let q := mvGo (fun b => solT l p.1 b size) (dirOf vy) (cntOf vy) y
  ⟨p.1, q.1, if p.2 = true then 0 else vx, if q.2 = true then 0 else vy, p.2 || q.2⟩
theorem mvT_eq {l : List ByteArray} {size x y vx vy x1 y1 : Int} {s1 s2 : Bool} (h1 : mvGo (fun a => solT l a y size) (dirOf vx) (cntOf vx) x = (x1, s1)) (h2 : mvGo (fun b => solT l x1 b size) (dirOf vy) (cntOf vy) y = (y1, s2)) :
    mvT l size x y vx vy = ⟨x1, y1, if s1 = true then 0 else vx, if s2 = true then 0 else vy, s1 || s2⟩ := by
  unfold mvT
  simp only [h1, h2]
def moveT (l : List ByteArray) (k0 x y vx vy : Int) : Mv := if solA l x y (szOf k0) = true ∨ ¬ (-15 ≤ vx ∧ vx ≤ 15 ∧ -15 ≤ vy ∧ vy ≤ 15) then ⟨x, y, vx, vy, false⟩ else mvT l (szOf k0) x y vx vy
end Go.Proofs.YtiopbdodegopdaaDoor
/- StartOf, plain: where a player starts. -/
namespace Go.Proofs.YtiopbdodegopdaaDoor
open Go.RowKit

/-- the last n columns of row r, of a width w; p: the digit's byte; (x, y): the first tile that is no wall, so far -/
def staC (row : ByteArray) (w : Nat) (r : Nat) (p : Int) (K : Int → Int → Int × Int) : Nat → Int → Int → Int × Int
  | 0, x, y => K x y
  | n + 1, x, y =>
    if byteAt row (w - (n + 1)) = p then (16 * ((w - (n + 1) : Nat) : Int) + 2, 16 * (r : Int) + 2)
    else if byteAt row (w - (n + 1)) ≠ 35 ∧ x < 0 then staC row w r p K n (16 * ((w - (n + 1) : Nat) : Int) + 2) (16 * (r : Int) + 2)
    else staC row w r p K n x y
def staR (l : List ByteArray) (w : Nat) (p : Int) : Nat → Int → Int → Int × Int
  | 0, x, y => (x, y)
  | m + 1, x, y => staC (rowAt l (l.length - (m + 1))) w (l.length - (m + 1)) p (staR l w p m) w x y
def startT (l : List ByteArray) (p : Int) : Int × Int := if 0 ≤ p ∧ p ≤ 3 ∧ lvT l = true then staR l (rowAt l 0).size (49 + p) l.length (-1) (-1) else (-1, -1)
theorem startT_no {l : List ByteArray} {p : Int} (h : ¬ (0 ≤ p ∧ p ≤ 3 ∧ lvT l = true)) : startT l p = (-1, -1) := if_neg h
theorem startT_yes {l : List ByteArray} {p : Int} (h1 : 0 ≤ p) (h2 : p ≤ 3) (h3 : lvT l = true) : startT l p = staR l (rowAt l 0).size (49 + p) (l.length - 0) (-1) (-1) := if_pos ⟨h1, h2, h3⟩
section
variable {row : ByteArray} {w k r : Nat} {p : Int} {K : Int → Int → Int × Int} {x y : Int}
theorem staC_step (h : k < w) : staC row w r p K (w - k) x y =
    if byteAt row k = p then (16 * (k : Int) + 2, 16 * (r : Int) + 2)
    else if byteAt row k ≠ 35 ∧ x < 0 then staC row w r p K (w - (k + 1)) (16 * (k : Int) + 2) (16 * (r : Int) + 2)
    else staC row w r p K (w - (k + 1)) x y := by
  obtain ⟨n, hn⟩ : ∃ n, w - k = n + 1 := ⟨w - k - 1, by omega⟩
  have e1 : w - (n + 1) = k := by omega
  have e2 : w - (k + 1) = n := by omega
  rw [hn, e2]
  simp only [staC, e1]
theorem staC_hit (h : k < w) (h1 : byteAt row k = p) : staC row w r p K (w - k) x y = (16 * (k : Int) + 2, 16 * (r : Int) + 2) := by rw [staC_step h, if_pos h1]
theorem staC_first (h : k < w) (h1 : byteAt row k ≠ p) (h2 : byteAt row k ≠ 35) (h3 : x < 0) : staC row w r p K (w - k) x y = staC row w r p K (w - (k + 1)) (16 * (k : Int) + 2) (16 * (r : Int) + 2) := by rw [staC_step h, if_neg h1, if_pos ⟨h2, h3⟩]
theorem staC_wall (h : k < w) (h1 : byteAt row k ≠ p) (h2 : byteAt row k = 35) : staC row w r p K (w - k) x y = staC row w r p K (w - (k + 1)) x y := by rw [staC_step h, if_neg h1, if_neg (by omega)]
theorem staC_later (h : k < w) (h1 : byteAt row k ≠ p) (h3 : 0 ≤ x) : staC row w r p K (w - k) x y = staC row w r p K (w - (k + 1)) x y := by rw [staC_step h, if_neg h1, if_neg (by omega)]
theorem staC_end (h : k = w) : staC row w r p K (w - k) x y = K x y := by subst h; rw [Nat.sub_self]; rfl
end
theorem staR_row {l : List ByteArray} {w r : Nat} {p x y : Int} (h : r < l.length) : staR l w p (l.length - r) x y = staC (rowAt l r) w r p (staR l w p (l.length - (r + 1))) (w - 0) x y := by
  obtain ⟨n, hn⟩ : ∃ n, l.length - r = n + 1 := ⟨l.length - r - 1, by omega⟩
  have e1 : l.length - (n + 1) = r := by omega
  have e2 : l.length - (r + 1) = n := by omega
  rw [hn, e2]
  simp only [staR, e1, Nat.sub_zero]
theorem staR_end {l : List ByteArray} {w r : Nat} {p x y : Int} (h : r = l.length) : staR l w p (l.length - r) x y = (x, y) := by subst h; rw [Nat.sub_self]; rfl
end Go.Proofs.YtiopbdodegopdaaDoor
/- Walls, plain: when a place is free; smaller places inside a free one; a tile that is no wall. -/
namespace Go.Proofs.YtiopbdodegopdaaDoor
open Go.RowKit

theorem solC_free {l : List ByteArray} {r : Nat} : ∀ {n c0 : Nat}, solC l r n c0 = false → ∀ c, c0 ≤ c → c < c0 + n → bad l r c = false
  | 0, _, _, c, h1, h2 => by omega
  | n + 1, c0, h, c, h1, h2 => by
    simp only [solC] at h
    split at h
    · cases h
    · rename_i hb
      by_cases e : c = c0
      · subst e; simpa using hb
      · exact solC_free h c (by omega) (by omega)
theorem solR_free {l : List ByteArray} {c0 nc : Nat} : ∀ {n r0 : Nat}, solR l c0 nc n r0 = false → ∀ r c, r0 ≤ r → r < r0 + n → c0 ≤ c → c < c0 + nc → bad l r c = false
  | 0, _, _, r, c, h1, h2, _, _ => by omega
  | n + 1, r0, h, r, c, h1, h2, h3, h4 => by
    simp only [solR] at h
    split at h
    · cases h
    · rename_i hb
      by_cases e : r = r0
      · subst e; exact solC_free (by simpa using hb) c h3 h4
      · exact solR_free h r c (by omega) (by omega) h3 h4
theorem solC_mk {l : List ByteArray} {r : Nat} : ∀ {n c0 : Nat}, (∀ c, c0 ≤ c → c < c0 + n → bad l r c = false) → solC l r n c0 = false
  | 0, _, _ => rfl
  | n + 1, c0, h => by
    simp only [solC]
    rw [if_neg (by rw [h c0 (Nat.le_refl _) (by omega)]; simp)]
    exact solC_mk fun c h1 h2 => h c (by omega) (by omega)
theorem solR_mk {l : List ByteArray} {c0 nc : Nat} : ∀ {n r0 : Nat}, (∀ r c, r0 ≤ r → r < r0 + n → c0 ≤ c → c < c0 + nc → bad l r c = false) → solR l c0 nc n r0 = false
  | 0, _, _ => rfl
  | n + 1, r0, h => by
    simp only [solR]
    rw [if_neg (by rw [solC_mk fun c h1 h2 => h r0 c (Nat.le_refl _) (by omega) h1 h2]; simp)]
    exact solR_mk fun r c h1 h2 h3 h4 => h r c (by omega) (by omega) h3 h4
/-- a place is free: inside the bounds, and no wall among its tiles -/
def FreeAt (l : List ByteArray) (x y size : Int) : Prop :=
  0 ≤ x ∧ x ≤ 1000 ∧ 0 ≤ y ∧ y ≤ 1000 ∧ ∀ r c : Nat, y / 16 ≤ r → (r : Int) ≤ (y + size - 1) / 16 → x / 16 ≤ c → (c : Int) ≤ (x + size - 1) / 16 → bad l r c = false
theorem free_of {l : List ByteArray} {x y size : Int} (h : solT l x y size = false) : FreeAt l x y size := by
  unfold solT at h
  split at h
  · cases h
  · rename_i h0
    refine ⟨by omega, by omega, by omega, by omega, fun r c h1 h2 h3 h4 => ?_⟩
    unfold solI at h
    exact solR_free h r c (by omega) (by unfold spanN; omega) (by omega) (by unfold spanN; omega)
theorem free_mk {l : List ByteArray} {x y size : Int} (h : FreeAt l x y size) : solT l x y size = false := by
  obtain ⟨h1, h2, h3, h4, h5⟩ := h
  rw [solT_in h1 h2 h3 h4]
  exact solR_mk fun r c a1 a2 a3 a4 => h5 r c (by omega) (by unfold spanN at a2; omega) (by omega) (by unfold spanN at a4; omega)
/-- what is free lies inside the level -/
theorem free_in {l : List ByteArray} {w : Nat} {x y size : Int} (hl : Lv l w) (hs : 1 ≤ size) (hs2 : size ≤ 16) (h : solT l x y size = false) : 0 ≤ x ∧ x ≤ 16 * (w : Int) - size ∧ 0 ≤ y ∧ y ≤ 16 * (l.length : Int) - size := by
  by_cases h0 : x < 0 ∨ y < 0 ∨ 16 * (w : Int) - size < x ∨ 16 * (l.length : Int) - size < y
  · rw [solT_out hl hs hs2 h0] at h; cases h
  · omega
theorem free_bd {l : List ByteArray} {w : Nat} {x y size : Int} (hl : Lv l w) (hs : 1 ≤ size) (hs2 : size ≤ 16) (h : solT l x y size = false) : 0 ≤ x ∧ x + size ≤ 320 ∧ 0 ≤ y ∧ y + size ≤ 192 := by
  have h1 := free_in hl hs hs2 h
  have h2 := hl.w20
  have h3 := hl.n12
  omega
/-- a smaller place inside a free one -/
theorem free_sub {l : List ByteArray} {w : Nat} {x y size dx dy s : Int} (hl : Lv l w) (hs : 1 ≤ size) (hs2 : size ≤ 16) (h : solT l x y size = false) (h1 : 0 ≤ dx) (h2 : 0 ≤ dy) (h3 : 1 ≤ s) (h4 : dx + s ≤ size) (h5 : dy + s ≤ size) : solT l (x + dx) (y + dy) s = false := by
  have hb := free_bd hl hs hs2 h
  obtain ⟨_, _, _, _, hf⟩ := free_of h
  exact free_mk ⟨by omega, by omega, by omega, by omega, fun r c a1 a2 a3 a4 => hf r c (by omega) (by omega) (by omega) (by omega)⟩
/-- inside one tile that is no wall -/
theorem free_tile {l : List ByteArray} {r c : Nat} {d s : Int} (hb : bad l r c = false) (hr : r < 60) (hc : c < 60) (h1 : 0 ≤ d) (h2 : 1 ≤ s) (h3 : d + s ≤ 16) : solT l (16 * (c : Int) + d) (16 * (r : Int) + d) s = false := by
  refine free_mk ⟨by omega, by omega, by omega, by omega, fun r' c' a1 a2 a3 a4 => ?_⟩
  obtain rfl : r' = r := by omega
  obtain rfl : c' = c := by omega
  exact hb
theorem bad_no {l : List ByteArray} {w r c : Nat} (hl : Lv l w) (hr : r < l.length) (hc : c < w) (h : byteAt (rowAt l r) c ≠ 35) : bad l r c = false := by
  unfold bad
  rw [hl.rows r hr, decide_eq_false (show ¬ l.length ≤ r by omega), decide_eq_false (show ¬ w ≤ c by omega), decide_eq_false h]
  rfl
/-- a valid level has a tile that is no wall -/
theorem goC_op {row : ByteArray} {w : Nat} {e0 : Bool} {K : List Bool → Bool → Bool} : ∀ n sn op, n ≤ w → goC row w e0 K n sn op = true → (∃ k, k < w ∧ byteAt row k ≠ 35) ∨ ∃ sn', K sn' op = true
  | 0, sn, op, _, h => .inr ⟨sn, h⟩
  | n + 1, sn, op, hn, h => by
    by_cases hw : byteAt row (w - (n + 1)) = 35
    · simp only [goC] at h
      rw [if_pos hw] at h
      exact goC_op n sn op (by omega) h
    · exact .inl ⟨w - (n + 1), by omega, hw⟩
theorem goR_op {l : List ByteArray} {w : Nat} : ∀ m sn, m ≤ l.length → goR l w m sn false = true → ∃ r k, r < l.length ∧ k < w ∧ byteAt (rowAt l r) k ≠ 35
  | 0, sn, _, h => by simp [goR] at h
  | m + 1, sn, hm, h => by
    simp only [goR] at h
    split at h
    · rcases goC_op w _ _ (Nat.le_refl _) h with ⟨k, hk, hb⟩ | ⟨sn', h'⟩
      · exact ⟨_, k, by omega, hk, hb⟩
      · exact goR_op m sn' (by omega) h'
    · cases h
theorem lv_open {l : List ByteArray} (h : lvT l = true) : ∃ r k, r < l.length ∧ k < (rowAt l 0).size ∧ byteAt (rowAt l r) k ≠ 35 := by
  by_cases h0 : 3 ≤ l.length ∧ l.length ≤ 12 ∧ 4 ≤ (rowAt l 0).size ∧ (rowAt l 0).size ≤ 20
  · obtain ⟨h1, h2, h3, h4⟩ := h0
    rw [lvT_in h1 h2 h3 h4] at h
    exact goR_op _ _ (by omega) h
  · rw [lvT_out h0] at h; cases h
/-- where a player starts -/
def okP (l : List ByteArray) (w : Nat) (z : Int × Int) : Prop := ∃ r c : Nat, r < l.length ∧ c < w ∧ byteAt (rowAt l r) c ≠ 35 ∧ z = (16 * (c : Int) + 2, 16 * (r : Int) + 2)
theorem staC_ok {l : List ByteArray} {w r : Nat} {p : Int} {K : Int → Int → Int × Int} (hr : r < l.length) (hp : p ≠ 35) (hK : ∀ x y, okP l w (x, y) → okP l w (K x y)) :
    ∀ n x y, n ≤ w → ((okP l w (x, y)) ∨ (x < 0 ∧ ((∃ k, w - n ≤ k ∧ k < w ∧ byteAt (rowAt l r) k ≠ 35) ∨ (∀ x y, x < 0 → okP l w (K x y))))) → okP l w (staC (rowAt l r) w r p K n x y)
  | 0, x, y, _, h => by
    simp only [staC]
    rcases h with h | ⟨hx, ⟨k, h1, h2, _⟩ | h⟩
    · exact hK x y h
    · omega
    · exact h x y hx
  | n + 1, x, y, hn, h => by
    simp only [staC]
    by_cases h1 : byteAt (rowAt l r) (w - (n + 1)) = p
    · rw [if_pos h1]
      exact ⟨r, w - (n + 1), hr, by omega, by omega, rfl⟩
    · rw [if_neg h1]
      by_cases h2 : byteAt (rowAt l r) (w - (n + 1)) ≠ 35 ∧ x < 0
      · rw [if_pos h2]
        exact staC_ok hr hp hK n _ _ (by omega) (.inl ⟨r, w - (n + 1), hr, by omega, h2.1, rfl⟩)
      · rw [if_neg h2]
        refine staC_ok hr hp hK n _ _ (by omega) ?_
        rcases h with h | ⟨hx, ⟨k, h3, h4, h5⟩ | h⟩
        · exact .inl h
        · refine .inr ⟨hx, .inl ⟨k, ?_, h4, h5⟩⟩
          have : k ≠ w - (n + 1) := fun e => h2 ⟨by rw [← e]; exact h5, hx⟩
          omega
        · exact .inr ⟨hx, .inr h⟩
theorem staR_ok {l : List ByteArray} {w : Nat} {p : Int} (hp : p ≠ 35) : ∀ m x y, m ≤ l.length → (okP l w (x, y) ∨ (x < 0 ∧ ∃ r k, l.length - m ≤ r ∧ r < l.length ∧ k < w ∧ byteAt (rowAt l r) k ≠ 35)) → okP l w (staR l w p m x y)
  | 0, x, y, _, h => by
    simp only [staR]
    rcases h with h | ⟨_, r, k, h1, h2, _⟩
    · exact h
    · omega
  | m + 1, x, y, hm, h => by
    simp only [staR]
    refine staC_ok (by omega) hp (fun x y h => staR_ok hp m x y (by omega) (.inl h)) w x y (Nat.le_refl _) ?_
    rcases h with h | ⟨hx, r, k, h1, h2, h3, h4⟩
    · exact .inl h
    · refine .inr ⟨hx, ?_⟩
      by_cases e : r = l.length - (m + 1)
      · exact .inl ⟨k, by omega, h3, by rw [← e]; exact h4⟩
      · exact .inr fun x y hx => staR_ok hp m x y (by omega) (.inr ⟨hx, r, k, by omega, h2, h3, h4⟩)
theorem start_ok {l : List ByteArray} {p : Int} (h : lvT l = true) (h0 : 0 ≤ p) (h1 : p ≤ 3) : okP l (rowAt l 0).size (startT l p) := by
  rw [startT_yes h0 h1 h]
  obtain ⟨r, k, h2, h3, h4⟩ := lv_open h
  exact staR_ok (by omega) _ _ _ (by omega) (.inr ⟨by omega, r, k, by omega, h2, h3, h4⟩)
theorem start_free {l : List ByteArray} {p : Int} (h : lvT l = true) (h0 : 0 ≤ p) (h1 : p ≤ 3) : solT l (startT l p).1 (startT l p).2 12 = false := by
  obtain ⟨r, c, hr, hc, hb, e⟩ := start_ok h h0 h1
  have hl := lvT_lv h
  have h2 := hl.n12
  have h3 := hl.w20
  rw [e]
  exact free_tile (bad_no hl hr hc hb) (by omega) (by omega) (by omega) (by omega) (by omega)
end Go.Proofs.YtiopbdodegopdaaDoor
/- Bodies and worlds, plain: what a tick does. No program. -/
namespace Go.Proofs.YtiopbdodegopdaaDoor
open Go.RowKit

structure Bd where
  kind : Int
  owner : Int
  x : Int
  y : Int
  vx : Int
  vy : Int
  aim : Int
  life : Int
  timer : Int
def Bd.cells (b : Bd) : List Value := [.int .i64 b.kind, .int .i64 b.owner, .int .i64 b.x, .int .i64 b.y, .int .i64 b.vx, .int .i64 b.vy, .int .i64 b.aim, .int .i64 b.life, .int .i64 b.timer]
def Bd.val (b : Bd) : Value := bod b.kind b.owner b.x b.y b.vx b.vy b.aim b.life b.timer
def zB : Bd := ⟨0, 0, 0, 0, 0, 0, 0, 0, 0⟩
theorem bd_ext {a b : Bd} (h : a.kind = b.kind ∧ a.owner = b.owner ∧ a.x = b.x ∧ a.y = b.y ∧ a.vx = b.vx ∧ a.vy = b.vy ∧ a.aim = b.aim ∧ a.life = b.life ∧ a.timer = b.timer) : a = b := by
  obtain ⟨h0, h1, h2, h3, h4, h5, h6, h7, h8⟩ := h
  cases a; cases b; simp_all
theorem Bd.cells_len (b : Bd) : b.cells.length = 9 := rfl
def cellsB (l : List Bd) : List Value := l.flatMap Bd.cells
theorem cellsB_nil : cellsB [] = [] := rfl
theorem cellsB_cons (b : Bd) (l : List Bd) : cellsB (b :: l) = b.cells ++ cellsB l := rfl
theorem cellsB_append (l r : List Bd) : cellsB (l ++ r) = cellsB l ++ cellsB r := by simp [cellsB]
theorem cellsB_len (l : List Bd) : (cellsB l).length = l.length * 9 := by
  induction l with
  | nil => rfl
  | cons b l ih => rw [cellsB_cons, List.length_append, ih, Bd.cells_len, List.length_cons]; omega
theorem cellsB_at : ∀ {l : List Bd} {k j : Nat} (h : k < l.length), j < 9 → (cellsB l)[k * 9 + j]? = (l[k]'h).cells[j]?
  | b :: l, 0, j, _, hj => by
    rw [cellsB_cons, List.getElem?_append_left (by rw [Bd.cells_len]; omega)]
    simp
  | b :: l, k + 1, j, h, hj => by
    rw [cellsB_cons, List.getElem?_append_right (by rw [Bd.cells_len]; omega), Bd.cells_len, show (k + 1) * 9 + j - 9 = k * 9 + j by omega, cellsB_at (by simpa using h) hj]
    simp
theorem cellsB_take (l : List Bd) (k : Nat) : cellsB (l.take k) = (cellsB l).take (k * 9) := by
  induction l generalizing k with
  | nil => simp [cellsB]
  | cons b l ih =>
    cases k with
    | zero => simp [cellsB]
    | succ k =>
      rw [List.take_succ_cons, cellsB_cons, cellsB_cons, ih, List.take_append, List.take_of_length_le (l := b.cells) (by rw [Bd.cells_len]; omega), Bd.cells_len, show (k + 1) * 9 - 9 = k * 9 by omega]
theorem cellsB_drop (l : List Bd) (k : Nat) : cellsB (l.drop k) = (cellsB l).drop (k * 9) := by
  induction l generalizing k with
  | nil => simp [cellsB]
  | cons b l ih =>
    cases k with
    | zero => simp [cellsB]
    | succ k =>
      rw [List.drop_succ_cons, cellsB_cons, ih, List.drop_append, List.drop_of_length_le (l := b.cells) (by rw [Bd.cells_len]; omega), Bd.cells_len, List.nil_append, show (k + 1) * 9 - 9 = k * 9 by omega]
theorem cellsB_set_in {l : List Bd} {k j : Nat} (h : k < l.length) (b : Bd) (hj : j < 9) : (cellsB (l.set k b))[k * 9 + j]? = b.cells[j]? := by
  rw [cellsB_at (l := l.set k b) (by rw [List.length_set]; exact h) hj, List.getElem_set_self]
theorem cellsB_set_out {l : List Bd} {k j : Nat} (b : Bd) (ho : j < k * 9 ∨ k * 9 + 9 ≤ j) : (cellsB (l.set k b))[j]? = (cellsB l)[j]? := by
  by_cases hl : j / 9 < l.length
  · have e : j = j / 9 * 9 + j % 9 := by omega
    have hne : k ≠ j / 9 := by omega
    have h1 := cellsB_at (l := l) (k := j / 9) (j := j % 9) hl (by omega)
    have h2 := cellsB_at (l := l.set k b) (k := j / 9) (j := j % 9) (by rw [List.length_set]; exact hl) (by omega)
    rw [List.getElem_set_ne hne] at h2
    rw [e, h1, h2]
  · rw [List.getElem?_eq_none (by rw [cellsB_len, List.length_set]; omega), List.getElem?_eq_none (by rw [cellsB_len]; omega)]
theorem cellsB_one (l : List Bd) : ∀ u ∈ cellsB l, u.oneCell' = true := by
  intro u hu
  obtain ⟨b, _, hb⟩ := List.mem_flatMap.1 hu
  simp only [Bd.cells, List.mem_cons, List.not_mem_nil, or_false] at hb
  rcases hb with rfl | rfl | rfl | rfl | rfl | rfl | rfl | rfl | rfl <;> rfl

structure Wd where
  rows : List ByteArray
  tick : Int
  seed : Int
  scores : List Int
  bodies : List Bd

/-! what a body does -/
def okBd (l : List ByteArray) (n : Int) (b : Bd) : Bool := okB l n b.kind b.owner b.x b.y b.vx b.vy b.aim b.life b.timer
def moveU (l : List ByteArray) (b : Bd) : Bd × Bool :=
  let m := mvT l (szOf b.kind) b.x b.y b.vx b.vy
  ({ b with x := m.x, y := m.y, vx := m.vx, vy := m.vy }, m.st)
def moveB (l : List ByteArray) (b : Bd) : Bd × Bool :=
  if solA l b.x b.y (szOf b.kind) = true ∨ ¬ (-15 ≤ b.vx ∧ b.vx ≤ 15 ∧ -15 ≤ b.vy ∧ b.vy ≤ 15) then (b, false) else moveU l b
def bitL (i : Int) : Bool := decide (i % 2 = 1)
def bitR (i : Int) : Bool := decide (i / 2 % 2 = 1)
def bitJ (i : Int) : Bool := decide (i / 4 % 2 = 1)
def bitF (i : Int) : Bool := decide (i / 8 % 2 = 1)
def stVX (i : Int) : Int := if bitR i = true ∧ bitL i = false then 3 else if bitL i = true ∧ bitR i = false then -3 else 0
def stAim (i a : Int) : Int := if bitR i = true ∧ bitL i = false then 1 else if bitL i = true ∧ bitR i = false then -1 else a
def stVY (l : List ByteArray) (i : Int) (b : Bd) : Int := if bitJ i = true ∧ solT l b.x (b.y + 1) 12 = true then -9 else min (b.vy + 1) 8
def stT (t : Int) : Int := if 0 < t then t - 1 else t
def stFire (i t : Int) : Bool := bitF i && decide (stT t = 0)
def steerU (l : List ByteArray) (b : Bd) (i : Int) : Bd × Bool :=
  ({ b with vx := stVX i, vy := stVY l i b, aim := stAim i b.aim, timer := if stFire i b.timer = true then 12 else stT b.timer }, stFire i b.timer)
def steerOk (l : List ByteArray) (b : Bd) (i : Int) : Bool := decide (b.kind = 0) && (decide (1 ≤ b.life) && (decide (0 ≤ b.owner ∧ b.owner ≤ 3) && (decide (0 ≤ i ∧ i ≤ 15) && okBd l (b.owner + 1) b)))
def steerB (l : List ByteArray) (b : Bd) (i : Int) : Bd × Bool := if steerOk l b i = true then steerU l b i else (b, false)
def shotB (b : Bd) : Bd := if 0 ≤ b.x ∧ b.x ≤ 1000 ∧ 0 ≤ b.y ∧ b.y ≤ 1000 ∧ -1 ≤ b.aim ∧ b.aim ≤ 1 then ⟨1, b.owner, b.x + 4, b.y + 4, 6 * b.aim, 0, 0, 0, 25⟩ else zB
def freshB (l : List ByteArray) (k : Nat) : Bd := ⟨0, k, (startT l k).1, (startT l k).2, 0, 0, 1, 3, 0⟩
def meetB (a b : Bd) : Bool := meetT a.kind a.x a.y b.kind b.x b.y

/-! a tick, part by part -/
def bAt (l : List Bd) (k : Nat) : Bd := l.getD k zB
theorem bAt_eq {l : List Bd} {k : Nat} (h : k < l.length) : bAt l k = l[k]'h := by simp [bAt, List.getD, List.getElem?_eq_getElem h]
def iAt (l : List Int) (k : Nat) : Int := l.getD k 0
theorem iAt_eq {l : List Int} {k : Nat} (h : k < l.length) : iAt l k = l[k]'h := by simp [iAt, List.getD, List.getElem?_eq_getElem h]
def plStep (l : List ByteArray) (row : List Int) (k : Nat) (bs : List Bd) : List Bd :=
  if (bAt bs k).life = 0 then bs.set k (if (bAt bs k).timer - 1 = 0 then freshB l k else { bAt bs k with timer := (bAt bs k).timer - 1 })
  else if (steerU l (bAt bs k) (iAt row k)).2 = true ∧ bs.length < 24 then bs.set k (steerU l (bAt bs k) (iAt row k)).1 ++ [shotB (steerU l (bAt bs k) (iAt row k)).1]
  else bs.set k (steerU l (bAt bs k) (iAt row k)).1
def plUp (l : List ByteArray) (row : List Int) (bs : List Bd) : Nat → List Bd
  | 0 => bs
  | k + 1 => plStep l row k (plUp l row bs k)
def mvOne (l : List ByteArray) (b : Bd) : Option Bd :=
  if b.kind = 0 then (if 0 < b.life then some (moveU l b).1 else some b)
  else if b.kind = 1 then (if (moveU l b).2 = true ∨ (moveU l b).1.timer - 1 = 0 then none else some { (moveU l b).1 with timer := (moveU l b).1.timer - 1 })
  else some b
def mvAll (l : List ByteArray) (bs : List Bd) : List Bd := bs.filterMap (mvOne l)
theorem mvAll_succ {l : List ByteArray} {bs : List Bd} {k : Nat} (h : k < bs.length) : mvAll l (bs.take (k + 1)) = mvAll l (bs.take k) ++ (mvOne l (bs[k]'h)).toList := by
  unfold mvAll
  rw [List.take_add_one, List.getElem?_eq_getElem h, List.filterMap_append]
  congr 1
/-- the first player from k on, with life, other than one, that a body meets -/
def metGo (pl : List Bd) (b : Bd) (but : Int) : Nat → Int
  | 0 => -1
  | m + 1 => if ((pl.length - (m + 1) : Nat) : Int) ≠ but ∧ 0 < (bAt pl (pl.length - (m + 1))).life ∧ meetB (bAt pl (pl.length - (m + 1))) b = true then ((pl.length - (m + 1) : Nat) : Int) else metGo pl b but m
def metT (pl : List Bd) (b : Bd) (but : Int) : Int := metGo pl b but pl.length
theorem metGo_hit {pl : List Bd} {b : Bd} {but : Int} {k : Nat} (hk : k < pl.length) (h1 : (k : Int) ≠ but) (h2 : 0 < (bAt pl k).life) (h3 : meetB (bAt pl k) b = true) : metGo pl b but (pl.length - k) = k := by
  obtain ⟨n, hn⟩ : ∃ n, pl.length - k = n + 1 := ⟨pl.length - k - 1, by omega⟩
  have e : pl.length - (n + 1) = k := by omega
  rw [hn]
  simp only [metGo, e]
  rw [if_pos ⟨h1, h2, h3⟩]
theorem metGo_miss {pl : List Bd} {b : Bd} {but : Int} {k : Nat} (hk : k < pl.length) (h : (k : Int) = but ∨ ¬ 0 < (bAt pl k).life ∨ meetB (bAt pl k) b = false) : metGo pl b but (pl.length - k) = metGo pl b but (pl.length - (k + 1)) := by
  obtain ⟨n, hn⟩ : ∃ n, pl.length - k = n + 1 := ⟨pl.length - k - 1, by omega⟩
  have e : pl.length - (n + 1) = k := by omega
  have e2 : pl.length - (k + 1) = n := by omega
  rw [hn, e2]
  simp only [metGo, e]
  rw [if_neg]
  rintro ⟨h1, h2, h3⟩
  rcases h with h | h | h
  · exact h1 h
  · exact h h2
  · rw [h3] at h; cases h
theorem metGo_bd (pl : List Bd) (b : Bd) (but : Int) : ∀ m, m ≤ pl.length → -1 ≤ metGo pl b but m ∧ metGo pl b but m < pl.length
  | 0, _ => by simp only [metGo]; omega
  | m + 1, h => by
    simp only [metGo]
    split
    · omega
    · exact metGo_bd pl b but m (by omega)
theorem metT_bd (pl : List Bd) (b : Bd) (but : Int) : -1 ≤ metT pl b but ∧ metT pl b but < pl.length := metGo_bd pl b but _ (Nat.le_refl _)
def addT (sc : List Int) (p : Int) : List Int := sc.set p.toNat (min (iAt sc p.toNat + 1) 1000000)
/-- a hit on player k by a shot of p -/
def hitP (pl : List Bd) (k : Nat) : List Bd := pl.set k (if (bAt pl k).life - 1 = 0 then { bAt pl k with life := 0, vx := 0, vy := 0, timer := 20 } else { bAt pl k with life := (bAt pl k).life - 1 })
def hitS (pl : List Bd) (sc : List Int) (k : Nat) (p : Int) : List Int := if (bAt pl k).life - 1 = 0 then addT sc p else sc
/-- players, scores, and the bodies that are left -/
structure Sh where
  pl : List Bd
  sc : List Int
  left : List Bd
def shStep (s : Sh) (b : Bd) : Sh :=
  if b.kind = 1 ∧ 0 ≤ metT s.pl b b.owner then ⟨hitP s.pl (metT s.pl b b.owner).toNat, hitS s.pl s.sc (metT s.pl b b.owner).toNat b.owner, s.left⟩
  else ⟨s.pl, s.sc, s.left ++ [b]⟩
def shAll (pl : List Bd) (sc : List Int) (bs : List Bd) : Sh := bs.foldl shStep ⟨pl, sc, []⟩
def itStep (pl : List Bd) (s : List Int × List Bd) (b : Bd) : List Int × List Bd :=
  if b.kind = 2 ∧ 0 ≤ metT pl b (-1) then (addT s.1 (metT pl b (-1)), s.2) else (s.1, s.2 ++ [b])
def itAll (pl : List Bd) (sc : List Int) (bs : List Bd) : List Int × List Bd := bs.foldl (itStep pl) (sc, [])
theorem shAll_succ {pl : List Bd} {sc : List Int} {bs : List Bd} {k : Nat} (h : k < bs.length) : shAll pl sc (bs.take (k + 1)) = shStep (shAll pl sc (bs.take k)) (bs[k]'h) := by
  unfold shAll
  rw [List.take_add_one, List.getElem?_eq_getElem h, List.foldl_append]
  rfl
theorem itAll_succ {pl : List Bd} {sc : List Int} {bs : List Bd} {k : Nat} (h : k < bs.length) : itAll pl sc (bs.take (k + 1)) = itStep pl (itAll pl sc (bs.take k)) (bs[k]'h) := by
  unfold itAll
  rw [List.take_add_one, List.getElem?_eq_getElem h, List.foldl_append]
  rfl
/-! spots -/
/-- the spots of the first n columns of row r -/
def spC (row : ByteArray) (r : Nat) : Nat → List (Int × Int)
  | 0 => []
  | c + 1 => spC row r c ++ (if byteAt row c = 111 then [(16 * (c : Int) + 4, 16 * (r : Int) + 4)] else [])
def spR (l : List ByteArray) : Nat → List (Int × Int)
  | 0 => []
  | r + 1 => spR l r ++ spC (rowAt l r) r (rowAt l r).size
def spotsT (l : List ByteArray) : List (Int × Int) := if lvT l = true then spR l l.length else []
def pAt (l : List (Int × Int)) (k : Nat) : Int × Int := l.getD k (0, 0)
/-! the whole tick -/
/-- players, then the others: what is left of them, the scores -/
def hitsT (n : Nat) (sc : List Int) (bs : List Bd) : List Int × List Bd :=
  let s := shAll (bs.take n) sc (bs.drop n)
  let t := itAll s.pl s.sc s.left
  (t.1, s.pl ++ t.2)
def bodies1 (w : Wd) (row : List Int) : List Bd := mvAll w.rows (plUp w.rows row w.bodies w.scores.length)
def hits1 (w : Wd) (row : List Int) : List Int × List Bd := hitsT w.scores.length w.scores (bodies1 w row)
def hasItem (bs : List Bd) (p : Int × Int) : Bool := bs.any fun b => decide (b.kind = 2) && (decide (b.x = p.1) && decide (b.y = p.2))
def itemB (p : Int × Int) : Bd := ⟨2, 0, p.1, p.2, 0, 0, 0, 0, 0⟩
def randT (s : Int) (n : Nat) : Int := nextR s / 16 % (n : Int)
def stepU (w : Wd) (row : List Int) : Wd :=
  let h := hits1 w row
  let sp := spotsT w.rows
  if (w.tick + 1) % 16 ≠ 0 ∨ sp.length = 0 ∨ 24 ≤ h.2.length then ⟨w.rows, w.tick + 1, nextR w.seed, h.1, h.2⟩
  else if hasItem h.2 (pAt sp (randT (nextR w.seed) sp.length).toNat) = true then ⟨w.rows, w.tick + 1, nextR (nextR w.seed), h.1, h.2⟩
  else ⟨w.rows, w.tick + 1, nextR (nextR w.seed), h.1, h.2 ++ [itemB (pAt sp (randT (nextR w.seed) sp.length).toNat)]⟩
/-! valid worlds -/
def bodiesGo (l : List ByteArray) (n : Nat) : Nat → List Bd → Bool
  | _, [] => true
  | k, b :: r => okBd l n b && (decide (k < n ↔ b.kind = 0) && (decide (k < n → b.owner = k) && bodiesGo l n (k + 1) r))
def scoresOk (l : List Int) : Bool := l.all fun x => inB x 0 1000000
def okW (w : Wd) : Bool := lvT w.rows && (inB w.tick 0 100000 && (inB w.seed 0 65535 && (decide (1 ≤ w.scores.length ∧ w.scores.length ≤ 4) && (scoresOk w.scores && (decide (w.scores.length ≤ w.bodies.length ∧ w.bodies.length ≤ 24) && bodiesGo w.rows w.scores.length 0 w.bodies)))))
def rowOk (row : List Int) (n : Nat) : Bool := decide (row.length = n) && row.all fun x => inB x 0 15
def stepT (w : Wd) (row : List Int) : Wd := if okW w = true ∧ w.tick ≠ 100000 ∧ rowOk row w.scores.length = true then stepU w row else w
def runT (w : Wd) (rows : List (List Int)) : Wd := rows.foldl stepT w
end Go.Proofs.YtiopbdodegopdaaDoor
/- Valid worlds stay valid, plain. -/
namespace Go.Proofs.YtiopbdodegopdaaDoor
open Go.RowKit

structure PlOk (l : List ByteArray) (k : Nat) (b : Bd) : Prop where
  kind : b.kind = 0
  owner : b.owner = k
  free : solT l b.x b.y 12 = false
  vx : -15 ≤ b.vx ∧ b.vx ≤ 15
  vy : -15 ≤ b.vy ∧ b.vy ≤ 15
  aim : b.aim = 1 ∨ b.aim = -1
  life : 0 ≤ b.life ∧ b.life ≤ 3
  dead : b.life = 0 → 1 ≤ b.timer ∧ b.timer ≤ 20
  live : b.life ≠ 0 → 0 ≤ b.timer ∧ b.timer ≤ 12
structure OtOk (l : List ByteArray) (n : Nat) (b : Bd) : Prop where
  kind : b.kind = 1 ∨ b.kind = 2
  owner : 0 ≤ b.owner ∧ b.owner < n
  free : solT l b.x b.y (szOf b.kind) = false
  vx : -15 ≤ b.vx ∧ b.vx ≤ 15
  vy : -15 ≤ b.vy ∧ b.vy ≤ 15
  aim : b.aim = 0
  life : b.life = 0
  shot : b.kind = 1 → 1 ≤ b.timer ∧ b.timer ≤ 25
  item : b.kind = 2 → b.owner = 0 ∧ b.timer = 0
theorem szOf_0 : szOf 0 = 12 := rfl
theorem szOf_1 : szOf 1 = 4 := rfl
theorem szOf_2 : szOf 2 = 8 := rfl
theorem okBd_lv {l : List ByteArray} {n : Int} {b : Bd} (h : okBd l n b = true) : lvT l = true := by
  unfold okBd okB at h
  simp only [Bool.and_eq_true] at h
  exact h.1
theorem okBd_pl {l : List ByteArray} {n : Int} {b : Bd} {k : Nat} (h : okBd l n b = true) (h0 : b.kind = 0) (hk : b.owner = k) : PlOk l k b := by
  unfold okBd okB at h
  rw [if_pos h0] at h
  simp only [Bool.and_eq_true, decide_eq_true_eq, Bool.not_eq_true'] at h
  obtain ⟨_, _, h2, h3, h4, h5, h6, h7, h8⟩ := h
  rw [h0] at h3
  refine ⟨h0, hk, h3, h4, h5, h6, h7, fun e => ?_, fun e => ?_⟩
  · rw [if_pos e] at h8; simpa using h8
  · rw [if_neg e] at h8; simpa using h8
theorem okBd_ot {l : List ByteArray} {n : Nat} {b : Bd} (h : okBd l n b = true) (h0 : b.kind ≠ 0) : OtOk l n b := by
  unfold okBd okB at h
  rw [if_neg h0] at h
  simp only [Bool.and_eq_true, decide_eq_true_eq, Bool.not_eq_true'] at h
  obtain ⟨_, h1, h2, h3, h4, h5, h6, h7, h8⟩ := h
  refine ⟨by omega, h2, h3, h4, h5, h6, h7, fun e => ?_, fun e => ?_⟩
  · rw [if_pos e] at h8; simpa using h8
  · rw [if_neg (by omega)] at h8; simpa using h8
theorem pl_okBd {l : List ByteArray} {n : Int} {b : Bd} {k : Nat} (hl : lvT l = true) (h : PlOk l k b) (hn : (k : Int) < n) : okBd l n b = true := by
  have h1 := h.owner
  unfold okBd okB
  rw [if_pos h.kind]
  simp only [Bool.and_eq_true, decide_eq_true_eq, Bool.not_eq_true']
  refine ⟨hl, by rw [h.kind]; omega, by omega, by rw [h.kind]; exact h.free, h.vx, h.vy, h.aim, h.life, ?_⟩
  by_cases e : b.life = 0
  · rw [if_pos e]; simpa using h.dead e
  · rw [if_neg e]; simpa using h.live e
theorem ot_okBd {l : List ByteArray} {n : Nat} {b : Bd} (hl : lvT l = true) (h : OtOk l n b) : okBd l n b = true := by
  have h1 := h.kind
  unfold okBd okB
  rw [if_neg (show b.kind ≠ 0 by omega)]
  simp only [Bool.and_eq_true, decide_eq_true_eq, Bool.not_eq_true']
  refine ⟨hl, by omega, h.owner, h.free, h.vx, h.vy, h.aim, h.life, ?_⟩
  by_cases e : b.kind = 1
  · rw [if_pos e]; simpa using h.shot e
  · rw [if_neg e]; simpa using h.item (by omega)
/-- n players, then others -/
structure Bods (l : List ByteArray) (n : Nat) (bs : List Bd) : Prop where
  le : n ≤ bs.length
  most : bs.length ≤ 24
  pl : ∀ k, k < n → PlOk l k (bAt bs k)
  ot : ∀ b ∈ bs.drop n, OtOk l n b
theorem Bods.ot_at {l : List ByteArray} {n : Nat} {bs : List Bd} (h : Bods l n bs) {k : Nat} (h1 : n ≤ k) (h2 : k < bs.length) : OtOk l n (bs[k]'h2) := by
  refine h.ot _ ?_
  rw [List.mem_iff_getElem?]
  exact ⟨k - n, by rw [List.getElem?_drop, show n + (k - n) = k by omega, List.getElem?_eq_getElem h2]⟩
theorem Bods.any_at {l : List ByteArray} {n : Nat} {bs : List Bd} (hl : lvT l = true) (h : Bods l n bs) {k : Nat} (h2 : k < bs.length) : okBd l n (bs[k]'h2) = true := by
  by_cases h1 : k < n
  · have := h.pl k h1
    rw [bAt_eq h2] at this
    exact pl_okBd hl this (by omega)
  · exact ot_okBd hl (h.ot_at (by omega) h2)
structure WOk (w : Wd) : Prop where
  lv : lvT w.rows = true
  tick : 0 ≤ w.tick ∧ w.tick ≤ 100000
  seed : 0 ≤ w.seed ∧ w.seed ≤ 65535
  n : 1 ≤ w.scores.length ∧ w.scores.length ≤ 4
  sc : ∀ x ∈ w.scores, 0 ≤ x ∧ x ≤ 1000000
  bods : Bods w.rows w.scores.length w.bodies
theorem bodiesGo_at {l : List ByteArray} {n : Nat} : ∀ {bs : List Bd} {k : Nat}, bodiesGo l n k bs = true → ∀ j (h : j < bs.length), okBd l n (bs[j]'h) = true ∧ (k + j < n ↔ (bs[j]'h).kind = 0) ∧ (k + j < n → (bs[j]'h).owner = ((k + j : Nat) : Int))
  | b :: r, k, h, 0, _ => by
    simp only [bodiesGo, Bool.and_eq_true, decide_eq_true_eq] at h
    exact ⟨h.1, by simpa using h.2.1, by simpa using h.2.2.1⟩
  | b :: r, k, h, j + 1, hj => by
    simp only [bodiesGo, Bool.and_eq_true, decide_eq_true_eq] at h
    have := bodiesGo_at h.2.2.2 j (by simpa using hj)
    rw [show k + 1 + j = k + (j + 1) by omega] at this
    simpa using this
theorem bodiesGo_mk {l : List ByteArray} {n : Nat} : ∀ {bs : List Bd} {k : Nat}, (∀ j (h : j < bs.length), okBd l n (bs[j]'h) = true ∧ (k + j < n ↔ (bs[j]'h).kind = 0) ∧ (k + j < n → (bs[j]'h).owner = ((k + j : Nat) : Int))) → bodiesGo l n k bs = true
  | [], k, _ => rfl
  | b :: r, k, h => by
    have h0 := h 0 (by simp)
    simp only [bodiesGo, Bool.and_eq_true, decide_eq_true_eq]
    refine ⟨h0.1, by simpa using h0.2.1, by simpa using h0.2.2, bodiesGo_mk fun j hj => ?_⟩
    have := h (j + 1) (by simpa using hj)
    rw [show k + 1 + j = k + (j + 1) by omega]
    simpa using this
theorem okW_ok {w : Wd} (h : okW w = true) : WOk w := by
  unfold okW at h
  simp only [Bool.and_eq_true, decide_eq_true_eq, inB_iff] at h
  obtain ⟨h1, h2, h3, h4, h5, h6, h7⟩ := h
  have hb := bodiesGo_at h7
  simp only [Nat.zero_add] at hb
  refine ⟨h1, h2, h3, h4, fun x hx => ?_, h6.1, h6.2, fun k hk => ?_, fun b hm => ?_⟩
  · exact inB_iff.1 (List.all_eq_true.1 h5 x hx)
  · have hk' : k < w.bodies.length := by omega
    obtain ⟨a1, a2, a3⟩ := hb k hk'
    rw [bAt_eq hk']
    exact okBd_pl a1 (a2.1 hk) (a3 hk)
  · obtain ⟨j, hj⟩ := List.mem_iff_getElem?.1 hm
    rw [List.getElem?_drop] at hj
    obtain ⟨hlt, rfl⟩ := List.getElem?_eq_some_iff.1 hj
    obtain ⟨a1, a2, a3⟩ := hb _ hlt
    exact okBd_ot a1 (fun e => by have := a2.2 e; omega)
theorem ok_okW {w : Wd} (h : WOk w) : okW w = true := by
  unfold okW
  simp only [Bool.and_eq_true, decide_eq_true_eq, inB_iff]
  refine ⟨h.lv, h.tick, h.seed, h.n, List.all_eq_true.2 fun x hx => inB_iff.2 (h.sc x hx), ⟨h.bods.le, h.bods.most⟩, bodiesGo_mk fun j hj => ?_⟩
  simp only [Nat.zero_add]
  refine ⟨h.bods.any_at h.lv hj, ?_, fun hk => ?_⟩
  · by_cases hk : j < w.scores.length
    · have := (h.bods.pl j hk).kind
      rw [bAt_eq hj] at this
      exact ⟨fun _ => this, fun _ => hk⟩
    · have := (h.bods.ot_at (by omega) hj).kind
      exact ⟨fun h => absurd h hk, fun e => by omega⟩
  · have := (h.bods.pl j hk).owner
    rw [bAt_eq hj] at this
    exact this
/-! steering -/
theorem stVX_bd (i : Int) : -15 ≤ stVX i ∧ stVX i ≤ 15 := by unfold stVX; split <;> (try split) <;> omega
theorem stAim_ok (i : Int) {a : Int} (h : a = 1 ∨ a = -1) : stAim i a = 1 ∨ stAim i a = -1 := by
  unfold stAim; split
  · exact .inl rfl
  · split
    · exact .inr rfl
    · exact h
theorem stVY_bd (l : List ByteArray) (i : Int) {b : Bd} (h : -15 ≤ b.vy) : -15 ≤ stVY l i b ∧ stVY l i b ≤ 15 := by unfold stVY; split <;> omega
theorem steer_ok {l : List ByteArray} {k : Nat} {b : Bd} (h : PlOk l k b) (hl : b.life ≠ 0) (i : Int) : PlOk l k (steerU l b i).1 := by
  have ht := h.live hl
  refine ⟨h.kind, h.owner, h.free, stVX_bd i, stVY_bd l i h.vy.1, stAim_ok i h.aim, h.life, fun e => absurd e hl, fun _ => ?_⟩
  simp only [steerU]
  unfold stT
  split
  · omega
  · split <;> omega
theorem fresh_ok {l : List ByteArray} {k : Nat} (hl : lvT l = true) (hk : k < 4) : PlOk l k (freshB l k) :=
  ⟨rfl, rfl, start_free hl (by omega) (by omega), by simp only [freshB]; omega, by simp only [freshB]; omega, .inl rfl, by simp only [freshB]; omega, fun e => by simp [freshB] at e, fun _ => by simp only [freshB]; omega⟩
theorem shot_ok {l : List ByteArray} {k n : Nat} {b : Bd} (hl : lvT l = true) (h : PlOk l k b) (hk : k < n) : OtOk l n (shotB b) := by
  have hb := free_bd (lvT_lv hl) (by omega) (by omega) h.free
  have ha := h.aim
  have ho := h.owner
  unfold shotB
  rw [if_pos (by omega)]
  exact ⟨.inl rfl, by simp only; omega, free_sub (lvT_lv hl) (by omega) (by omega) h.free (by omega) (by omega) (by rw [szOf_1]; omega) (by rw [szOf_1]; omega) (by rw [szOf_1]; omega), by simp only; omega, by simp only; omega, rfl, rfl, fun _ => by simp only; omega, fun e => by simp at e⟩
theorem bAt_set {l : List Bd} {k j : Nat} {b : Bd} (h : k < l.length) : bAt (l.set k b) j = if j = k then b else bAt l j := by
  unfold bAt List.getD
  by_cases e : j = k
  · subst e; rw [List.getElem?_set_self h, if_pos rfl]; rfl
  · rw [List.getElem?_set_ne (Ne.symm e), if_neg e]
theorem bAt_append {l r : List Bd} {k : Nat} (h : k < l.length) : bAt (l ++ r) k = bAt l k := by unfold bAt List.getD; rw [List.getElem?_append_left h]
theorem drop_set_lt {l : List Bd} {k n : Nat} {b : Bd} (h : k < n) : (l.set k b).drop n = l.drop n := by
  apply List.ext_getElem?
  intro j
  rw [List.getElem?_drop, List.getElem?_drop, List.getElem?_set_ne (by omega)]
theorem Bods.set_ {l : List ByteArray} {n k : Nat} {bs : List Bd} {b : Bd} (h : Bods l n bs) (hk : k < n) (hb : PlOk l k b) : Bods l n (bs.set k b) := by
  have hle := h.le
  refine ⟨by rw [List.length_set]; exact h.le, by rw [List.length_set]; exact h.most, fun j hj => ?_, fun x hx => ?_⟩
  · rw [bAt_set (by omega)]
    split
    · rename_i e; subst e; exact hb
    · exact h.pl j hj
  · rw [drop_set_lt hk] at hx; exact h.ot x hx
theorem Bods.snoc {l : List ByteArray} {n : Nat} {bs : List Bd} {b : Bd} (h : Bods l n bs) (hm : bs.length < 24) (hb : OtOk l n b) : Bods l n (bs ++ [b]) := by
  have hle := h.le
  refine ⟨by simp; omega, by simp; omega, fun j hj => ?_, fun x hx => ?_⟩
  · rw [bAt_append (by omega)]; exact h.pl j hj
  · rw [List.drop_append_of_le_length h.le] at hx
    rcases List.mem_append.1 hx with hx | hx
    · exact h.ot x hx
    · rw [List.mem_singleton.1 hx]; exact hb
theorem plStep_ok {l : List ByteArray} {n k : Nat} {bs : List Bd} (row : List Int) (hl : lvT l = true) (hn : n ≤ 4) (h : Bods l n bs) (hk : k < n) : Bods l n (plStep l row k bs) := by
  have hp := h.pl k hk
  unfold plStep
  by_cases h0 : (bAt bs k).life = 0
  · rw [if_pos h0]
    refine h.set_ hk ?_
    have hd := hp.dead h0
    split
    · exact fresh_ok hl (by omega)
    · exact ⟨hp.kind, hp.owner, hp.free, hp.vx, hp.vy, hp.aim, hp.life, fun _ => by simp only; omega, fun e => absurd h0 e⟩
  · rw [if_neg h0]
    have hs := steer_ok hp h0 (iAt row k)
    split
    · rename_i hf
      exact (h.set_ hk hs).snoc (by rw [List.length_set]; exact hf.2) (shot_ok hl hs hk)
    · exact h.set_ hk hs
theorem plUp_ok {l : List ByteArray} {n : Nat} {bs : List Bd} (row : List Int) (hl : lvT l = true) (hn : n ≤ 4) (h : Bods l n bs) : ∀ k, k ≤ n → Bods l n (plUp l row bs k)
  | 0, _ => h
  | k + 1, hk => plStep_ok row hl hn (plUp_ok row hl hn h k (by omega)) (by omega)
/-! moving -/
theorem mvGo_free {sol : Int → Bool} {d : Int} : ∀ {n : Nat} {x : Int}, sol x = false → sol (mvGo sol d n x).1 = false
  | 0, x, h => h
  | n + 1, x, h => by
    by_cases hs : sol (x + d) = true
    · rw [mvGo_stop hs]; exact h
    · rw [mvGo_more (by simpa using hs)]
      exact mvGo_free (by simpa using hs)
theorem mvT_free {l : List ByteArray} {s x y vx vy : Int} (h : solT l x y s = false) : solT l (mvT l s x y vx vy).x (mvT l s x y vx vy).y s = false := by
  unfold mvT
  have h1 := mvGo_free (sol := fun a => solT l a y s) (d := dirOf vx) (n := cntOf vx) (x := x) h
  exact mvGo_free (sol := fun b => solT l _ b s) (d := dirOf vy) (n := cntOf vy) (x := y) h1
theorem mvT_vx {l : List ByteArray} {s x y vx vy : Int} : (mvT l s x y vx vy).vx = 0 ∨ (mvT l s x y vx vy).vx = vx := by
  unfold mvT; simp only; split
  · exact .inl rfl
  · exact .inr rfl
theorem mvT_vy {l : List ByteArray} {s x y vx vy : Int} : (mvT l s x y vx vy).vy = 0 ∨ (mvT l s x y vx vy).vy = vy := by
  unfold mvT; simp only; split
  · exact .inl rfl
  · exact .inr rfl
theorem moveU_pl {l : List ByteArray} {k : Nat} {b : Bd} (h : PlOk l k b) : PlOk l k (moveU l b).1 := by
  have e : szOf b.kind = 12 := by rw [h.kind]; rfl
  refine ⟨h.kind, h.owner, ?_, ?_, ?_, h.aim, h.life, h.dead, h.live⟩
  · simp only [moveU, e]; exact mvT_free h.free
  · have := h.vx
    rcases mvT_vx (l := l) (s := szOf b.kind) (x := b.x) (y := b.y) (vx := b.vx) (vy := b.vy) with h1 | h1
    · simp only [moveU, h1]; omega
    · simp only [moveU, h1]; omega
  · have := h.vy
    rcases mvT_vy (l := l) (s := szOf b.kind) (x := b.x) (y := b.y) (vx := b.vx) (vy := b.vy) with h1 | h1
    · simp only [moveU, h1]; omega
    · simp only [moveU, h1]; omega
theorem moveU_ot {l : List ByteArray} {n : Nat} {b : Bd} (h : OtOk l n b) : OtOk l n (moveU l b).1 := by
  refine ⟨h.kind, h.owner, ?_, ?_, ?_, h.aim, h.life, h.shot, h.item⟩
  · simp only [moveU]; exact mvT_free h.free
  · have := h.vx
    rcases mvT_vx (l := l) (s := szOf b.kind) (x := b.x) (y := b.y) (vx := b.vx) (vy := b.vy) with h1 | h1
    · simp only [moveU, h1]; omega
    · simp only [moveU, h1]; omega
  · have := h.vy
    rcases mvT_vy (l := l) (s := szOf b.kind) (x := b.x) (y := b.y) (vx := b.vx) (vy := b.vy) with h1 | h1
    · simp only [moveU, h1]; omega
    · simp only [moveU, h1]; omega
def mvPl (l : List ByteArray) (b : Bd) : Bd := if 0 < b.life then (moveU l b).1 else b
theorem mvOne_pl {l : List ByteArray} {b : Bd} (h : b.kind = 0) : mvOne l b = some (mvPl l b) := by
  unfold mvOne mvPl
  rw [if_pos h]
  split <;> rfl
theorem mvPl_ok {l : List ByteArray} {k : Nat} {b : Bd} (h : PlOk l k b) : PlOk l k (mvPl l b) := by
  unfold mvPl; split
  · exact moveU_pl h
  · exact h
theorem mvOne_ot {l : List ByteArray} {n : Nat} {b c : Bd} (h : OtOk l n b) (hc : mvOne l b = some c) : OtOk l n c := by
  have hk := h.kind
  have hm := moveU_ot h
  unfold mvOne at hc
  rw [if_neg (by omega)] at hc
  by_cases h1 : b.kind = 1
  · rw [if_pos h1] at hc
    split at hc
    · cases hc
    · rename_i h2
      simp only [Option.some.injEq] at hc
      subst hc
      have hs := h.shot h1
      have e : (moveU l b).1.timer = b.timer := rfl
      have e2 : (moveU l b).1.kind = b.kind := rfl
      refine ⟨hm.kind, hm.owner, hm.free, hm.vx, hm.vy, hm.aim, hm.life, fun _ => ?_, fun e3 => ?_⟩
      · simp only [e]; rw [e] at h2; omega
      · simp only [e2] at e3; omega
  · rw [if_neg h1] at hc
    simp only [Option.some.injEq] at hc
    subst hc
    exact h
theorem filterMap_pl {l : List ByteArray} : ∀ (bs : List Bd), (∀ b ∈ bs, b.kind = 0) → bs.filterMap (mvOne l) = bs.map (mvPl l)
  | [], _ => rfl
  | b :: r, h => by
    rw [List.filterMap_cons, mvOne_pl (h b (List.mem_cons_self ..)), List.map_cons, filterMap_pl r fun x hx => h x (List.mem_cons_of_mem _ hx)]
theorem take_kind {l : List ByteArray} {n : Nat} {bs : List Bd} (h : Bods l n bs) : ∀ b ∈ bs.take n, b.kind = 0 := by
  intro b hb
  obtain ⟨j, hj⟩ := List.mem_iff_getElem?.1 hb
  rw [List.getElem?_take] at hj
  split at hj
  · rename_i hlt
    obtain ⟨hl, rfl⟩ := List.getElem?_eq_some_iff.1 hj
    have := (h.pl j hlt).kind
    rwa [bAt_eq hl] at this
  · cases hj
theorem mvAll_split {l : List ByteArray} {n : Nat} {bs : List Bd} (h : Bods l n bs) : mvAll l bs = (bs.take n).map (mvPl l) ++ (bs.drop n).filterMap (mvOne l) := by
  unfold mvAll
  rw [← filterMap_pl _ (take_kind h), ← List.filterMap_append, List.take_append_drop]
theorem bAt_map {l : List Bd} {f : Bd → Bd} {k : Nat} (h : k < l.length) : bAt (l.map f) k = f (bAt l k) := by
  rw [bAt_eq (by simpa using h), bAt_eq h, List.getElem_map]
theorem bAt_take {l : List Bd} {n k : Nat} (h : k < n) : bAt (l.take n) k = bAt l k := by unfold bAt List.getD; rw [List.getElem?_take, if_pos h]
theorem mvAll_pl {l : List ByteArray} {n : Nat} {bs : List Bd} (h : Bods l n bs) {k : Nat} (hk : k < n) : bAt (mvAll l bs) k = mvPl l (bAt bs k) := by
  have hle := h.le
  rw [mvAll_split h, bAt_append (by rw [List.length_map, List.length_take]; omega), bAt_map (by rw [List.length_take]; omega), bAt_take hk]
theorem mvAll_ok {l : List ByteArray} {n : Nat} {bs : List Bd} (h : Bods l n bs) : Bods l n (mvAll l bs) := by
  have hle := h.le
  have hm := h.most
  have hfl := List.length_filterMap_le (mvOne l) bs
  refine ⟨?_, ?_, fun k hk => ?_, fun b hb => ?_⟩
  · rw [mvAll_split h, List.length_append, List.length_map, List.length_take]; omega
  · unfold mvAll; omega
  · rw [mvAll_pl h hk]; exact mvPl_ok (h.pl k hk)
  · rw [mvAll_split h, List.drop_append_of_le_length (by rw [List.length_map, List.length_take]; omega), List.drop_of_length_le (by rw [List.length_map, List.length_take]; omega), List.nil_append] at hb
    obtain ⟨a, ha, hab⟩ := List.mem_filterMap.1 hb
    exact mvOne_ot (h.ot a ha) hab
/-! hits -/
theorem metGo_yes {pl : List Bd} {b : Bd} {but : Int} : ∀ m, m ≤ pl.length → 0 ≤ metGo pl b but m → 0 < (bAt pl (metGo pl b but m).toNat).life ∧ metGo pl b but m ≠ but
  | 0, _, h => by simp only [metGo] at h; omega
  | m + 1, hm, h => by
    simp only [metGo] at h ⊢
    split at h
    · rename_i h1
      rw [if_pos h1]
      exact ⟨by simpa using h1.2.1, h1.1⟩
    · rename_i h1
      rw [if_neg h1]
      exact metGo_yes m (by omega) h
theorem metT_yes {pl : List Bd} {b : Bd} {but : Int} (h : 0 ≤ metT pl b but) : (metT pl b but).toNat < pl.length ∧ 0 < (bAt pl (metT pl b but).toNat).life ∧ metT pl b but ≠ but := by
  have hb := metT_bd pl b but
  have hy := metGo_yes _ (Nat.le_refl _) h
  exact ⟨by omega, hy.1, hy.2⟩
structure Pls (l : List ByteArray) (n : Nat) (pl : List Bd) : Prop where
  len : pl.length = n
  pl : ∀ k, k < n → PlOk l k (bAt pl k)
theorem hitP_len (pl : List Bd) (k : Nat) : (hitP pl k).length = pl.length := by unfold hitP; rw [List.length_set]
theorem hitP_ok {l : List ByteArray} {n k : Nat} {pl : List Bd} (h : Pls l n pl) (hk : k < n) (hl : 0 < (bAt pl k).life) : Pls l n (hitP pl k) := by
  have hn := h.len
  refine ⟨by rw [hitP_len]; exact hn, fun j hj => ?_⟩
  unfold hitP
  rw [bAt_set (by omega)]
  by_cases e : j = k
  · subst e
    rw [if_pos rfl]
    have hp := h.pl j hj
    have hlf := hp.life
    have hlv := hp.live (by omega)
    split
    · exact ⟨hp.kind, hp.owner, hp.free, by simp only; omega, by simp only; omega, hp.aim, by simp only; omega, fun _ => by simp only; omega, fun e => by simp at e⟩
    · rename_i h1
      exact ⟨hp.kind, hp.owner, hp.free, hp.vx, hp.vy, hp.aim, by simp only; omega, fun e => absurd e h1, fun _ => hlv⟩
  · rw [if_neg e]; exact h.pl j hj
structure Scs (n : Nat) (sc : List Int) : Prop where
  len : sc.length = n
  bd : ∀ x ∈ sc, 0 ≤ x ∧ x ≤ 1000000
theorem iAt_set {l : List Int} {k j : Nat} {b : Int} (h : k < l.length) : iAt (l.set k b) j = if j = k then b else iAt l j := by
  unfold iAt List.getD
  by_cases e : j = k
  · subst e; rw [List.getElem?_set_self h, if_pos rfl]; rfl
  · rw [List.getElem?_set_ne (Ne.symm e), if_neg e]
theorem Scs.at_ {n : Nat} {sc : List Int} (h : Scs n sc) {k : Nat} (hk : k < n) : 0 ≤ iAt sc k ∧ iAt sc k ≤ 1000000 := by
  have := h.len
  rw [iAt_eq (by omega)]
  exact h.bd _ (List.getElem_mem _)
theorem addT_len (sc : List Int) (p : Int) : (addT sc p).length = sc.length := by unfold addT; rw [List.length_set]
theorem addT_ok {n : Nat} {sc : List Int} {p : Int} (h : Scs n sc) (hp : 0 ≤ p) (hp2 : p < n) : Scs n (addT sc p) ∧ ∀ k, k < n → iAt sc k ≤ iAt (addT sc p) k := by
  have hl := h.len
  have hb := h.at_ (k := p.toNat) (by omega)
  refine ⟨⟨by rw [addT_len]; exact hl, fun x hx => ?_⟩, fun k hk => ?_⟩
  · rcases List.mem_or_eq_of_mem_set hx with h1 | h1
    · exact h.bd x h1
    · omega
  · unfold addT
    rw [iAt_set (by omega)]
    split
    · rename_i e; subst e; omega
    · exact Int.le_refl _
theorem addT_id {n : Nat} {sc : List Int} {p : Int} (h : Scs n sc) (hp : 0 ≤ p) (hp2 : p < n) (h1 : ¬ iAt sc p.toNat < 1000000) : addT sc p = sc := by
  have hl := h.len
  have hb := h.at_ (k := p.toNat) (by omega)
  have e : min (iAt sc p.toNat + 1) 1000000 = iAt sc p.toNat := by omega
  unfold addT
  rw [e, iAt_eq (by omega), List.set_getElem_self]
theorem addT_up {sc : List Int} {p : Int} (h1 : iAt sc p.toNat < 1000000) : addT sc p = sc.set p.toNat (iAt sc p.toNat + 1) := by
  unfold addT
  rw [show min (iAt sc p.toNat + 1) 1000000 = iAt sc p.toNat + 1 by omega]
/-- the state while shots hit -/
structure ShOk (l : List ByteArray) (n : Nat) (sc0 : List Int) (s : Sh) : Prop where
  pl : Pls l n s.pl
  sc : Scs n s.sc
  up : ∀ k, k < n → iAt sc0 k ≤ iAt s.sc k
  ot : ∀ b ∈ s.left, OtOk l n b
theorem shStep_ok {l : List ByteArray} {n : Nat} {sc0 : List Int} {s : Sh} {b : Bd} (h : ShOk l n sc0 s) (hb : OtOk l n b) : ShOk l n sc0 (shStep s b) := by
  have hn := h.pl.len
  unfold shStep
  split
  · rename_i h1
    obtain ⟨h2, h3, _⟩ := metT_yes h1.2
    have ho := hb.owner
    refine ⟨hitP_ok h.pl (by omega) h3, ?_, ?_, h.ot⟩
    · unfold hitS; split
      · exact (addT_ok h.sc ho.1 ho.2).1
      · exact h.sc
    · intro k hk
      unfold hitS; split
      · have := (addT_ok h.sc ho.1 ho.2).2 k hk
        have := h.up k hk
        simp only; omega
      · exact h.up k hk
  · refine ⟨h.pl, h.sc, h.up, fun x hx => ?_⟩
    rcases List.mem_append.1 hx with hx | hx
    · exact h.ot x hx
    · rw [List.mem_singleton.1 hx]; exact hb
theorem shAll_ok {l : List ByteArray} {n : Nat} {sc0 : List Int} : ∀ (bs : List Bd) (s : Sh), ShOk l n sc0 s → (∀ b ∈ bs, OtOk l n b) → ShOk l n sc0 (bs.foldl shStep s)
  | [], _, h, _ => h
  | b :: r, _, h, hb => shAll_ok r _ (shStep_ok h (hb b (List.mem_cons_self ..))) fun x hx => hb x (List.mem_cons_of_mem _ hx)
theorem shAll_left : ∀ (bs : List Bd) (s : Sh), (bs.foldl shStep s).left.length ≤ s.left.length + bs.length
  | [], _ => Nat.le_refl _
  | b :: r, s => by
    have h := shAll_left r (shStep s b)
    have h2 : (shStep s b).left.length ≤ s.left.length + 1 := by
      unfold shStep; split
      · exact Nat.le_succ _
      · simp
    simp only [List.foldl_cons, List.length_cons]
    omega
theorem itStep_ok {l : List ByteArray} {n : Nat} {sc0 : List Int} {pl : List Bd} {s : List Int × List Bd} {b : Bd} (hp : Pls l n pl) (h : Scs n s.1 ∧ (∀ k, k < n → iAt sc0 k ≤ iAt s.1 k) ∧ ∀ c ∈ s.2, OtOk l n c) (hb : OtOk l n b) :
    Scs n (itStep pl s b).1 ∧ (∀ k, k < n → iAt sc0 k ≤ iAt (itStep pl s b).1 k) ∧ ∀ c ∈ (itStep pl s b).2, OtOk l n c := by
  have hn := hp.len
  by_cases h1 : b.kind = 2 ∧ 0 ≤ metT pl b (-1)
  · have e : itStep pl s b = (addT s.1 (metT pl b (-1)), s.2) := if_pos h1
    have hm := metT_bd pl b (-1)
    have ha := addT_ok h.1 h1.2 (by omega)
    rw [e]
    exact ⟨ha.1, fun k hk => by have := ha.2 k hk; have := h.2.1 k hk; simp only; omega, h.2.2⟩
  · have e : itStep pl s b = (s.1, s.2 ++ [b]) := if_neg h1
    rw [e]
    refine ⟨h.1, h.2.1, fun x hx => ?_⟩
    rcases List.mem_append.1 hx with hx | hx
    · exact h.2.2 x hx
    · rw [List.mem_singleton.1 hx]; exact hb
theorem itAll_ok {l : List ByteArray} {n : Nat} {sc0 : List Int} {pl : List Bd} (hp : Pls l n pl) : ∀ (bs : List Bd) (s : List Int × List Bd), (Scs n s.1 ∧ (∀ k, k < n → iAt sc0 k ≤ iAt s.1 k) ∧ ∀ c ∈ s.2, OtOk l n c) → (∀ c ∈ bs, OtOk l n c) →
    (Scs n (bs.foldl (itStep pl) s).1 ∧ (∀ k, k < n → iAt sc0 k ≤ iAt (bs.foldl (itStep pl) s).1 k) ∧ ∀ c ∈ (bs.foldl (itStep pl) s).2, OtOk l n c)
  | [], _, h, _ => h
  | b :: r, _, h, hb => itAll_ok hp r _ (itStep_ok hp h (hb b (List.mem_cons_self ..))) fun x hx => hb x (List.mem_cons_of_mem _ hx)
theorem itAll_left (pl : List Bd) : ∀ (bs : List Bd) (s : List Int × List Bd), (bs.foldl (itStep pl) s).2.length ≤ s.2.length + bs.length
  | [], _ => Nat.le_refl _
  | b :: r, s => by
    have h := itAll_left pl r (itStep pl s b)
    have h2 : (itStep pl s b).2.length ≤ s.2.length + 1 := by
      unfold itStep; split
      · exact Nat.le_succ _
      · simp
    simp only [List.foldl_cons, List.length_cons]
    omega
theorem pls_take {l : List ByteArray} {n : Nat} {bs : List Bd} (h : Bods l n bs) : Pls l n (bs.take n) :=
  ⟨by have := h.le; rw [List.length_take]; omega, fun k hk => by rw [bAt_take hk]; exact h.pl k hk⟩
theorem hits_ok {l : List ByteArray} {n : Nat} {sc : List Int} {bs : List Bd} (hs : Scs n sc) (h : Bods l n bs) : Scs n (hitsT n sc bs).1 ∧ (∀ k, k < n → iAt sc k ≤ iAt (hitsT n sc bs).1 k) ∧ Bods l n (hitsT n sc bs).2 := by
  have h1 := shAll_ok (l := l) (n := n) (sc0 := sc) (bs.drop n) ⟨bs.take n, sc, []⟩ ⟨pls_take h, hs, fun _ _ => Int.le_refl _, fun b hb => by simp at hb⟩ h.ot
  have h2 := shAll_left (bs.drop n) ⟨bs.take n, sc, []⟩
  have h3 := itAll_ok h1.pl (shAll (bs.take n) sc (bs.drop n)).left ((shAll (bs.take n) sc (bs.drop n)).sc, []) ⟨h1.sc, h1.up, fun b hb => by simp at hb⟩ h1.ot
  have h4 := itAll_left (shAll (bs.take n) sc (bs.drop n)).pl (shAll (bs.take n) sc (bs.drop n)).left ((shAll (bs.take n) sc (bs.drop n)).sc, [])
  have hle := h.le
  have hmo := h.most
  have hl : (shAll (bs.take n) sc (bs.drop n)).pl.length = n := h1.pl.len
  simp only [List.length_nil, List.length_drop] at h2 h4
  refine ⟨h3.1, h3.2.1, ?_, ?_, fun k hk => ?_, fun b hb => ?_⟩
  · show n ≤ ((shAll (bs.take n) sc (bs.drop n)).pl ++ (itAll _ _ _).2).length
    rw [List.length_append]; omega
  · show ((shAll (bs.take n) sc (bs.drop n)).pl ++ (itAll _ _ _).2).length ≤ 24
    rw [List.length_append]
    have e : (itAll (shAll (bs.take n) sc (bs.drop n)).pl (shAll (bs.take n) sc (bs.drop n)).sc (shAll (bs.take n) sc (bs.drop n)).left).2.length ≤ (shAll (bs.take n) sc (bs.drop n)).left.length := by unfold itAll; omega
    have e2 : (shAll (bs.take n) sc (bs.drop n)).left.length ≤ bs.length - n := by unfold shAll; omega
    omega
  · show PlOk l k (bAt ((shAll (bs.take n) sc (bs.drop n)).pl ++ (itAll _ _ _).2) k)
    rw [bAt_append (by omega)]
    exact h1.pl.pl k hk
  · have hb' : b ∈ ((shAll (bs.take n) sc (bs.drop n)).pl ++ (itAll (shAll (bs.take n) sc (bs.drop n)).pl (shAll (bs.take n) sc (bs.drop n)).sc (shAll (bs.take n) sc (bs.drop n)).left).2).drop n := hb
    rw [List.drop_append_of_le_length (by omega), List.drop_of_length_le (by omega), List.nil_append] at hb'
    exact h3.2.2 b hb'
/-! spots -/
def spotOk (l : List ByteArray) (p : Int × Int) : Prop := ∃ r c : Nat, r < l.length ∧ c < (rowAt l r).size ∧ byteAt (rowAt l r) c = 111 ∧ p = (16 * (c : Int) + 4, 16 * (r : Int) + 4)
theorem spC_ok {l : List ByteArray} {r : Nat} (hr : r < l.length) : ∀ c, c ≤ (rowAt l r).size → ∀ p ∈ spC (rowAt l r) r c, spotOk l p
  | 0, _, p, h => by simp [spC] at h
  | c + 1, hc, p, h => by
    rw [spC] at h
    rcases List.mem_append.1 h with h | h
    · exact spC_ok hr c (by omega) p h
    · split at h
      · rename_i hb
        rw [List.mem_singleton.1 h]
        exact ⟨r, c, hr, by omega, hb, rfl⟩
      · simp at h
theorem spR_ok {l : List ByteArray} : ∀ r, r ≤ l.length → ∀ p ∈ spR l r, spotOk l p
  | 0, _, p, h => by simp [spR] at h
  | r + 1, hr, p, h => by
    rw [spR] at h
    rcases List.mem_append.1 h with h | h
    · exact spR_ok r (by omega) p h
    · exact spC_ok (by omega) _ (Nat.le_refl _) p h
theorem spots_ok {l : List ByteArray} : ∀ p ∈ spotsT l, spotOk l p := by
  intro p hp
  unfold spotsT at hp
  split at hp
  · exact spR_ok _ (Nat.le_refl _) p hp
  · simp at hp
theorem spot_free {l : List ByteArray} {p : Int × Int} (hl : lvT l = true) (h : spotOk l p) : solT l p.1 p.2 8 = false := by
  obtain ⟨r, c, hr, hc, hb, rfl⟩ := h
  have hv := lvT_lv hl
  have h2 := hv.n12
  have h3 := hv.w20
  rw [hv.rows r hr] at hc
  exact free_tile (bad_no hv hr hc (by omega)) (by omega) (by omega) (by omega) (by omega) (by omega)
theorem spC_len (row : ByteArray) (r : Nat) : ∀ c, (spC row r c).length ≤ c
  | 0 => Nat.le_refl _
  | c + 1 => by
    have := spC_len row r c
    rw [spC, List.length_append]
    split
    · show _ + 1 ≤ _; omega
    · show _ + 0 ≤ _; omega
theorem spR_len {l : List ByteArray} {w : Nat} (hl : Lv l w) : ∀ r, r ≤ l.length → (spR l r).length ≤ r * w
  | 0, _ => by simp [spR]
  | r + 1, hr => by
    have h1 := spR_len hl r (by omega)
    have h2 := spC_len (rowAt l r) r (rowAt l r).size
    have h3 := hl.rows r (by omega)
    rw [spR, List.length_append, Nat.succ_mul]
    omega
theorem spots_len (l : List ByteArray) : (spotsT l).length ≤ 240 := by
  unfold spotsT
  split
  · rename_i h
    have hv := lvT_lv h
    have h1 := spR_len hv l.length (Nat.le_refl _)
    have h2 := Nat.mul_le_mul hv.n12 hv.w20
    omega
  · exact Nat.zero_le _
theorem pAt_mem {l : List (Int × Int)} {k : Nat} (h : k < l.length) : pAt l k ∈ l := by
  have e : pAt l k = l[k]'h := by simp [pAt, List.getD, List.getElem?_eq_getElem h]
  rw [e]; exact List.getElem_mem h
theorem item_ok {l : List ByteArray} {n : Nat} {p : Int × Int} (hl : lvT l = true) (hn : 1 ≤ n) (h : spotOk l p) : OtOk l n (itemB p) :=
  ⟨.inr rfl, by simp only [itemB]; omega, spot_free hl h, by simp only [itemB]; omega, by simp only [itemB]; omega, rfl, rfl, fun e => by simp [itemB] at e, fun _ => ⟨rfl, rfl⟩⟩
theorem rand_lt {s : Int} {n : Nat} (h : n ≠ 0) : 0 ≤ randT s n ∧ (randT s n).toNat < n := by
  have h1 : 0 ≤ randT s n := Int.emod_nonneg _ (by omega)
  have h2 : randT s n < n := Int.emod_lt_of_pos _ (by omega)
  omega
/-- the parts of a tick -/
theorem step_parts {w : Wd} (row : List Int) (h : WOk w) : Scs w.scores.length (hits1 w row).1 ∧ (∀ k, k < w.scores.length → iAt w.scores k ≤ iAt (hits1 w row).1 k) ∧ Bods w.rows w.scores.length (hits1 w row).2 :=
  hits_ok ⟨rfl, h.sc⟩ (mvAll_ok (plUp_ok row h.lv h.n.2 h.bods _ (Nat.le_refl _)))
theorem stepU_sc (w : Wd) (row : List Int) : (stepU w row).scores = (hits1 w row).1 ∧ (stepU w row).rows = w.rows ∧ (stepU w row).tick = w.tick + 1 := by
  unfold stepU; simp only; split
  · exact ⟨rfl, rfl, rfl⟩
  · split <;> exact ⟨rfl, rfl, rfl⟩
theorem stepU_pl {w : Wd} {row : List Int} {k : Nat} (hk : k < (hits1 w row).2.length) : bAt (stepU w row).bodies k = bAt (hits1 w row).2 k := by
  unfold stepU; simp only; split
  · rfl
  · split
    · rfl
    · exact bAt_append hk
theorem stepU_seed (w : Wd) (row : List Int) : 0 ≤ (stepU w row).seed ∧ (stepU w row).seed ≤ 65535 := by
  unfold stepU; simp only; split
  · exact nextR_bd _
  · split <;> exact nextR_bd _
theorem stepU_bods {w : Wd} {row : List Int} (h : WOk w) : Bods w.rows w.scores.length (stepU w row).bodies := by
  obtain ⟨_, _, hb⟩ := step_parts row h
  unfold stepU; simp only
  split
  · exact hb
  · rename_i h1
    split
    · exact hb
    · exact hb.snoc (by omega) (item_ok h.lv h.n.1 (spots_ok _ (pAt_mem (rand_lt (by omega)).2)))
theorem stepU_ok {w : Wd} {row : List Int} (h : WOk w) (ht : w.tick < 100000) : WOk (stepU w row) := by
  obtain ⟨h1, h2, h3⟩ := stepU_sc w row
  obtain ⟨hs, _, _⟩ := step_parts row h
  have hb := stepU_bods (row := row) h
  have htk := h.tick
  refine ⟨by rw [h2]; exact h.lv, by rw [h3]; omega, stepU_seed w row, by rw [h1, hs.len]; exact h.n, by rw [h1]; exact hs.bd, ?_⟩
  rw [h1, h2, hs.len]
  exact hb
theorem stepU_up {w : Wd} {row : List Int} (h : WOk w) : ∀ k, k < w.scores.length → iAt w.scores k ≤ iAt (stepU w row).scores k := by
  rw [(stepU_sc w row).1]; exact (step_parts row h).2.1
theorem stepU_n {w : Wd} {row : List Int} (h : WOk w) : (stepU w row).scores.length = w.scores.length := by
  rw [(stepU_sc w row).1]; exact (step_parts row h).1.len
theorem stepT_ok {w : Wd} {row : List Int} (h : WOk w) : WOk (stepT w row) ∧ (stepT w row).scores.length = w.scores.length ∧ (stepT w row).rows = w.rows := by
  have ht := h.tick
  unfold stepT
  split
  · rename_i h1
    exact ⟨stepU_ok h (by omega), stepU_n h, (stepU_sc w row).2.1⟩
  · exact ⟨h, rfl, rfl⟩
theorem runT_ok : ∀ (rows : List (List Int)) {w : Wd}, WOk w → WOk (runT w rows) ∧ (runT w rows).scores.length = w.scores.length ∧ (runT w rows).rows = w.rows
  | [], w, h => ⟨h, rfl, rfl⟩
  | r :: rows, w, h => by
    have h1 := stepT_ok (row := r) h
    have h2 := runT_ok rows h1.1
    exact ⟨h2.1, h2.2.1.trans h1.2.1, h2.2.2.trans h1.2.2⟩
end Go.Proofs.YtiopbdodegopdaaDoor
/- The drawn levels, new worlds, and worlds whose players press nothing, plain. -/
namespace Go.Proofs.YtiopbdodegopdaaDoor
open Go.RowKit

def newW (rows : List ByteArray) (n : Nat) (seed : Int) : Wd := ⟨rows, 0, seed, List.replicate n 0, (List.range n).map (freshB rows)⟩
theorem bAt_range (rows : List ByteArray) {n k : Nat} (h : k < n) : bAt ((List.range n).map (freshB rows)) k = freshB rows k := by
  rw [bAt_eq (by simpa using h)]
  simp
theorem newW_ok {rows : List ByteArray} {n : Nat} {seed : Int} (h : lvT rows = true) (h1 : 1 ≤ n) (h4 : n ≤ 4) (hs : 0 ≤ seed) (hs2 : seed ≤ 65535) : WOk (newW rows n seed) := by
  refine ⟨h, ⟨Int.le_refl _, by simp only [newW]; omega⟩, ⟨hs, hs2⟩, by simp only [newW, List.length_replicate]; omega, fun x hx => ?_, ?_⟩
  · simp only [newW] at hx
    have := (List.mem_replicate.1 hx).2
    omega
  · simp only [newW, List.length_replicate]
    refine ⟨by simp, by simp; omega, fun k hk => ?_, fun b hb => ?_⟩
    · rw [bAt_range rows hk]; exact fresh_ok h (by omega)
    · rw [List.drop_of_length_le (by simp)] at hb; simp at hb
theorem newW_bad {rows : List ByteArray} {n : Nat} {seed : Int} (h : lvT rows = false ∨ n = 0 ∨ 4 < n ∨ seed < 0 ∨ 65535 < seed) : okW (newW rows n seed) = false := by
  cases hw : okW (newW rows n seed) with
  | false => rfl
  | true =>
    have hk := okW_ok hw
    have h1 := hk.lv
    have h2 := hk.n
    have h3 := hk.seed
    simp only [newW, List.length_replicate] at h1 h2 h3
    rw [h1] at h
    rcases h with h | h | h | h | h
    · cases h
    all_goals omega

/-! the five drawn levels -/
def lvB (l : List (List UInt8)) : List ByteArray := l.map fun r => ⟨r.toArray⟩
def lv0 : List ByteArray := lvB [[35, 35, 35, 35, 35, 35], [35, 49, 46, 111, 50, 35], [35, 46, 35, 35, 46, 35], [35, 111, 46, 46, 111, 35], [35, 35, 35, 35, 35, 35]]
def lv1 : List ByteArray := lvB [[35, 35, 35, 35, 35, 35, 35, 35, 35, 35], [35, 49, 46, 46, 111, 46, 46, 46, 50, 35], [35, 46, 46, 35, 35, 46, 35, 35, 46, 35], [35, 111, 46, 46, 51, 111, 46, 46, 52, 35], [35, 35, 35, 35, 35, 35, 35, 35, 35, 35]]
def lv2 : List ByteArray := lvB [[35, 35, 35, 35], [35, 46, 46, 35], [35, 35, 35, 35]]
def lv3 : List ByteArray := lvB [[35, 35, 35, 35, 35, 35, 35, 35], [35, 49, 46, 50, 46, 111, 111, 35], [35, 35, 35, 35, 35, 35, 35, 35]]
def lv4 : List ByteArray := lvB [[35, 35, 35, 35, 35, 35, 35], [35, 111, 46, 46, 111, 46, 35], [35, 46, 35, 35, 35, 46, 35], [35, 46, 49, 46, 50, 46, 35], [35, 35, 35, 35, 35, 35, 35]]
def lvls : List (List ByteArray) := [lv0, lv1, lv2, lv3, lv4]
theorem lvls_ok : ∀ r ∈ lvls, lvT r = true := by
  intro r hr
  simp only [lvls, List.mem_cons, List.not_mem_nil, or_false] at hr
  rcases hr with rfl | rfl | rfl | rfl | rfl <;> decide +kernel

/-! pressing nothing -/
def fallB (l : List ByteArray) (b : Bd) : Bd := mvPl l (steerU l b 0).1
def fallN (l : List ByteArray) : Nat → Bd → Bd
  | 0, b => b
  | t + 1, b => fallB l (fallN l t b)
def idleOk (l : List ByteArray) (k : Nat) : Bool := decide ((fallN l 40 (freshB l k)).x = (freshB l k).x) && solT l (fallN l 40 (freshB l k)).x ((fallN l 40 (freshB l k)).y + 1) 12
theorem idle_all : ∀ r ∈ lvls, ∀ k, k < 4 → idleOk r k = true := by
  intro r hr k hk
  simp only [lvls, List.mem_cons, List.not_mem_nil, or_false] at hr
  rcases hr with rfl | rfl | rfl | rfl | rfl
  all_goals
    rcases (show k = 0 ∨ k = 1 ∨ k = 2 ∨ k = 3 by omega) with rfl | rfl | rfl | rfl <;> decide +kernel
theorem fallB_life (l : List ByteArray) (b : Bd) : (fallB l b).life = b.life := by
  unfold fallB mvPl
  split <;> rfl
theorem fallN_life (l : List ByteArray) (b : Bd) : ∀ t, (fallN l t b).life = b.life
  | 0 => rfl
  | t + 1 => by rw [fallN, fallB_life, fallN_life l b t]
def zerosL (n : Nat) : List Int := List.replicate n 0
theorem zeros_at (n k : Nat) : iAt (zerosL n) k = 0 := by
  unfold iAt zerosL List.getD
  rw [List.getElem?_replicate]
  split <;> rfl
theorem fire_0 (t : Int) : stFire 0 t = false := by
  unfold stFire
  rw [show bitF 0 = false by decide]
  rfl
theorem plStep_idle {l : List ByteArray} {bs : List Bd} {n k : Nat} (h : (bAt bs k).life ≠ 0) : plStep l (zerosL n) k bs = bs.set k (steerU l (bAt bs k) 0).1 := by
  unfold plStep
  rw [if_neg h, zeros_at, if_neg]
  rintro ⟨h1, _⟩
  have e : (steerU l (bAt bs k) 0).2 = stFire 0 (bAt bs k).timer := rfl
  rw [e, fire_0] at h1
  cases h1
theorem plUp_idle {l : List ByteArray} {bs : List Bd} {n : Nat} (hn : n ≤ bs.length) (hl : ∀ k, k < n → (bAt bs k).life ≠ 0) : ∀ m, m ≤ n →
    (plUp l (zerosL n) bs m).length = bs.length ∧ (plUp l (zerosL n) bs m).drop n = bs.drop n ∧ ∀ k, k < n → bAt (plUp l (zerosL n) bs m) k = if k < m then (steerU l (bAt bs k) 0).1 else bAt bs k
  | 0, _ => ⟨rfl, rfl, fun k _ => by rw [if_neg (by omega)]; rfl⟩
  | m + 1, hm => by
    obtain ⟨h1, h2, h3⟩ := plUp_idle hn hl m (by omega)
    have hb := h3 m (by omega)
    rw [if_neg (by omega)] at hb
    have e : plUp l (zerosL n) bs (m + 1) = (plUp l (zerosL n) bs m).set m (steerU l (bAt bs m) 0).1 := by
      rw [plUp, plStep_idle (by rw [hb]; exact hl m (by omega)), hb]
    rw [e]
    refine ⟨by rw [List.length_set]; exact h1, by rw [drop_set_lt (by omega)]; exact h2, fun k hk => ?_⟩
    rw [bAt_set (by omega)]
    by_cases ek : k = m
    · subst ek; rw [if_pos rfl, if_pos (by omega)]
    · rw [if_neg ek, h3 k hk]
      by_cases h4 : k < m
      · rw [if_pos h4, if_pos (by omega)]
      · rw [if_neg h4, if_neg (by omega)]
theorem filterMap_items {l : List ByteArray} : ∀ (bs : List Bd), (∀ b ∈ bs, b.kind = 2) → bs.filterMap (mvOne l) = bs
  | [], _ => rfl
  | b :: r, h => by
    have hb := h b (List.mem_cons_self ..)
    have e : mvOne l b = some b := by unfold mvOne; rw [if_neg (by omega), if_neg (by omega)]
    rw [List.filterMap_cons, e, filterMap_items r fun x hx => h x (List.mem_cons_of_mem _ hx)]
theorem shots_none : ∀ (bs : List Bd) (s : Sh), (∀ b ∈ bs, b.kind = 2) → (bs.foldl shStep s).pl = s.pl ∧ (bs.foldl shStep s).sc = s.sc ∧ (bs.foldl shStep s).left = s.left ++ bs
  | [], _, _ => ⟨rfl, rfl, by simp⟩
  | b :: r, s, h => by
    have hb := h b (List.mem_cons_self ..)
    have e : shStep s b = ⟨s.pl, s.sc, s.left ++ [b]⟩ := by unfold shStep; rw [if_neg]; rintro ⟨h1, _⟩; omega
    have := shots_none r (shStep s b) fun x hx => h x (List.mem_cons_of_mem _ hx)
    rw [List.foldl_cons, e] at *
    obtain ⟨h1, h2, h3⟩ := this
    exact ⟨h1, h2, by rw [h3, List.append_assoc]; rfl⟩
theorem items_kind (pl : List Bd) : ∀ (bs : List Bd) (s : List Int × List Bd), (∀ b ∈ bs, b.kind = 2) → (∀ b ∈ s.2, b.kind = 2) → ∀ b ∈ (bs.foldl (itStep pl) s).2, b.kind = 2
  | [], _, _, h => h
  | b :: r, s, hb, h => by
    refine items_kind pl r _ (fun x hx => hb x (List.mem_cons_of_mem _ hx)) fun x hx => ?_
    unfold itStep at hx
    split at hx
    · exact h x hx
    · rcases List.mem_append.1 hx with hx | hx
      · exact h x hx
      · rw [List.mem_singleton.1 hx]; exact hb b (List.mem_cons_self ..)
/-- t ticks without a press -/
structure Idl (l : List ByteArray) (n t : Nat) (w : Wd) : Prop where
  ok : WOk w
  rows : w.rows = l
  cnt : w.scores.length = n
  tick : w.tick = t
  pl : ∀ k, k < n → bAt w.bodies k = fallN l t (freshB l k)
  ot : ∀ b ∈ w.bodies.drop n, b.kind = 2
theorem idl_step {l : List ByteArray} {n t : Nat} {w : Wd} (h : Idl l n t w) (ht : t < 100000) : Idl l n (t + 1) (stepT w (zerosL n)) := by
  have hw := h.ok
  have hn := h.cnt
  have hle := hw.bods.le
  have hr : rowOk (zerosL n) w.scores.length = true := by
    unfold rowOk
    simp only [Bool.and_eq_true, decide_eq_true_eq]
    refine ⟨by rw [hn]; simp [zerosL], List.all_eq_true.2 fun x hx => ?_⟩
    have := (List.mem_replicate.1 hx).2
    rw [this]; decide
  have htk := h.tick
  have e : stepT w (zerosL n) = stepU w (zerosL n) := if_pos ⟨ok_okW hw, by omega, hr⟩
  rw [e]
  have hlife : ∀ k, k < n → (bAt w.bodies k).life ≠ 0 := fun k hk => by rw [h.pl k hk, fallN_life]; simp [freshB]
  obtain ⟨p1, p2, p3⟩ := plUp_idle (l := w.rows) (bs := w.bodies) (n := n) (by omega) hlife n (Nat.le_refl _)
  have hb1 := plUp_ok (zerosL n) hw.lv hw.n.2 hw.bods w.scores.length (Nat.le_refl _)
  have hb2 := mvAll_ok hb1
  have hot : ∀ b ∈ (bodies1 w (zerosL n)).drop n, b.kind = 2 := by
    intro b hb
    unfold bodies1 at hb
    have hl1 : n ≤ (plUp w.rows (zerosL n) w.bodies w.scores.length).length := by rw [hn, p1]; omega
    rw [mvAll_split hb1, hn, List.drop_append_of_le_length (by rw [List.length_map, List.length_take]; rw [hn] at hl1; omega), List.drop_of_length_le (by rw [List.length_map, List.length_take]; omega), List.nil_append, p2, filterMap_items _ h.ot] at hb
    exact h.ot b hb
  have hs := shots_none ((bodies1 w (zerosL n)).drop n) ⟨(bodies1 w (zerosL n)).take n, w.scores, []⟩ hot
  have hlb : n ≤ (bodies1 w (zerosL n)).length := by have := hb2.le; unfold bodies1; omega
  have hpl : ∀ k, k < n → bAt (hits1 w (zerosL n)).2 k = fallB l (bAt w.bodies k) := fun k hk => by
    show bAt ((shAll ((bodies1 w (zerosL n)).take w.scores.length) w.scores ((bodies1 w (zerosL n)).drop w.scores.length)).pl ++ _) k = _
    rw [hn, show (shAll ((bodies1 w (zerosL n)).take n) w.scores ((bodies1 w (zerosL n)).drop n)).pl = (bodies1 w (zerosL n)).take n from hs.1, bAt_append (by rw [List.length_take]; omega), bAt_take hk]
    unfold bodies1
    rw [mvAll_pl hb1 (by omega), hn, p3 k hk, if_pos hk, h.rows]
    rfl
  have hit : ∀ b ∈ (hits1 w (zerosL n)).2.drop n, b.kind = 2 := by
    intro b hb
    have hpl2 : (shAll ((bodies1 w (zerosL n)).take n) w.scores ((bodies1 w (zerosL n)).drop n)).pl = (bodies1 w (zerosL n)).take n := hs.1
    have hb' : b ∈ ((shAll ((bodies1 w (zerosL n)).take n) w.scores ((bodies1 w (zerosL n)).drop n)).pl ++ (itAll (shAll ((bodies1 w (zerosL n)).take n) w.scores ((bodies1 w (zerosL n)).drop n)).pl (shAll ((bodies1 w (zerosL n)).take n) w.scores ((bodies1 w (zerosL n)).drop n)).sc (shAll ((bodies1 w (zerosL n)).take n) w.scores ((bodies1 w (zerosL n)).drop n)).left).2).drop n := by
      have : (hits1 w (zerosL n)).2 = (hitsT n w.scores (bodies1 w (zerosL n))).2 := by unfold hits1; rw [hn]
      rw [this] at hb
      exact hb
    rw [hpl2, List.drop_append_of_le_length (by rw [List.length_take]; omega), List.drop_of_length_le (by rw [List.length_take]; omega), List.nil_append] at hb'
    have hleft : (shAll ((bodies1 w (zerosL n)).take n) w.scores ((bodies1 w (zerosL n)).drop n)).left = (bodies1 w (zerosL n)).drop n := hs.2.2
    rw [hleft] at hb'
    exact items_kind _ _ _ hot (fun b hb => by simp at hb) b hb'
  have hlh : n ≤ (hits1 w (zerosL n)).2.length := by have := (step_parts (zerosL n) hw).2.2.le; omega
  have h1 := stepU_sc w (zerosL n)
  refine ⟨stepU_ok hw (by omega), h1.2.1.trans h.rows, (stepU_n hw).trans hn, by rw [h1.2.2, htk]; omega, fun k hk => ?_, fun b hb => ?_⟩
  · rw [stepU_pl (by omega), hpl k hk, h.pl k hk]; rfl
  · unfold stepU at hb
    simp only at hb
    split at hb
    · exact hit b hb
    · split at hb
      · exact hit b hb
      · simp only at hb
        rw [List.drop_append_of_le_length hlh] at hb
        rcases List.mem_append.1 hb with hb | hb
        · exact hit b hb
        · rw [List.mem_singleton.1 hb]; rfl
def idleT (n : Nat) : Nat → Wd → Wd
  | 0, w => w
  | t + 1, w => stepT (idleT n t w) (zerosL n)
theorem idl_new {l : List ByteArray} {n : Nat} {seed : Int} (h : lvT l = true) (h1 : 1 ≤ n) (h4 : n ≤ 4) (hs : 0 ≤ seed) (hs2 : seed ≤ 65535) : Idl l n 0 (newW l n seed) :=
  ⟨newW_ok h h1 h4 hs hs2, rfl, by simp [newW], rfl, fun k hk => bAt_range l hk, fun b hb => by
    have : (newW l n seed).bodies.length = n := by simp [newW]
    rw [List.drop_of_length_le (by omega)] at hb; simp at hb⟩
theorem idl_run {l : List ByteArray} {n : Nat} {w : Wd} (h : Idl l n 0 w) : ∀ t, t < 100000 → Idl l n t (idleT n t w)
  | 0, _ => h
  | t + 1, ht => idl_step (idl_run h t (by omega)) (by omega)
end Go.Proofs.YtiopbdodegopdaaDoor
