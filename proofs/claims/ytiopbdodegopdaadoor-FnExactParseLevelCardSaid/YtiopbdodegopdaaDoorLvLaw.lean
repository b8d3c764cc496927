/- LevelOk and the walls, plain: what the program's and the reference's compute of the rows of a level. -/
import Derived.Test.YtiopbdodegopdaaDoorCk
namespace Go.Proofs.YtiopbdodegopdaaDoor
open Go.RowKit

def rowAt (l : List ByteArray) (r : Nat) : ByteArray := l.getD r ⟨#[]⟩
theorem rowAt_eq {l : List ByteArray} {r : Nat} (h : r < l.length) : rowAt l r = l[r]'h := by simp [rowAt, List.getD, List.getElem?_eq_getElem h]
/-- the last n columns of a row; K: what follows it -/
def goC (row : ByteArray) (w : Nat) (e0 : Bool) (K : List Bool → Bool → Bool) : Nat → List Bool → Bool → Bool
  | 0, sn, op => K sn op
  | n + 1, sn, op =>
    if byteAt row (w - (n + 1)) = 35 then goC row w e0 K n sn op
    else if e0 = true ∨ w - (n + 1) = 0 ∨ w - (n + 1) + 1 = w then false
    else if 49 ≤ byteAt row (w - (n + 1)) ∧ byteAt row (w - (n + 1)) ≤ 52 then
      (if sn.getD (byteAt row (w - (n + 1)) - 49).toNat false = true then false else goC row w e0 K n (sn.set (byteAt row (w - (n + 1)) - 49).toNat true) true)
    else if byteAt row (w - (n + 1)) = 111 ∨ byteAt row (w - (n + 1)) = 46 then goC row w e0 K n sn true
    else false
/-- the last m rows -/
def goR (l : List ByteArray) (w : Nat) : Nat → List Bool → Bool → Bool
  | 0, _, op => op
  | m + 1, sn, op => if (rowAt l (l.length - (m + 1))).size = w then goC (rowAt l (l.length - (m + 1))) w (decide (l.length - (m + 1) = 0) || decide (l.length - (m + 1) + 1 = l.length)) (goR l w m) w sn op else false
def edgeR (l : List ByteArray) (r : Nat) : Bool := decide (r = 0) || decide (r + 1 = l.length)
def lvT (l : List ByteArray) : Bool :=
  if 3 ≤ l.length ∧ l.length ≤ 12 ∧ 4 ≤ (rowAt l 0).size ∧ (rowAt l 0).size ≤ 20 then goR l (rowAt l 0).size l.length [false, false, false, false] false else false
theorem lvT_out {l : List ByteArray} (h : ¬ (3 ≤ l.length ∧ l.length ≤ 12 ∧ 4 ≤ (rowAt l 0).size ∧ (rowAt l 0).size ≤ 20)) : lvT l = false := if_neg h
theorem lvT_in {l : List ByteArray} (h1 : 3 ≤ l.length) (h2 : l.length ≤ 12) (h3 : 4 ≤ (rowAt l 0).size) (h4 : (rowAt l 0).size ≤ 20) : lvT l = goR l (rowAt l 0).size (l.length - 0) [false, false, false, false] false := if_pos ⟨h1, h2, h3, h4⟩
section
variable {row : ByteArray} {w k : Nat} {e0 : Bool} {K : List Bool → Bool → Bool} {sn : List Bool} {op : Bool}
theorem goC_step (h : k < w) : goC row w e0 K (w - k) sn op = if byteAt row k = 35 then goC row w e0 K (w - (k + 1)) sn op
    else if e0 = true ∨ k = 0 ∨ k + 1 = w then false
    else if 49 ≤ byteAt row k ∧ byteAt row k ≤ 52 then (if sn.getD (byteAt row k - 49).toNat false = true then false else goC row w e0 K (w - (k + 1)) (sn.set (byteAt row k - 49).toNat true) true)
    else if byteAt row k = 111 ∨ byteAt row k = 46 then goC row w e0 K (w - (k + 1)) sn true
    else false := by
  obtain ⟨n, hn⟩ : ∃ n, w - k = n + 1 := ⟨w - k - 1, by omega⟩
  have e1 : w - (n + 1) = k := by omega
  have e2 : w - (k + 1) = n := by omega
  rw [hn, e2]
  simp only [goC, e1]
theorem goC_wall (h : k < w) (h1 : byteAt row k = 35) : goC row w e0 K (w - k) sn op = goC row w e0 K (w - (k + 1)) sn op := by rw [goC_step h, if_pos h1]
theorem goC_edge (h : k < w) (h1 : byteAt row k ≠ 35) (h2 : e0 = true ∨ k = 0 ∨ k + 1 = w) : goC row w e0 K (w - k) sn op = false := by rw [goC_step h, if_neg h1, if_pos h2]
theorem goC_seen (h : k < w) (h1 : 49 ≤ byteAt row k) (h2 : byteAt row k ≤ 52) (h3 : sn.getD (byteAt row k - 49).toNat false = true) : goC row w e0 K (w - k) sn op = false := by
  rw [goC_step h, if_neg (by omega)]
  by_cases h4 : e0 = true ∨ k = 0 ∨ k + 1 = w
  · rw [if_pos h4]
  · rw [if_neg h4, if_pos ⟨h1, h2⟩, if_pos h3]
theorem goC_new (h : k < w) (h0 : ¬ (e0 = true ∨ k = 0 ∨ k + 1 = w)) (h1 : 49 ≤ byteAt row k) (h2 : byteAt row k ≤ 52) (h3 : sn.getD (byteAt row k - 49).toNat false = false) :
    goC row w e0 K (w - k) sn op = goC row w e0 K (w - (k + 1)) (sn.set (byteAt row k - 49).toNat true) true := by
  rw [goC_step h, if_neg (by omega), if_neg h0, if_pos ⟨h1, h2⟩, if_neg (by rw [h3]; simp)]
theorem goC_open (h : k < w) (h0 : ¬ (e0 = true ∨ k = 0 ∨ k + 1 = w)) (h1 : byteAt row k = 111 ∨ byteAt row k = 46) : goC row w e0 K (w - k) sn op = goC row w e0 K (w - (k + 1)) sn true := by
  rw [goC_step h, if_neg (by omega), if_neg h0, if_neg (by omega), if_pos h1]
theorem goC_bad (h : k < w) (h1 : byteAt row k ≠ 35) (h2 : byteAt row k < 49 ∨ 52 < byteAt row k) (h3 : byteAt row k ≠ 111) (h4 : byteAt row k ≠ 46) : goC row w e0 K (w - k) sn op = false := by
  rw [goC_step h, if_neg h1]
  by_cases h5 : e0 = true ∨ k = 0 ∨ k + 1 = w
  · rw [if_pos h5]
  · rw [if_neg h5, if_neg (by omega), if_neg (by omega)]
theorem goC_end (h : k = w) : goC row w e0 K (w - k) sn op = K sn op := by subst h; rw [Nat.sub_self]; rfl
end
theorem goR_step {l : List ByteArray} {w r : Nat} {sn : List Bool} {op : Bool} (h : r < l.length) : goR l w (l.length - r) sn op = if (rowAt l r).size = w then goC (rowAt l r) w (edgeR l r) (goR l w (l.length - (r + 1))) (w - 0) sn op else false := by
  obtain ⟨n, hn⟩ : ∃ n, l.length - r = n + 1 := ⟨l.length - r - 1, by omega⟩
  have e1 : l.length - (n + 1) = r := by omega
  have e2 : l.length - (r + 1) = n := by omega
  rw [hn, e2]
  simp only [goR, e1, edgeR, Nat.sub_zero]
theorem goR_yes {l : List ByteArray} {w r : Nat} {sn : List Bool} {op : Bool} (h : r < l.length) (h1 : (rowAt l r).size = w) : goR l w (l.length - r) sn op = goC (rowAt l r) w (edgeR l r) (goR l w (l.length - (r + 1))) (w - 0) sn op := by rw [goR_step h, if_pos h1]
theorem goR_no {l : List ByteArray} {w r : Nat} {sn : List Bool} {op : Bool} (h : r < l.length) (h1 : (rowAt l r).size ≠ w) : goR l w (l.length - r) sn op = false := by rw [goR_step h, if_neg h1]
theorem goR_end {l : List ByteArray} {w r : Nat} {sn : List Bool} {op : Bool} (h : r = l.length) : goR l w (l.length - r) sn op = op := by subst h; rw [Nat.sub_self]; rfl
/-- what a valid row holds -/
def tileOk (t : Int) : Prop := t = 35 ∨ (49 ≤ t ∧ t ≤ 52) ∨ t = 111 ∨ t = 46
theorem goC_true {row : ByteArray} {w : Nat} {e0 : Bool} {K : List Bool → Bool → Bool} : ∀ n sn op, n ≤ w → goC row w e0 K n sn op = true → (∀ k, w - n ≤ k → k < w → tileOk (byteAt row k)) ∧ ∃ sn' op', K sn' op' = true
  | 0, sn, op, _, h => ⟨fun k h1 h2 => by omega, sn, op, h⟩
  | n + 1, sn, op, hn, h => by
    have step : ∀ sn2 op2, goC row w e0 K n sn2 op2 = true → tileOk (byteAt row (w - (n + 1))) → (∀ k, w - (n + 1) ≤ k → k < w → tileOk (byteAt row k)) ∧ ∃ sn' op', K sn' op' = true := fun sn2 op2 h2 ht => by
      obtain ⟨h3, h4⟩ := goC_true n sn2 op2 (by omega) h2
      refine ⟨fun k hk hk2 => ?_, h4⟩
      by_cases e : k = w - (n + 1)
      · rw [e]; exact ht
      · exact h3 k (by omega) hk2
    simp only [goC] at h
    split at h
    · rename_i h1; exact step _ _ h (.inl h1)
    · split at h
      · cases h
      · split at h
        · rename_i h2
          split at h
          · cases h
          · exact step _ _ h (.inr (.inl h2))
        · split at h
          · rename_i h3; exact step _ _ h (.inr (.inr h3))
          · cases h
theorem goR_true {l : List ByteArray} {w : Nat} : ∀ m sn op, m ≤ l.length → goR l w m sn op = true → ∀ r, l.length - m ≤ r → r < l.length → (rowAt l r).size = w ∧ ∀ k, k < w → tileOk (byteAt (rowAt l r) k)
  | 0, sn, op, _, h, r, h1, h2 => by omega
  | m + 1, sn, op, hm, h, r, h1, h2 => by
    simp only [goR] at h
    split at h
    · rename_i hw
      obtain ⟨h3, sn', op', h4⟩ := goC_true w _ _ (Nat.le_refl _) h
      by_cases e : r = l.length - (m + 1)
      · rw [e]; exact ⟨hw, fun k hk => h3 k (by omega) hk⟩
      · exact goR_true m sn' op' (by omega) h4 r (by omega) h2
    · cases h
/-- what is known of a valid level -/
structure Lv (l : List ByteArray) (w : Nat) : Prop where
  n3 : 3 ≤ l.length
  n12 : l.length ≤ 12
  w4 : 4 ≤ w
  w20 : w ≤ 20
  rows : ∀ r, r < l.length → (rowAt l r).size = w
  tiles : ∀ r k, r < l.length → k < w → tileOk (byteAt (rowAt l r) k)
theorem lvT_lv {l : List ByteArray} (h : lvT l = true) : Lv l (rowAt l 0).size := by
  by_cases h0 : 3 ≤ l.length ∧ l.length ≤ 12 ∧ 4 ≤ (rowAt l 0).size ∧ (rowAt l 0).size ≤ 20
  · obtain ⟨h1, h2, h3, h4⟩ := h0
    rw [lvT_in h1 h2 h3 h4] at h
    have hr := goR_true (l.length - 0) _ _ (by omega) h
    exact ⟨h1, h2, h3, h4, fun r hr' => (hr r (by omega) hr').1, fun r k hr' hk => (hr r (by omega) hr').2 k hk⟩
  · rw [lvT_out h0] at h; cases h

/-- walls -/
def bad (l : List ByteArray) (r c : Nat) : Bool := decide (l.length ≤ r) || decide ((rowAt l r).size ≤ c) || decide (byteAt (rowAt l r) c = 35)
def solC (l : List ByteArray) (r : Nat) : Nat → Nat → Bool
  | 0, _ => false
  | n + 1, c => if bad l r c = true then true else solC l r n (c + 1)
def solR (l : List ByteArray) (c nc : Nat) : Nat → Nat → Bool
  | 0, _ => false
  | n + 1, r => if solC l r nc c = true then true else solR l c nc n (r + 1)
def spanN (x size : Int) : Nat := ((x + size - 1) / 16 - x / 16 + 1).toNat
def solI (l : List ByteArray) (x y size : Int) : Bool := solR l (x / 16).toNat (spanN x size) (spanN y size) (y / 16).toNat
def solT (l : List ByteArray) (x y size : Int) : Bool := if x < 0 ∨ 1000 < x ∨ y < 0 ∨ 1000 < y then true else solI l x y size
theorem solC_any {l : List ByteArray} {r c : Nat} (hb : bad l r c = true) : ∀ n c0, c0 ≤ c → c < c0 + n → solC l r n c0 = true
  | 0, _, h1, h2 => by omega
  | n + 1, c0, h1, h2 => by
    simp only [solC]
    by_cases e : c0 = c
    · rw [e, if_pos hb]
    · split
      · rfl
      · exact solC_any hb n (c0 + 1) (by omega) (by omega)
theorem solR_any {l : List ByteArray} {r c c0 nc : Nat} (hb : bad l r c = true) (h1 : c0 ≤ c) (h2 : c < c0 + nc) : ∀ n r0, r0 ≤ r → r < r0 + n → solR l c0 nc n r0 = true
  | 0, _, h3, h4 => by omega
  | n + 1, r0, h3, h4 => by
    simp only [solR]
    by_cases e : r0 = r
    · rw [e, if_pos (solC_any hb nc c0 h1 h2)]
    · split
      · rfl
      · exact solR_any hb h1 h2 n (r0 + 1) (by omega) (by omega)
theorem solT_neg {l : List ByteArray} {x y size : Int} (h : x < 0 ∨ 1000 < x ∨ y < 0 ∨ 1000 < y) : solT l x y size = true := if_pos h
theorem solT_in {l : List ByteArray} {x y size : Int} (h1 : 0 ≤ x) (h2 : x ≤ 1000) (h3 : 0 ≤ y) (h4 : y ≤ 1000) : solT l x y size = solR l (x / 16).toNat (spanN x size) (spanN y size) (y / 16).toNat := if_neg (by omega)
theorem solT_out {l : List ByteArray} {w : Nat} {x y size : Int} (hl : Lv l w) (hs : 1 ≤ size) (hs2 : size ≤ 16) (h : x < 0 ∨ y < 0 ∨ 16 * (w : Int) - size < x ∨ 16 * (l.length : Int) - size < y) : solT l x y size = true := by
  by_cases h0 : x < 0 ∨ 1000 < x ∨ y < 0 ∨ 1000 < y
  · exact solT_neg h0
  rw [solT_in (by omega) (by omega) (by omega) (by omega)]
  have hx : (x / 16).toNat < (x / 16).toNat + spanN x size := by unfold spanN; omega
  have hy : (y / 16).toNat < (y / 16).toNat + spanN y size := by unfold spanN; omega
  rcases (show 16 * (w : Int) - size < x ∨ 16 * (l.length : Int) - size < y by omega) with h | h
  · by_cases hr : l.length ≤ (y / 16).toNat
    · exact solR_any (r := (y / 16).toNat) (c := (x / 16).toNat) (by unfold bad; rw [decide_eq_true hr]; rfl) (Nat.le_refl _) hx _ _ (Nat.le_refl _) hy
    · refine solR_any (r := (y / 16).toNat) (c := ((x + size - 1) / 16).toNat) ?_ (by omega) (by unfold spanN; omega) _ _ (Nat.le_refl _) hy
      have e := hl.rows (y / 16).toNat (by omega)
      unfold bad
      rw [e, decide_eq_true (show w ≤ ((x + size - 1) / 16).toNat by omega)]
      simp
  · refine solR_any (r := ((y + size - 1) / 16).toNat) (c := (x / 16).toNat) ?_ (Nat.le_refl _) hx _ _ (by omega) (by unfold spanN; omega)
    unfold bad
    rw [decide_eq_true (show l.length ≤ ((y + size - 1) / 16).toNat by omega)]
    rfl
theorem solC_bad {l : List ByteArray} {r c n : Nat} (h : bad l r c = true) : solC l r (n + 1) c = true := if_pos h
theorem solC_ok {l : List ByteArray} {r c n : Nat} (h : bad l r c = false) : solC l r (n + 1) c = solC l r n (c + 1) := if_neg (by rw [h]; simp)
theorem solR_bad {l : List ByteArray} {c nc r n : Nat} (h : solC l r nc c = true) : solR l c nc (n + 1) r = true := if_pos h
theorem solR_ok {l : List ByteArray} {c nc r n : Nat} (h : solC l r nc c = false) : solR l c nc (n + 1) r = solR l c nc n (r + 1) := if_neg (by rw [h]; simp)
/-- a size of a place: SolidAt -/
def solA (l : List ByteArray) (x y size : Int) : Bool := if 1 ≤ size ∧ size ≤ 16 ∧ lvT l = true then solT l x y size else true
theorem solA_no {l : List ByteArray} {x y size : Int} (h : ¬ (1 ≤ size ∧ size ≤ 16 ∧ lvT l = true)) : solA l x y size = true := if_neg h
theorem solA_yes {l : List ByteArray} {x y size : Int} (h1 : 1 ≤ size) (h2 : size ≤ 16) (h3 : lvT l = true) : solA l x y size = solT l x y size := if_pos ⟨h1, h2, h3⟩
end Go.Proofs.YtiopbdodegopdaaDoor
