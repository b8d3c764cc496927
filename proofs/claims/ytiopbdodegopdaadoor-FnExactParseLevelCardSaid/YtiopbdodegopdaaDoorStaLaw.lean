/- StartOf, plain: where a player starts. -/
import Derived.Test.YtiopbdodegopdaaDoorLvLaw
namespace Go.Proofs.YtiopbdodegopdaaDoor
open Go.RowKit

/-- the last n columns of row r, of a width w; p: the digit's byte; (x, y): the first tile that is no wall, so far -/
def staC (row : ByteArray) (w : Nat) (r : Nat) (p : Int) (K : Int → Int → Int × Int) : Nat → Int → Int → Int × Int
  | 0, x, y => K x y
  | n + 1, x, y =>
    if byteAt row (w - (n + 1)) = p then (16 * ((w - (n + 1) : Nat) : Int) + 2, 16 * (r : Int) + 2)
    else if byteAt row (w - (n + 1)) ≠ 35 ∧ x < 0 then staC row w r p K n (16 * ((w - (n + 1) : Nat) : Int) + 2) (16 * (r : Int) + 2)
    else staC row w r p K n x y
def staR (l : List ByteArray) (w : Nat) (p : Int) : Nat → Int → Int → Int × Int
  | 0, x, y => (x, y)
  | m + 1, x, y => staC (rowAt l (l.length - (m + 1))) w (l.length - (m + 1)) p (staR l w p m) w x y
def startT (l : List ByteArray) (p : Int) : Int × Int := if 0 ≤ p ∧ p ≤ 3 ∧ lvT l = true then staR l (rowAt l 0).size (49 + p) l.length (-1) (-1) else (-1, -1)
theorem startT_no {l : List ByteArray} {p : Int} (h : ¬ (0 ≤ p ∧ p ≤ 3 ∧ lvT l = true)) : startT l p = (-1, -1) := if_neg h
theorem startT_yes {l : List ByteArray} {p : Int} (h1 : 0 ≤ p) (h2 : p ≤ 3) (h3 : lvT l = true) : startT l p = staR l (rowAt l 0).size (49 + p) (l.length - 0) (-1) (-1) := if_pos ⟨h1, h2, h3⟩
section
variable {row : ByteArray} {w k r : Nat} {p : Int} {K : Int → Int → Int × Int} {x y : Int}
theorem staC_step (h : k < w) : staC row w r p K (w - k) x y =
    if byteAt row k = p then (16 * (k : Int) + 2, 16 * (r : Int) + 2)
    else if byteAt row k ≠ 35 ∧ x < 0 then staC row w r p K (w - (k + 1)) (16 * (k : Int) + 2) (16 * (r : Int) + 2)
    else staC row w r p K (w - (k + 1)) x y := by
  obtain ⟨n, hn⟩ : ∃ n, w - k = n + 1 := ⟨w - k - 1, by omega⟩
  have e1 : w - (n + 1) = k := by omega
  have e2 : w - (k + 1) = n := by omega
  rw [hn, e2]
  simp only [staC, e1]
theorem staC_hit (h : k < w) (h1 : byteAt row k = p) : staC row w r p K (w - k) x y = (16 * (k : Int) + 2, 16 * (r : Int) + 2) := by rw [staC_step h, if_pos h1]
theorem staC_first (h : k < w) (h1 : byteAt row k ≠ p) (h2 : byteAt row k ≠ 35) (h3 : x < 0) : staC row w r p K (w - k) x y = staC row w r p K (w - (k + 1)) (16 * (k : Int) + 2) (16 * (r : Int) + 2) := by rw [staC_step h, if_neg h1, if_pos ⟨h2, h3⟩]
theorem staC_wall (h : k < w) (h1 : byteAt row k ≠ p) (h2 : byteAt row k = 35) : staC row w r p K (w - k) x y = staC row w r p K (w - (k + 1)) x y := by rw [staC_step h, if_neg h1, if_neg (by omega)]
theorem staC_later (h : k < w) (h1 : byteAt row k ≠ p) (h3 : 0 ≤ x) : staC row w r p K (w - k) x y = staC row w r p K (w - (k + 1)) x y := by rw [staC_step h, if_neg h1, if_neg (by omega)]
theorem staC_end (h : k = w) : staC row w r p K (w - k) x y = K x y := by subst h; rw [Nat.sub_self]; rfl
end
theorem staR_row {l : List ByteArray} {w r : Nat} {p x y : Int} (h : r < l.length) : staR l w p (l.length - r) x y = staC (rowAt l r) w r p (staR l w p (l.length - (r + 1))) (w - 0) x y := by
  obtain ⟨n, hn⟩ : ∃ n, l.length - r = n + 1 := ⟨l.length - r - 1, by omega⟩
  have e1 : l.length - (n + 1) = r := by omega
  have e2 : l.length - (r + 1) = n := by omega
  rw [hn, e2]
  simp only [staR, e1, Nat.sub_zero]
theorem staR_end {l : List ByteArray} {w r : Nat} {p x y : Int} (h : r = l.length) : staR l w p (l.length - r) x y = (x, y) := by subst h; rw [Nat.sub_self]; rfl
end Go.Proofs.YtiopbdodegopdaaDoor
