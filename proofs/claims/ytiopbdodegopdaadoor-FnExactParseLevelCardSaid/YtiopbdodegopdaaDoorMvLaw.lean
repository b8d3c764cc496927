/- BodyOk and MoveBody, plain. -/
import Derived.Test.YtiopbdodegopdaaDoorLvLaw
import Derived.Test.YtiopbdodegopdaaDoorMee
namespace Go.Proofs.YtiopbdodegopdaaDoor
open Go.RowKit

/-- BodyOk -/
def okB (l : List ByteArray) (n k0 k1 k2 k3 k4 k5 k6 k7 k8 : Int) : Bool :=
  lvT l && (decide (0 ≤ k0 ∧ k0 ≤ 2) && (decide (0 ≤ k1 ∧ k1 < n) && (!solT l k2 k3 (szOf k0) && (decide (-15 ≤ k4 ∧ k4 ≤ 15) && (decide (-15 ≤ k5 ∧ k5 ≤ 15) &&
    (if k0 = 0 then decide (k6 = 1 ∨ k6 = -1) && (decide (0 ≤ k7 ∧ k7 ≤ 3) && (if k7 = 0 then decide (1 ≤ k8 ∧ k8 ≤ 20) else decide (0 ≤ k8 ∧ k8 ≤ 12)))
     else decide (k6 = 0) && (decide (k7 = 0) && (if k0 = 1 then decide (1 ≤ k8 ∧ k8 ≤ 25) else decide (k1 = 0) && decide (k8 = 0)))))))))
/-- n points in the direction d from x; true: stopped -/
def mvGo (sol : Int → Bool) (d : Int) : Nat → Int → Int × Bool
  | 0, x => (x, false)
  | n + 1, x => if sol (x + d) = true then (x, true) else mvGo sol d n (x + d)
theorem mvGo_stop {sol : Int → Bool} {d x : Int} {n : Nat} (h : sol (x + d) = true) : mvGo sol d (n + 1) x = (x, true) := if_pos h
theorem mvGo_more {sol : Int → Bool} {d x : Int} {n : Nat} (h : sol (x + d) = false) : mvGo sol d (n + 1) x = mvGo sol d n (x + d) := if_neg (by rw [h]; simp)
def dirOf (v : Int) : Int := if v < 0 then -1 else 1
def cntOf (v : Int) : Nat := v.natAbs
theorem dir_neg {v : Int} (h : v < 0) : dirOf v = -1 := if_pos h
theorem dir_pos {v : Int} (h : 0 ≤ v) : dirOf v = 1 := if_neg (by omega)
/-- the place, the speed and whether it was stopped, after both directions -/
structure Mv where
  x : Int
  y : Int
  vx : Int
  vy : Int
  st : Bool
def mvT (l : List ByteArray) (size x y vx vy : Int) : Mv :=
  let p := mvGo (fun a => solT l a y size) (dirOf vx) (cntOf vx) x
  let q := mvGo (fun b => solT l p.1 b size) (dirOf vy) (cntOf vy) y
  ⟨p.1, q.1, if p.2 = true then 0 else vx, if q.2 = true then 0 else vy, p.2 || q.2⟩
theorem mvT_eq {l : List ByteArray} {size x y vx vy x1 y1 : Int} {s1 s2 : Bool} (h1 : mvGo (fun a => solT l a y size) (dirOf vx) (cntOf vx) x = (x1, s1)) (h2 : mvGo (fun b => solT l x1 b size) (dirOf vy) (cntOf vy) y = (y1, s2)) :
    mvT l size x y vx vy = ⟨x1, y1, if s1 = true then 0 else vx, if s2 = true then 0 else vy, s1 || s2⟩ := by
  unfold mvT
  simp only [h1, h2]
def moveT (l : List ByteArray) (k0 x y vx vy : Int) : Mv := if solA l x y (szOf k0) = true ∨ ¬ (-15 ≤ vx ∧ vx ≤ 15 ∧ -15 ≤ vy ∧ vy ≤ 15) then ⟨x, y, vx, vy, false⟩ else mvT l (szOf k0) x y vx vy
end Go.Proofs.YtiopbdodegopdaaDoor
