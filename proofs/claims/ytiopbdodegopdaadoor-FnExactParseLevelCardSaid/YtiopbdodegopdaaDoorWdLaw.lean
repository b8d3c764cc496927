/- Bodies and worlds, plain: what a tick does. No program. -/
import Derived.Test.YtiopbdodegopdaaDoorFreeLaw
import Derived.Test.YtiopbdodegopdaaDoorBod
namespace Go.Proofs.YtiopbdodegopdaaDoor
open Go.RowKit

structure Bd where
  kind : Int
  owner : Int
  x : Int
  y : Int
  vx : Int
  vy : Int
  aim : Int
  life : Int
  timer : Int
def Bd.cells (b : Bd) : List Value := [.int .i64 b.kind, .int .i64 b.owner, .int .i64 b.x, .int .i64 b.y, .int .i64 b.vx, .int .i64 b.vy, .int .i64 b.aim, .int .i64 b.life, .int .i64 b.timer]
def Bd.val (b : Bd) : Value := bod b.kind b.owner b.x b.y b.vx b.vy b.aim b.life b.timer
def zB : Bd := ⟨0, 0, 0, 0, 0, 0, 0, 0, 0⟩
theorem bd_ext {a b : Bd} (h : a.kind = b.kind ∧ a.owner = b.owner ∧ a.x = b.x ∧ a.y = b.y ∧ a.vx = b.vx ∧ a.vy = b.vy ∧ a.aim = b.aim ∧ a.life = b.life ∧ a.timer = b.timer) : a = b := by
  obtain ⟨h0, h1, h2, h3, h4, h5, h6, h7, h8⟩ := h
  cases a; cases b; simp_all
theorem Bd.cells_len (b : Bd) : b.cells.length = 9 := rfl
def cellsB (l : List Bd) : List Value := l.flatMap Bd.cells
theorem cellsB_nil : cellsB [] = [] := rfl
theorem cellsB_cons (b : Bd) (l : List Bd) : cellsB (b :: l) = b.cells ++ cellsB l := rfl
theorem cellsB_append (l r : List Bd) : cellsB (l ++ r) = cellsB l ++ cellsB r := by simp [cellsB]
theorem cellsB_len (l : List Bd) : (cellsB l).length = l.length * 9 := by
  induction l with
  | nil => rfl
  | cons b l ih => rw [cellsB_cons, List.length_append, ih, Bd.cells_len, List.length_cons]; omega
theorem cellsB_at : ∀ {l : List Bd} {k j : Nat} (h : k < l.length), j < 9 → (cellsB l)[k * 9 + j]? = (l[k]'h).cells[j]?
  | b :: l, 0, j, _, hj => by
    rw [cellsB_cons, List.getElem?_append_left (by rw [Bd.cells_len]; omega)]
    simp
  | b :: l, k + 1, j, h, hj => by
    rw [cellsB_cons, List.getElem?_append_right (by rw [Bd.cells_len]; omega), Bd.cells_len, show (k + 1) * 9 + j - 9 = k * 9 + j by omega, cellsB_at (by simpa using h) hj]
    simp
theorem cellsB_take (l : List Bd) (k : Nat) : cellsB (l.take k) = (cellsB l).take (k * 9) := by
  induction l generalizing k with
  | nil => simp [cellsB]
  | cons b l ih =>
    cases k with
    | zero => simp [cellsB]
    | succ k =>
      rw [List.take_succ_cons, cellsB_cons, cellsB_cons, ih, List.take_append, List.take_of_length_le (l := b.cells) (by rw [Bd.cells_len]; omega), Bd.cells_len, show (k + 1) * 9 - 9 = k * 9 by omega]
theorem cellsB_drop (l : List Bd) (k : Nat) : cellsB (l.drop k) = (cellsB l).drop (k * 9) := by
  induction l generalizing k with
  | nil => simp [cellsB]
  | cons b l ih =>
    cases k with
    | zero => simp [cellsB]
    | succ k =>
      rw [List.drop_succ_cons, cellsB_cons, ih, List.drop_append, List.drop_of_length_le (l := b.cells) (by rw [Bd.cells_len]; omega), Bd.cells_len, List.nil_append, show (k + 1) * 9 - 9 = k * 9 by omega]
theorem cellsB_set_in {l : List Bd} {k j : Nat} (h : k < l.length) (b : Bd) (hj : j < 9) : (cellsB (l.set k b))[k * 9 + j]? = b.cells[j]? := by
  rw [cellsB_at (l := l.set k b) (by rw [List.length_set]; exact h) hj, List.getElem_set_self]
theorem cellsB_set_out {l : List Bd} {k j : Nat} (b : Bd) (ho : j < k * 9 ∨ k * 9 + 9 ≤ j) : (cellsB (l.set k b))[j]? = (cellsB l)[j]? := by
  by_cases hl : j / 9 < l.length
  · have e : j = j / 9 * 9 + j % 9 := by omega
    have hne : k ≠ j / 9 := by omega
    have h1 := cellsB_at (l := l) (k := j / 9) (j := j % 9) hl (by omega)
    have h2 := cellsB_at (l := l.set k b) (k := j / 9) (j := j % 9) (by rw [List.length_set]; exact hl) (by omega)
    rw [List.getElem_set_ne hne] at h2
    rw [e, h1, h2]
  · rw [List.getElem?_eq_none (by rw [cellsB_len, List.length_set]; omega), List.getElem?_eq_none (by rw [cellsB_len]; omega)]
theorem cellsB_one (l : List Bd) : ∀ u ∈ cellsB l, u.oneCell' = true := by
  intro u hu
  obtain ⟨b, _, hb⟩ := List.mem_flatMap.1 hu
  simp only [Bd.cells, List.mem_cons, List.not_mem_nil, or_false] at hb
  rcases hb with rfl | rfl | rfl | rfl | rfl | rfl | rfl | rfl | rfl <;> rfl

structure Wd where
  rows : List ByteArray
  tick : Int
  seed : Int
  scores : List Int
  bodies : List Bd

/-! what a body does -/
def okBd (l : List ByteArray) (n : Int) (b : Bd) : Bool := okB l n b.kind b.owner b.x b.y b.vx b.vy b.aim b.life b.timer
def moveU (l : List ByteArray) (b : Bd) : Bd × Bool :=
  let m := mvT l (szOf b.kind) b.x b.y b.vx b.vy
  ({ b with x := m.x, y := m.y, vx := m.vx, vy := m.vy }, m.st)
def moveB (l : List ByteArray) (b : Bd) : Bd × Bool :=
  if solA l b.x b.y (szOf b.kind) = true ∨ ¬ (-15 ≤ b.vx ∧ b.vx ≤ 15 ∧ -15 ≤ b.vy ∧ b.vy ≤ 15) then (b, false) else moveU l b
def bitL (i : Int) : Bool := decide (i % 2 = 1)
def bitR (i : Int) : Bool := decide (i / 2 % 2 = 1)
def bitJ (i : Int) : Bool := decide (i / 4 % 2 = 1)
def bitF (i : Int) : Bool := decide (i / 8 % 2 = 1)
def stVX (i : Int) : Int := if bitR i = true ∧ bitL i = false then 3 else if bitL i = true ∧ bitR i = false then -3 else 0
def stAim (i a : Int) : Int := if bitR i = true ∧ bitL i = false then 1 else if bitL i = true ∧ bitR i = false then -1 else a
def stVY (l : List ByteArray) (i : Int) (b : Bd) : Int := if bitJ i = true ∧ solT l b.x (b.y + 1) 12 = true then -9 else min (b.vy + 1) 8
def stT (t : Int) : Int := if 0 < t then t - 1 else t
def stFire (i t : Int) : Bool := bitF i && decide (stT t = 0)
def steerU (l : List ByteArray) (b : Bd) (i : Int) : Bd × Bool :=
  ({ b with vx := stVX i, vy := stVY l i b, aim := stAim i b.aim, timer := if stFire i b.timer = true then 12 else stT b.timer }, stFire i b.timer)
def steerOk (l : List ByteArray) (b : Bd) (i : Int) : Bool := decide (b.kind = 0) && (decide (1 ≤ b.life) && (decide (0 ≤ b.owner ∧ b.owner ≤ 3) && (decide (0 ≤ i ∧ i ≤ 15) && okBd l (b.owner + 1) b)))
def steerB (l : List ByteArray) (b : Bd) (i : Int) : Bd × Bool := if steerOk l b i = true then steerU l b i else (b, false)
def shotB (b : Bd) : Bd := if 0 ≤ b.x ∧ b.x ≤ 1000 ∧ 0 ≤ b.y ∧ b.y ≤ 1000 ∧ -1 ≤ b.aim ∧ b.aim ≤ 1 then ⟨1, b.owner, b.x + 4, b.y + 4, 6 * b.aim, 0, 0, 0, 25⟩ else zB
def freshB (l : List ByteArray) (k : Nat) : Bd := ⟨0, k, (startT l k).1, (startT l k).2, 0, 0, 1, 3, 0⟩
def meetB (a b : Bd) : Bool := meetT a.kind a.x a.y b.kind b.x b.y

/-! a tick, part by part -/
def bAt (l : List Bd) (k : Nat) : Bd := l.getD k zB
theorem bAt_eq {l : List Bd} {k : Nat} (h : k < l.length) : bAt l k = l[k]'h := by simp [bAt, List.getD, List.getElem?_eq_getElem h]
def iAt (l : List Int) (k : Nat) : Int := l.getD k 0
theorem iAt_eq {l : List Int} {k : Nat} (h : k < l.length) : iAt l k = l[k]'h := by simp [iAt, List.getD, List.getElem?_eq_getElem h]
def plStep (l : List ByteArray) (row : List Int) (k : Nat) (bs : List Bd) : List Bd :=
  if (bAt bs k).life = 0 then bs.set k (if (bAt bs k).timer - 1 = 0 then freshB l k else { bAt bs k with timer := (bAt bs k).timer - 1 })
  else if (steerU l (bAt bs k) (iAt row k)).2 = true ∧ bs.length < 24 then bs.set k (steerU l (bAt bs k) (iAt row k)).1 ++ [shotB (steerU l (bAt bs k) (iAt row k)).1]
  else bs.set k (steerU l (bAt bs k) (iAt row k)).1
def plUp (l : List ByteArray) (row : List Int) (bs : List Bd) : Nat → List Bd
  | 0 => bs
  | k + 1 => plStep l row k (plUp l row bs k)
def mvOne (l : List ByteArray) (b : Bd) : Option Bd :=
  if b.kind = 0 then (if 0 < b.life then some (moveU l b).1 else some b)
  else if b.kind = 1 then (if (moveU l b).2 = true ∨ (moveU l b).1.timer - 1 = 0 then none else some { (moveU l b).1 with timer := (moveU l b).1.timer - 1 })
  else some b
def mvAll (l : List ByteArray) (bs : List Bd) : List Bd := bs.filterMap (mvOne l)
theorem mvAll_succ {l : List ByteArray} {bs : List Bd} {k : Nat} (h : k < bs.length) : mvAll l (bs.take (k + 1)) = mvAll l (bs.take k) ++ (mvOne l (bs[k]'h)).toList := by
  unfold mvAll
  rw [List.take_add_one, List.getElem?_eq_getElem h, List.filterMap_append]
  congr 1
/-- the first player from k on, with life, other than one, that a body meets -/
def metGo (pl : List Bd) (b : Bd) (but : Int) : Nat → Int
  | 0 => -1
  | m + 1 => if ((pl.length - (m + 1) : Nat) : Int) ≠ but ∧ 0 < (bAt pl (pl.length - (m + 1))).life ∧ meetB (bAt pl (pl.length - (m + 1))) b = true then ((pl.length - (m + 1) : Nat) : Int) else metGo pl b but m
def metT (pl : List Bd) (b : Bd) (but : Int) : Int := metGo pl b but pl.length
theorem metGo_hit {pl : List Bd} {b : Bd} {but : Int} {k : Nat} (hk : k < pl.length) (h1 : (k : Int) ≠ but) (h2 : 0 < (bAt pl k).life) (h3 : meetB (bAt pl k) b = true) : metGo pl b but (pl.length - k) = k := by
  obtain ⟨n, hn⟩ : ∃ n, pl.length - k = n + 1 := ⟨pl.length - k - 1, by omega⟩
  have e : pl.length - (n + 1) = k := by omega
  rw [hn]
  simp only [metGo, e]
  rw [if_pos ⟨h1, h2, h3⟩]
theorem metGo_miss {pl : List Bd} {b : Bd} {but : Int} {k : Nat} (hk : k < pl.length) (h : (k : Int) = but ∨ ¬ 0 < (bAt pl k).life ∨ meetB (bAt pl k) b = false) : metGo pl b but (pl.length - k) = metGo pl b but (pl.length - (k + 1)) := by
  obtain ⟨n, hn⟩ : ∃ n, pl.length - k = n + 1 := ⟨pl.length - k - 1, by omega⟩
  have e : pl.length - (n + 1) = k := by omega
  have e2 : pl.length - (k + 1) = n := by omega
  rw [hn, e2]
  simp only [metGo, e]
  rw [if_neg]
  rintro ⟨h1, h2, h3⟩
  rcases h with h | h | h
  · exact h1 h
  · exact h h2
  · rw [h3] at h; cases h
theorem metGo_bd (pl : List Bd) (b : Bd) (but : Int) : ∀ m, m ≤ pl.length → -1 ≤ metGo pl b but m ∧ metGo pl b but m < pl.length
  | 0, _ => by simp only [metGo]; omega
  | m + 1, h => by
    simp only [metGo]
    split
    · omega
    · exact metGo_bd pl b but m (by omega)
theorem metT_bd (pl : List Bd) (b : Bd) (but : Int) : -1 ≤ metT pl b but ∧ metT pl b but < pl.length := metGo_bd pl b but _ (Nat.le_refl _)
def addT (sc : List Int) (p : Int) : List Int := sc.set p.toNat (min (iAt sc p.toNat + 1) 1000000)
/-- a hit on player k by a shot of p -/
def hitP (pl : List Bd) (k : Nat) : List Bd := pl.set k (if (bAt pl k).life - 1 = 0 then { bAt pl k with life := 0, vx := 0, vy := 0, timer := 20 } else { bAt pl k with life := (bAt pl k).life - 1 })
def hitS (pl : List Bd) (sc : List Int) (k : Nat) (p : Int) : List Int := if (bAt pl k).life - 1 = 0 then addT sc p else sc
/-- players, scores, and the bodies that are left -/
structure Sh where
  pl : List Bd
  sc : List Int
  left : List Bd
def shStep (s : Sh) (b : Bd) : Sh :=
  if b.kind = 1 ∧ 0 ≤ metT s.pl b b.owner then ⟨hitP s.pl (metT s.pl b b.owner).toNat, hitS s.pl s.sc (metT s.pl b b.owner).toNat b.owner, s.left⟩
  else ⟨s.pl, s.sc, s.left ++ [b]⟩
def shAll (pl : List Bd) (sc : List Int) (bs : List Bd) : Sh := bs.foldl shStep ⟨pl, sc, []⟩
def itStep (pl : List Bd) (s : List Int × List Bd) (b : Bd) : List Int × List Bd :=
  if b.kind = 2 ∧ 0 ≤ metT pl b (-1) then (addT s.1 (metT pl b (-1)), s.2) else (s.1, s.2 ++ [b])
def itAll (pl : List Bd) (sc : List Int) (bs : List Bd) : List Int × List Bd := bs.foldl (itStep pl) (sc, [])
theorem shAll_succ {pl : List Bd} {sc : List Int} {bs : List Bd} {k : Nat} (h : k < bs.length) : shAll pl sc (bs.take (k + 1)) = shStep (shAll pl sc (bs.take k)) (bs[k]'h) := by
  unfold shAll
  rw [List.take_add_one, List.getElem?_eq_getElem h, List.foldl_append]
  rfl
theorem itAll_succ {pl : List Bd} {sc : List Int} {bs : List Bd} {k : Nat} (h : k < bs.length) : itAll pl sc (bs.take (k + 1)) = itStep pl (itAll pl sc (bs.take k)) (bs[k]'h) := by
  unfold itAll
  rw [List.take_add_one, List.getElem?_eq_getElem h, List.foldl_append]
  rfl
/-! spots -/
/-- the spots of the first n columns of row r -/
def spC (row : ByteArray) (r : Nat) : Nat → List (Int × Int)
  | 0 => []
  | c + 1 => spC row r c ++ (if byteAt row c = 111 then [(16 * (c : Int) + 4, 16 * (r : Int) + 4)] else [])
def spR (l : List ByteArray) : Nat → List (Int × Int)
  | 0 => []
  | r + 1 => spR l r ++ spC (rowAt l r) r (rowAt l r).size
def spotsT (l : List ByteArray) : List (Int × Int) := if lvT l = true then spR l l.length else []
def pAt (l : List (Int × Int)) (k : Nat) : Int × Int := l.getD k (0, 0)
/-! the whole tick -/
/-- players, then the others: what is left of them, the scores -/
def hitsT (n : Nat) (sc : List Int) (bs : List Bd) : List Int × List Bd :=
  let s := shAll (bs.take n) sc (bs.drop n)
  let t := itAll s.pl s.sc s.left
  (t.1, s.pl ++ t.2)
def bodies1 (w : Wd) (row : List Int) : List Bd := mvAll w.rows (plUp w.rows row w.bodies w.scores.length)
def hits1 (w : Wd) (row : List Int) : List Int × List Bd := hitsT w.scores.length w.scores (bodies1 w row)
def hasItem (bs : List Bd) (p : Int × Int) : Bool := bs.any fun b => decide (b.kind = 2) && (decide (b.x = p.1) && decide (b.y = p.2))
def itemB (p : Int × Int) : Bd := ⟨2, 0, p.1, p.2, 0, 0, 0, 0, 0⟩
def randT (s : Int) (n : Nat) : Int := nextR s / 16 % (n : Int)
def stepU (w : Wd) (row : List Int) : Wd :=
  let h := hits1 w row
  let sp := spotsT w.rows
  if (w.tick + 1) % 16 ≠ 0 ∨ sp.length = 0 ∨ 24 ≤ h.2.length then ⟨w.rows, w.tick + 1, nextR w.seed, h.1, h.2⟩
  else if hasItem h.2 (pAt sp (randT (nextR w.seed) sp.length).toNat) = true then ⟨w.rows, w.tick + 1, nextR (nextR w.seed), h.1, h.2⟩
  else ⟨w.rows, w.tick + 1, nextR (nextR w.seed), h.1, h.2 ++ [itemB (pAt sp (randT (nextR w.seed) sp.length).toNat)]⟩
/-! valid worlds -/
def bodiesGo (l : List ByteArray) (n : Nat) : Nat → List Bd → Bool
  | _, [] => true
  | k, b :: r => okBd l n b && (decide (k < n ↔ b.kind = 0) && (decide (k < n → b.owner = k) && bodiesGo l n (k + 1) r))
def scoresOk (l : List Int) : Bool := l.all fun x => inB x 0 1000000
def okW (w : Wd) : Bool := lvT w.rows && (inB w.tick 0 100000 && (inB w.seed 0 65535 && (decide (1 ≤ w.scores.length ∧ w.scores.length ≤ 4) && (scoresOk w.scores && (decide (w.scores.length ≤ w.bodies.length ∧ w.bodies.length ≤ 24) && bodiesGo w.rows w.scores.length 0 w.bodies)))))
def rowOk (row : List Int) (n : Nat) : Bool := decide (row.length = n) && row.all fun x => inB x 0 15
def stepT (w : Wd) (row : List Int) : Wd := if okW w = true ∧ w.tick ≠ 100000 ∧ rowOk row w.scores.length = true then stepU w row else w
def runT (w : Wd) (rows : List (List Int)) : Wd := rows.foldl stepT w
end Go.Proofs.YtiopbdodegopdaaDoor
