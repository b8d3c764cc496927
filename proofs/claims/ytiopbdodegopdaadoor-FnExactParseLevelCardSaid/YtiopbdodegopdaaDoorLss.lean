/- Slices of slices of whole numbers ([][]int): owned, read, carried along, appended to. -/
import Derived.Test.YtiopbdodegopdaaDoorWor
import Derived.OwnWalk
namespace Go.Proofs.YtiopbdodegopdaaDoor
open Go.RowKit

def ints (l : List Int) : List Value := l.map (Value.int .i64)
def nilV : Value := .slice none 0 0
/-- the n-th row's value -/
def vAt (us : List Value) (k : Nat) : Value := us.getD k nilV
theorem vAt_eq {us : List Value} {k : Nat} (h : k < us.length) : vAt us k = us[k]'h := by simp [vAt, List.getD, List.getElem?_eq_getElem h]
theorem vAt_get {us : List Value} {k : Nat} (h : k < us.length) : us[k]? = some (vAt us k) := by rw [vAt_eq h, List.getElem?_eq_getElem h]
def lAt (L : List (List Int)) (k : Nat) : List Int := L.getD k []
theorem lAt_eq {L : List (List Int)} {k : Nat} (h : k < L.length) : lAt L k = L[k]'h := by simp [lAt, List.getD, List.getElem?_eq_getElem h]
structure AtSS (w : World) (v : Value) (us : List Value) (L : List (List Int)) : Prop where
  o : At w 1 v us.length us
  n : us.length = L.length
  r : ∀ k, k < L.length → At w 1 (vAt us k) (lAt L k).length (ints (lAt L k))
structure OwnSS (w : World) (B : Nat) (v : Value) (us : List Value) (L : List (List Int)) : Prop where
  o : Own w B 1 v us.length us
  n : us.length = L.length
  r : ∀ k, k < L.length → Own w B 1 (vAt us k) (lAt L k).length (ints (lAt L k))
  dj : ∀ i j, i < L.length → j < L.length → i ≠ j → Dj (vAt us i) (vAt us j)
  dv : ∀ i, i < L.length → Dj v (vAt us i)
theorem OwnSS.at_ {w : World} {B : Nat} {v : Value} {us : List Value} {L : List (List Int)} (h : OwnSS w B v us L) : AtSS w v us L := ⟨h.o.at_, h.n, fun k hk => (h.r k hk).at_⟩
theorem AtSS.below {w w' : World} {v : Value} {us : List Value} {L : List (List Int)} (h : AtSS w v us L) (hb : Below w.heap.size w w') : AtSS w' v us L := ⟨h.o.below hb, h.n, fun k hk => (h.r k hk).below hb⟩
theorem OwnSS.belowS {w w' : World} {B : Nat} {v : Value} {us : List Value} {L : List (List Int)} (h : OwnSS w B v us L) (hb : Below w.heap.size w w') : OwnSS w' B v us L := ⟨h.o.belowS hb, h.n, fun k hk => (h.r k hk).belowS hb, h.dj, h.dv⟩
theorem OwnSS.mono {w : World} {B B' : Nat} {v : Value} {us : List Value} {L : List (List Int)} (h : OwnSS w B v us L) (hB : B' ≤ B) : OwnSS w B' v us L := ⟨h.o.mono hB, h.n, fun k hk => (h.r k hk).mono hB, h.dj, h.dv⟩
theorem OwnSS.drew {w : World} {B : Nat} {v : Value} {us : List Value} {L : List (List Int)} (h : OwnSS w B v us L) : OwnSS w.drew B v us L := ⟨h.o.drew, h.n, fun k hk => (h.r k hk).drew, h.dj, h.dv⟩
theorem OwnSS.nil (w : World) (B : Nat) : OwnSS w B nilV [] [] := ⟨Own.nil w B 1, rfl, fun _ h => absurd h (Nat.not_lt_zero _), fun _ _ h => absurd h (Nat.not_lt_zero _), fun _ h => absurd h (Nat.not_lt_zero _)⟩
theorem vAt_snoc {us : List Value} {x : Value} {k : Nat} : k < us.length → vAt (us ++ [x]) k = vAt us k := fun h => by unfold vAt List.getD; rw [List.getElem?_append_left h]
theorem vAt_last (us : List Value) (x : Value) : vAt (us ++ [x]) us.length = x := by unfold vAt List.getD; rw [List.getElem?_append_right (Nat.le_refl _)]; simp
theorem lAt_snoc {L : List (List Int)} {x : List Int} {k : Nat} : k < L.length → lAt (L ++ [x]) k = lAt L k := fun h => by unfold lAt List.getD; rw [List.getElem?_append_left h]
theorem lAt_last (L : List (List Int)) (x : List Int) : lAt (L ++ [x]) L.length = x := by unfold lAt List.getD; rw [List.getElem?_append_right (Nat.le_refl _)]; simp
theorem dj_ge {a b : Value} (h : ∀ i j, a.ownBlock = some i → b.ownBlock = some j → i ≠ j) : Dj a b := by
  unfold Dj
  cases ha : a.ownBlock with
  | none => exact .inl rfl
  | some i =>
    right
    intro e
    exact h i i ha e.symm rfl
/-- a new row at the end: the outer slice grew, the row lies in a block laid just before. -/
theorem OwnSS.snoc {w w1 w' : World} {B : Nat} {v v' x : Value} {us : List Value} {L : List (List Int)} {l : List Int} (h : OwnSS w B v us L) (hb : Below w.heap.size w w1) (hx : Own w1 B 1 x l.length (ints l)) (hxn : ∀ g, x.ownBlock = some g → w.heap.size ≤ g)
    (ho : Own w' B 1 v' (us.length + 1) (us ++ [x])) (hg : w1.grownBy w' v.ownBlock) (hv : v'.ownBlock = v.ownBlock ∨ ∃ g, v'.ownBlock = some g ∧ w1.heap.size ≤ g) : OwnSS w' B v' (us ++ [x]) (L ++ [l]) := by
  have hn := h.n
  have hvn : ∀ g, v.ownBlock = some g → g < w.heap.size := fun g hg => (h.o.ge g hg).2
  have hxv : Dj v x := dj_ge fun i j hi hj e => by have := hvn i hi; have := hxn j hj; omega
  have hx' : Own w' B 1 x l.length (ints l) := hx.kept hg (hxv.symm)
  have hr' : ∀ k, k < L.length → Own w' B 1 (vAt us k) (lAt L k).length (ints (lAt L k)) := fun k hk => ((h.r k hk).belowS hb).kept hg (h.dv k hk).symm
  refine ⟨by rw [List.length_append, List.length_singleton]; exact ho, by simp [hn], fun k hk => ?_, fun i j hi hj hij => ?_, fun i hi => ?_⟩
  · rw [List.length_append, List.length_singleton] at hk
    by_cases e : k < L.length
    · rw [vAt_snoc (by omega), lAt_snoc e]; exact hr' k e
    · obtain rfl : k = us.length := by omega
      rw [vAt_last, hn, lAt_last]; exact hx'
  · rw [List.length_append, List.length_singleton] at hi hj
    by_cases ei : i < L.length
    · by_cases ej : j < L.length
      · rw [vAt_snoc (by omega), vAt_snoc (by omega)]; exact h.dj i j ei ej hij
      · obtain rfl : j = us.length := by omega
        rw [vAt_last, vAt_snoc (by omega)]
        exact dj_ge fun a b ha hb e => by have := ((h.r i ei).ge a ha).2; have := hxn b hb; omega
    · obtain rfl : i = us.length := by omega
      by_cases ej : j < L.length
      · rw [vAt_last, vAt_snoc (by omega)]
        exact (dj_ge fun a b ha hb e => by have := ((h.r j ej).ge a ha).2; have := hxn b hb; omega : Dj _ x).symm
      · omega
  · rw [List.length_append, List.length_singleton] at hi
    have hold : ∀ y : Value, Dj v y → (∀ g, y.ownBlock = some g → g < w1.heap.size) → Dj v' y := by
      intro y hy hlt
      rcases hv with hv | ⟨g, hv, hge⟩
      · unfold Dj at hy ⊢; rw [hv]; exact hy
      · exact dj_ge fun a b ha hb e => by rw [hv] at ha; have := hlt b hb; simp only [Option.some.injEq] at ha; omega
    by_cases e : i < L.length
    · rw [vAt_snoc (by omega)]
      exact hold _ (h.dv i e) fun g hg => (((h.r i e).belowS hb).ge g hg).2
    · obtain rfl : i = us.length := by omega
      rw [vAt_last]
      exact hold _ hxv fun g hg => (hx.ge g hg).2
section
variable {ops : Array Oper} {rest : List Oper} {o : Oper} {a : Act} {Q : Exit → Act → World → Prop}
theorem info_ss : (Tryd.prog.info? 37).map (fun i => (i.zero, i.size, i.bytes)) = some (some nilV, 1, 24) := by kernel_rfl
theorem ss_parts : ∃ i, Tryd.prog.info? 37 = some i ∧ i.zero = some nilV ∧ i.size = 1 ∧ i.bytes = 24 := by
  obtain ⟨i, hi, hzz⟩ := Option.map_eq_some_iff.1 info_ss
  simp only [Prod.mk.injEq] at hzz
  exact ⟨i, hi, hzz⟩
/-- 'append(out, row)' on a [][]int: the new element lies in a block that was just laid. -/
theorem app_ss (w : World) (x : Value) (h1 : x.oneCell' = true) (hgd : o.guard = none) (s y : Operand) (ho : o.op = .call { callee := .builtin .append, args := #[s, y], argTypes := #[41, 41] }) (base : Nat)
    {v : Value} {n : Nat} {us : List Value} (hown : Own w base 1 v n us) (hv : a.eval s = v) (N : Nat) (hN : w.heap.size = N) (hx : a.eval y = .slice (some ⟨N, 0, none⟩) 1 1)
    (hbytes : (n + 1) * 24 ≤ 140737488355328) (hbase : base ≤ w.heap.size)
    (hK : ∀ v' w', Own w' base 1 v' (n + 1) (us ++ [x]) → w.grownBy w' v.ownBlock → (v'.ownBlock = v.ownBlock ∨ ∃ g, v'.ownBlock = some g ∧ w.heap.size ≤ g) → wpList Tryd.prog ops Q rest (a.put o.dst v') w') :
    wpList Tryd.prog ops Q (o :: rest) a (w.alloc (.cells #[x] 37 (0, 0))) := by
  subst hN
  obtain ⟨i0, hi, hz0, hz1, hz2⟩ := ss_parts
  refine wpList_append_o (P := Tryd.prog) (w.alloc (.cells #[x] 37 (0, 0))) hgd s y 41 41 ho base 37 i0 nilV 1 24 Tryd.underlying41 hi hz0 hz1 hz2 rfl hv (hown.alloc _) _ 1 [x] hx
    (Src.ofSlice (P := Tryd.prog) _ (size := 1) Tryd.underlying41 ⟨w.heap.size, 0, none⟩ 1 1 [x] rfl (fun j u hu => ?_) (fun u hu => ?_))
    (by unfold maxLen; omega) (by omega) (by simp; omega) (fun v' w' h1 h2 h3 => ?_)
  · rw [Addr.add_lit, Nat.zero_add, World.cell?_alloc_new, ← hu, ← Array.getElem?_toList]
  · simp at hu; subst hu; exact h1
  · refine hK v' w' h1 (grownBy_trans (World.grownBy_alloc w _ _) h2) ?_
    rcases h3 with h3 | h3
    · exact .inl h3
    · exact .inr ⟨_, h3, by simp⟩
end
end Go.Proofs.YtiopbdodegopdaaDoor
