/- Texts Sse, Rss in one. -/
import Derived.Test.YtiopbdodegopdaaDoorKG
import Derived.Test.YtiopbdodegopdaaDoorKI
/- The laws' own functions on slices of slices of whole numbers: eqIntSS, markIntSS, heldIntSS. -/
namespace Go.Proofs.YtiopbdodegopdaaDoor
open Go.RowKit

theorem lAt_set {L : List (List Int)} {k i : Nat} {l : List Int} (h : k < L.length) : lAt (L.set k l) i = if i = k then l else lAt L i := by
  unfold lAt List.getD
  by_cases e : i = k
  · subst e; rw [List.getElem?_set_self h, if_pos rfl]; rfl
  · rw [List.getElem?_set_ne (fun e' => e e'.symm), if_neg e]
/-- one row turned in its own block -/
theorem OwnSS.step {w w' : World} {B : Nat} {v : Value} {us : List Value} {L : List (List Int)} (h : OwnSS w B v us L) {k : Nat} {l : List Int} (hk : k < L.length) (hn : Own w' B 1 (vAt us k) l.length (ints l)) (hg : w.grownBy w' (vAt us k).ownBlock) : OwnSS w' B v us (L.set k l) := by
  refine ⟨h.o.kept hg (h.dv k hk), by rw [List.length_set]; exact h.n, fun i hi => ?_, fun i j hi hj => ?_, fun i hi => ?_⟩
  · rw [List.length_set] at hi
    rw [lAt_set hk]
    by_cases e : i = k
    · subst e; rw [if_pos rfl]; exact hn
    · rw [if_neg e]; exact (h.r i hi).kept hg (h.dj i k hi hk e)
  · rw [List.length_set] at hi hj; exact h.dj i j hi hj
  · rw [List.length_set] at hi; exact h.dv i hi
theorem Own.cells1 {w : World} {base n : Nat} {v : Value} {us : List Value} (h : Own w base 1 v n us) : ∃ ao cap, v = .slice ao n cap ∧ (0 < n → ∃ g, ao = some ⟨g, 0, none⟩ ∧ g < w.heap.size ∧ ∀ k, k < us.length → w.cell? ⟨g, k, none⟩ = some (vAt us k)) := by
  rcases h.val with ⟨rfl, rfl⟩ | ⟨g, cap, rfl, hb, hg, _, _, hc, _⟩
  · exact ⟨_, _, rfl, fun h => absurd h (Nat.lt_irrefl _)⟩
  · have hl := h.len
    exact ⟨_, _, rfl, fun _ => ⟨g, rfl, hg, fun k hk => by rw [hc k (by omega), vAt_get hk]⟩⟩
theorem At.cells1 {w : World} {n : Nat} {v : Value} {us : List Value} (h : At w 1 v n us) : ∃ ao cap, v = .slice ao n cap ∧ (0 < n → ∃ g off, ao = some ⟨g, off, none⟩ ∧ g < w.heap.size ∧ ∀ k, k < us.length → w.cell? ⟨g, off + k, none⟩ = some (vAt us k)) := by
  obtain ⟨hl, ao, cap, rfl, hn, _, hc⟩ := h
  refine ⟨ao, cap, rfl, fun h0 => ?_⟩
  obtain ⟨g, off, rfl, hg, hc⟩ := hc (by omega)
  exact ⟨g, off, rfl, hg, fun k hk => by rw [hc k (by omega), vAt_get hk]⟩
def sumL (L : List (List Int)) : Nat → Nat
  | 0 => 0
  | k + 1 => sumL L k + (lAt L k).length
theorem sumL_mono (L : List (List Int)) {i : Nat} : ∀ {j : Nat}, i ≤ j → sumL L i ≤ sumL L j
  | 0, h => by rw [Nat.le_zero.1 h]; exact Nat.le_refl _
  | j + 1, h => by
    by_cases e : i = j + 1
    · subst e; exact Nat.le_refl _
    · have := sumL_mono L (i := i) (j := j) (by omega)
      simp only [sumL]; omega
/-- the rows marked so far -/
def mkSS (k0 : Int) (L : List (List Int)) : Nat → List (List Int)
  | 0 => L
  | k + 1 => (mkSS k0 L k).set k (marks (k0 + sumL L k) (lAt L k).length)
theorem mkSS_len (k0 : Int) (L : List (List Int)) : ∀ k, (mkSS k0 L k).length = L.length
  | 0 => rfl
  | k + 1 => by simp only [mkSS, List.length_set, mkSS_len k0 L k]
theorem mkSS_at (k0 : Int) (L : List (List Int)) : ∀ k, k ≤ L.length → ∀ i, lAt (mkSS k0 L k) i = if i < k then marks (k0 + sumL L i) (lAt L i).length else lAt L i
  | 0, _, i => by simp [mkSS]
  | k + 1, h, i => by
    simp only [mkSS]
    rw [lAt_set (by rw [mkSS_len]; omega), mkSS_at k0 L k (by omega) i]
    by_cases e : i = k
    · subst e; rw [if_pos rfl, if_pos (by omega)]
    · rw [if_neg e]
      by_cases h2 : i < k
      · rw [if_pos h2, if_pos (by omega)]
      · rw [if_neg h2, if_neg (by omega)]
def blkSS (v : Value) (us : List Value) (i : Nat) : Prop := v.ownBlock = some i ∨ ∃ k, k < us.length ∧ (vAt us k).ownBlock = some i
theorem OwnSS.ge {w : World} {B : Nat} {v : Value} {us : List Value} {L : List (List Int)} (h : OwnSS w B v us L) : ∀ i, blkSS v us i → B ≤ i ∧ i < w.heap.size := fun i hi => by
  rcases hi with hi | ⟨k, hk, hi⟩
  · exact h.o.ge i hi
  · exact (h.r k (by rw [← h.n]; exact hk)).ge i hi
theorem OwnSS.tch {S : Nat → Prop} {w w' : World} {B : Nat} {v : Value} {us : List Value} {L : List (List Int)} (h : OwnSS w B v us L) (ht : Tch S w w') (hs : ∀ i, blkSS v us i → ¬ S i) : OwnSS w' B v us L :=
  ⟨h.o.tch ht fun i hi => hs i (.inl hi), h.n, fun k hk => (h.r k hk).tch ht fun i hi => hs i (.inr ⟨k, by rw [h.n]; exact hk, hi⟩), h.dj, h.dv⟩
end Go.Proofs.YtiopbdodegopdaaDoor
/- The laws' own functions on slices of slices of whole numbers: an argument opened, szIntSS, toIntSS. -/
namespace Go.Proofs.YtiopbdodegopdaaDoor
open Go.RowKit Go.Joins Go.ChangeShapes Go.WideShapes Go.Deep

def Arg_rows (w : World) (v : Value) : Prop := ∃ us L, AtSS w v us L ∧ ∀ l ∈ L, ∀ n ∈ l, (Lit.int .i64 n).wf = true
section
variable {H : Type} {enc : TypeId × Value → H} {P : Program}
theorem open_ss {W : World} {b0 : Nat} {t e T : TypeId} {fuel : Nat} {v : Value} {x : DataW H × List MemPlace} (ht : P.underlying t = some (.slice e)) (he : P.underlying e = some (.slice T)) (hT : P.underlying T = some (.int .i64)) (hC : P.cellsOf e = 1) (hCT : P.cellsOf T = 1)
    (h : DataW.trod enc P W b0 (fun _ => true) true fuel t [v] = some x) : Arg_rows W v := by
  rcases open_slice1 ht hC h with ⟨h0, _⟩ | ⟨a, len, cap, m, n, V, D, Pl, hcs, _, hlc, hcm, hmm, _, hel⟩
  · simp at h0
    subst h0
    exact ⟨[], [], ⟨⟨rfl, none, 0, rfl, Nat.le_refl _, Nat.zero_le _, fun h => absurd h (Nat.lt_irrefl _)⟩, rfl, fun _ h => absurd h (Nat.not_lt_zero _)⟩, fun _ h => by simp at h⟩
  · simp at hcs
    subst hcs
    simp only [if_true] at hmm
    subst hmm
    have each : ∀ i, ∃ l : List Int, i < m → At W 1 (V i) l.length (ints l) ∧ ∀ n ∈ l, (Lit.int .i64 n).wf = true := by
      intro i
      by_cases hi : i < m
      · have ht := (hel i hi).2
        obtain ⟨a', l', c', hv⟩ := trod_isslice he ht
        rw [hv] at ht
        obtain ⟨l, h1, h2⟩ := open_numT he hT hCT ht
        exact ⟨l, fun _ => ⟨by rw [hv]; exact h1, h2⟩⟩
      · exact ⟨[], fun h => absurd h hi⟩
    obtain ⟨f, hf⟩ := Classical.axiomOfChoice each
    refine ⟨(List.range len).map V, (List.range len).map f, ⟨⟨by simp, some a, m, by simp, by simpa using hlc, hcm, fun h0 => ?_⟩, by simp, fun k hk => ?_⟩, fun l hl => ?_⟩
    · have c0 := (hel 0 (by omega)).1
      have hspot : a.spot = none := World.cell?_spot (a := a) (by simpa [Addr.add] using c0)
      obtain ⟨g, off, spot⟩ := a
      simp only at hspot
      subst hspot
      have ea : ∀ j, (⟨g, off, none⟩ : Addr).add j = ⟨g, off + j, none⟩ := fun j => by unfold Addr.add; split <;> simp_all
      refine ⟨g, off, rfl, World.block_lt_of_cell? W ⟨g, off, none⟩ (u := V 0) (by simpa [Addr.add] using c0), fun j hj => ?_⟩
      simp at hj
      have c := (hel j (by omega)).1
      rw [ea] at c
      rw [c, List.getElem?_map, List.getElem?_range hj]
      rfl
    · simp at hk
      have h1 : vAt ((List.range len).map V) k = V k := by
        unfold vAt List.getD
        rw [List.getElem?_map, List.getElem?_range hk]
        rfl
      have h2 : lAt ((List.range len).map f) k = f k := by
        unfold lAt List.getD
        rw [List.getElem?_map, List.getElem?_range hk]
        rfl
      rw [h1, h2]
      exact (hf k (by omega)).1
    · obtain ⟨i, hi, rfl⟩ := List.mem_map.1 hl
      exact (hf i (by have := List.mem_range.1 hi; omega)).2
end
set_option maxRecDepth 100000 in
theorem open_rows {H : Type} {enc : TypeId × Value → H} {w W : World} {r : Reach} {base b0 : Nat} {v : Value} {d : DataW H} {ps : List MemPlace} (hval : Value.okWide Tryd.prog w r base 41 v) (hd : DataW.Trod enc Tryd.prog W b0 (fun _ => true) true 41 v d ps) : Arg_rows W v := by
  obtain ⟨a, len, cap, rfl⟩ := okWide_slice Tryd.underlying41 hval
  obtain ⟨fuel, hf⟩ := hd
  exact open_ss Tryd.underlying41 Tryd.underlying37 Tryd.underlying3 (by kernel_rfl) (by kernel_rfl) hf
theorem sumL_le (L : List (List Int)) : ∀ {k n : Nat}, k ≤ n → sumL L k ≤ sumL L n := by
  intro k n h
  induction n with
  | zero => obtain rfl : k = 0 := by omega
            exact Nat.le_refl _
  | succ n ih =>
    by_cases e : k = n + 1
    · subst e; exact Nat.le_refl _
    · have := ih (by omega)
      simp only [sumL]; omega
/-- what rows may measure -/
structure SSmall (L : List (List Int)) : Prop where
  n : L.length ≤ 1048576
  s : sumL L L.length ≤ 1048576
theorem SSmall.l {L : List (List Int)} (h : SSmall L) {k : Nat} (hk : k < L.length) : (lAt L k).length ≤ 1048576 := by
  have h1 := sumL_le L (k := k + 1) (n := L.length) hk
  have h2 := h.s
  simp only [sumL] at h1
  omega
section
variable {ops : Array Oper} {rest : List Oper} {o : Oper} {a : Act} {Q : Exit → Act → World → Prop}
/-- 'make([][]int, n)' -/
theorem make_ss (w : World) (hgd : o.guard = none) (l c : Operand) (ho : o.op = Op.makeSlice 41 l c) (base n : Nat) (hl : a.eval l = .int .i64 (n : Int)) (hc : a.eval c = .int .i64 (n : Int)) (hn : n ≤ 1048576) (hbase : base ≤ w.heap.size)
    (hK : ∀ w', OwnSS w' base (.slice (some ⟨w.heap.size, 0, none⟩) n n) (List.replicate n nilV) (List.replicate n []) → w.grownBy w' none → wpList Tryd.prog ops Q rest (a.put o.dst (.slice (some ⟨w.heap.size, 0, none⟩) n n)) w') :
    wpList Tryd.prog ops Q (o :: rest) a w := by
  obtain ⟨i0, hi, hz0, hz1, hz2⟩ := ss_parts
  refine wpList_make_row (P := Tryd.prog) w hgd l c 41 ho 37 i0 nilV Tryd.underlying41 hi hz0 hz1 rfl .i64 .i64 n hl hc (by rw [hz2]; omega) (by omega)
    (hK _ ⟨?_, by simp, fun k hk => ?_, fun i j hi hj _ => ?_, fun i hi => ?_⟩ (World.grownBy_alloc w _ _))
  · rw [List.length_replicate]
    exact Own.lit 37 (toList_madeCells_one _ n) (by simp) hbase (by unfold maxLen; omega)
  · rw [List.length_replicate] at hk
    rw [show vAt (List.replicate n nilV) k = nilV by unfold vAt List.getD; rw [List.getElem?_replicate, if_pos hk]; rfl, show lAt (List.replicate n []) k = [] by unfold lAt List.getD; rw [List.getElem?_replicate, if_pos hk]; rfl]
    exact Own.nil _ _ _
  · rw [List.length_replicate] at hi
    rw [show vAt (List.replicate n nilV) i = nilV by unfold vAt List.getD; rw [List.getElem?_replicate, if_pos hi]; rfl]
    exact .inl rfl
  · rw [List.length_replicate] at hi
    rw [show vAt (List.replicate n nilV) i = nilV by unfold vAt List.getD; rw [List.getElem?_replicate, if_pos hi]; rfl]
    exact dj_ge fun a b _ hb => by cases hb
end
theorem vAt_set {us : List Value} {k i : Nat} {x : Value} (h : k < us.length) : vAt (us.set k x) i = if i = k then x else vAt us i := by
  unfold vAt List.getD
  by_cases e : i = k
  · subst e; rw [List.getElem?_set_self h, if_pos rfl]; rfl
  · rw [List.getElem?_set_ne (fun e' => e e'.symm), if_neg e]
/-- a row stored: it lies in blocks of its own -/
theorem OwnSS.put {w : World} {B g n cap : Nat} {us : List Value} {L : List (List Int)} {x : Value} {l : List Int} (h : OwnSS w B (.slice (some ⟨g, 0, none⟩) n cap) us L) (hn : n = us.length) {k : Nat} (hk : k < L.length) (hx : Own w B 1 x l.length (ints l))
    (hxn : ∀ i, x.ownBlock = some i → i ≠ g ∧ ∀ j, j < L.length → (vAt us j).ownBlock ≠ some i) : OwnSS (w.setCell ⟨g, k, none⟩ x) B (.slice (some ⟨g, 0, none⟩) n cap) (us.set k x) (L.set k l) ∧ w.grownBy (w.setCell ⟨g, k, none⟩ x) (some g) := by
  subst hn
  have hu := h.n
  have hs := h.o.stored k x (by omega)
  have hob : (Value.slice (some ⟨g, 0, none⟩) us.length cap).ownBlock = some g := rfl
  have kp : ∀ {y : Value} {m : List Int}, Own w B 1 y m.length (ints m) → Dj (.slice (some ⟨g, 0, none⟩) us.length cap) y → Own (w.setCell ⟨g, k, none⟩ x) B 1 y m.length (ints m) := fun hy hd => hy.kept hs.2 (by have := hd.symm; unfold Dj at this; rw [hob] at this; exact this)
  have hgx : Dj (.slice (some ⟨g, 0, none⟩) us.length cap) x := dj_ge fun i j hi hj e => by rw [hob] at hi; simp only [Option.some.injEq] at hi; exact (hxn j hj).1 (by omega)
  refine ⟨⟨by rw [List.length_set]; exact hs.1, by simp [hu], fun i hi => ?_, fun i j hi hj hij => ?_, fun i hi => ?_⟩, hs.2⟩
  · rw [List.length_set] at hi
    rw [vAt_set (by omega), lAt_set hk]
    by_cases e : i = k
    · rw [if_pos e, if_pos e]; exact kp hx hgx
    · rw [if_neg e, if_neg e]; exact kp (h.r i hi) (h.dv i hi)
  · rw [List.length_set] at hi hj
    rw [vAt_set (by omega), vAt_set (by omega)]
    by_cases e : i = k
    · rw [if_pos e, if_neg (by omega)]
      exact dj_ge fun a b ha hb e2 => (hxn a ha).2 j hj (by rw [hb, e2])
    · rw [if_neg e]
      by_cases e2 : j = k
      · rw [if_pos e2]
        exact dj_ge fun a b ha hb e3 => (hxn b hb).2 i hi (by rw [ha, e3])
      · rw [if_neg e2]; exact h.dj i j hi hj hij
  · rw [List.length_set] at hi
    rw [vAt_set (by omega)]
    by_cases e : i = k
    · rw [if_pos e]; exact hgx
    · rw [if_neg e]; exact h.dv i hi
def setL (L : List (List Int)) (k : Nat) : List (List Int) := L.take k ++ List.replicate (L.length - k) []
theorem setL_len {L : List (List Int)} {k : Nat} (h : k ≤ L.length) : (setL L k).length = L.length := by unfold setL; rw [List.length_append, List.length_take, List.length_replicate]; omega
theorem setL_0 (L : List (List Int)) : setL L 0 = List.replicate L.length [] := by simp [setL]
theorem setL_end (L : List (List Int)) : setL L L.length = L := by simp [setL]
theorem setL_succ {L : List (List Int)} {k : Nat} (h : k < L.length) : setL L (k + 1) = (setL L k).set k (lAt L k) := by
  apply List.ext_getElem?
  intro j
  rw [lAt_eq h]
  by_cases e : j = k
  · subst e
    rw [List.getElem?_set_self (by rw [setL_len (by omega)]; exact h)]
    unfold setL
    rw [List.getElem?_append_left (by rw [List.length_take]; omega), List.getElem?_take, if_pos (by omega), List.getElem?_eq_getElem h]
  · rw [List.getElem?_set_ne (Ne.symm e)]
    unfold setL
    by_cases hj : j < k
    · rw [List.getElem?_append_left (by rw [List.length_take]; omega), List.getElem?_append_left (by rw [List.length_take]; omega), List.getElem?_take, List.getElem?_take, if_pos (by omega), if_pos (by omega)]
    · rw [List.getElem?_append_right (by rw [List.length_take]; omega), List.getElem?_append_right (by rw [List.length_take]; omega), List.getElem?_replicate, List.getElem?_replicate, List.length_take, List.length_take]
      by_cases h2 : j < L.length
      · rw [if_pos (by omega), if_pos (by omega)]
      · rw [if_neg (by omega), if_neg (by omega)]
theorem OwnSS.lt {w : World} {B : Nat} {v : Value} {us : List Value} {L : List (List Int)} (h : OwnSS w B v us L) {j i : Nat} (hj : j < L.length) (e : (vAt us j).ownBlock = some i) : i < w.heap.size := ((h.r j hj).ge i e).2
end Go.Proofs.YtiopbdodegopdaaDoor
