/- Slices of bodies: made, appended to, copied (toBodyS), compared (eqBodyS), marked (markBodyS) and read again (heldBodyS). -/
import Derived.Test.YtiopbdodegopdaaDoorWag
import Derived.OwnWalk
namespace Go.Proofs.YtiopbdodegopdaaDoor
open Go.RowKit

section
variable {ops : Array Oper} {rest : List Oper} {o : Oper} {a : Act} {Q : Exit → Act → World → Prop}
def zBV : Value := .agg #[.int .i64 0, .int .i64 0, .int .i64 0, .int .i64 0, .int .i64 0, .int .i64 0, .int .i64 0, .int .i64 0, .int .i64 0]
theorem info_bod : (Tryd.prog.info? 75).map (fun i => (i.zero, i.size, i.bytes)) = some (some zBV, 9, 72) := by kernel_rfl
theorem bod_parts : ∃ i, Tryd.prog.info? 75 = some i ∧ i.zero = some zBV ∧ i.size = 9 ∧ i.bytes = 72 := by
  obtain ⟨i, hi, hzz⟩ := Option.map_eq_some_iff.1 info_bod
  simp only [Prod.mk.injEq] at hzz
  exact ⟨i, hi, hzz⟩
theorem cellsB_rep (n : Nat) : cellsB (List.replicate n zB) = List.replicate (n * 9) (.int .i64 0) := by
  induction n with
  | zero => rfl
  | succ n ih =>
    rw [List.replicate_succ, cellsB_cons, ih, show (n + 1) * 9 = 9 + n * 9 by omega, ← List.replicate_append_replicate]
    rfl
theorem made_bod (n : Nat) : (madeCells zBV.cells (n * 9)).toList = cellsB (List.replicate n zB) := by
  rw [cellsB_rep]
  apply List.ext_getElem?
  intro j
  by_cases hj : j < n * 9
  · have h9 : j % 9 < 9 := Nat.mod_lt _ (by omega)
    have : ∀ m, m < 9 → (zBV.cells[m]! : Value) = .int .i64 0 := by
      intro m hm
      match m, hm with
      | 0, _ => rfl
      | 1, _ => rfl
      | 2, _ => rfl
      | 3, _ => rfl
      | 4, _ => rfl
      | 5, _ => rfl
      | 6, _ => rfl
      | 7, _ => rfl
      | 8, _ => rfl
    have e := this (j % zBV.cells.size) h9
    simp only [madeCells, Array.toList_map, Array.toList_range, List.getElem?_map, List.getElem?_range hj, Option.map_some, List.getElem?_replicate, if_pos hj, e]
  · simp [madeCells, hj]
/-- 'make([]impl.Body, n)' -/
theorem make_bod (w : World) (hgd : o.guard = none) (l c : Operand) (ho : o.op = Op.makeSlice 38 l c) (base n : Nat) (hl : a.eval l = .int .i64 (n : Int)) (hc : a.eval c = .int .i64 (n : Int)) (hn : n ≤ 1048576) (hbase : base ≤ w.heap.size)
    (hK : ∀ w', Own w' base 9 (.slice (some ⟨w.heap.size, 0, none⟩) n n) n (cellsB (List.replicate n zB)) → w.grownBy w' none → wpList Tryd.prog ops Q rest (a.put o.dst (.slice (some ⟨w.heap.size, 0, none⟩) n n)) w') :
    wpList Tryd.prog ops Q (o :: rest) a w := by
  obtain ⟨i0, hi, hz0, hz1, hz2⟩ := bod_parts
  exact wpList_make_full (P := Tryd.prog) w hgd l c 38 ho base 75 i0 zBV 9 Tryd.underlying38 hi hz0 hz1 .i64 .i64 n n n hl hc rfl rfl (by rw [hz2]; omega) (by unfold maxLen; omega) hbase
    (fun w' h1 h2 => hK w' (Own.of_row (by rw [← made_bod]; exact h1)) h2)
/-- 'append(out, b)' on a []impl.Body: the new element lies in a block that was just laid. -/
theorem app_bod (w : World) (C : Array Value) (hgd : o.guard = none) (s x : Operand) (ho : o.op = .call { callee := .builtin .append, args := #[s, x], argTypes := #[38, 38] }) (base : Nat)
    {v : Value} {n : Nat} {l : List Bd} (hown : Own w base 9 v n (cellsB l)) (hv : a.eval s = v) (m c : Nat) (news : List Bd) (hx : a.eval x = .slice (some ⟨w.heap.size, 0, none⟩) m c) (hC : Hid (C.toList = cellsB news)) (hm : m = news.length)
    (hbytes : (n + m) * 72 ≤ 140737488355328) (hbase : base ≤ w.heap.size)
    (hK : ∀ v' w', Own w' base 9 v' (n + m) (cellsB (l ++ news)) → w.grownBy w' v.ownBlock → (v'.ownBlock = v.ownBlock ∨ ∃ g, v'.ownBlock = some g ∧ w.heap.size ≤ g) → wpList Tryd.prog ops Q rest (a.put o.dst v') w') :
    wpList Tryd.prog ops Q (o :: rest) a (w.alloc (.cells C 75 (0, 0))) := by
  obtain ⟨i0, hi, hz0, hz1, hz2⟩ := bod_parts
  refine wpList_append_o (P := Tryd.prog) (w.alloc (.cells C 75 (0, 0))) hgd s x 38 38 ho base 75 i0 zBV 9 72 Tryd.underlying38 hi hz0 hz1 hz2 rfl hv (hown.alloc _) _ m (cellsB news) hx
    (Src.ofSlice (P := Tryd.prog) _ (size := 9) Tryd.underlying38 ⟨w.heap.size, 0, none⟩ m c (cellsB news) (by rw [cellsB_len, hm]) (fun j u hu => ?_) (cellsB_one news))
    (by unfold maxLen; omega) (by omega) (by simp; omega) (fun v' w' h1 h2 h3 => ?_)
  · rw [Addr.add_lit, Nat.zero_add, World.cell?_alloc_new, ← hu, ← hC.out, Array.getElem?_toList]
  · rw [← cellsB_append] at h1
    refine hK v' w' h1 (grownBy_trans (World.grownBy_alloc w _ _) h2) ?_
    rcases h3 with h3 | h3
    · exact .inl h3
    · exact .inr ⟨_, h3, by simp⟩
/-- 'append(out, s...)' on a []impl.Body -/
theorem app_bods (w : World) (hgd : o.guard = none) (s x : Operand) (ho : o.op = .call { callee := .builtin .append, args := #[s, x], argTypes := #[38, 38] }) (base : Nat)
    {v : Value} {n : Nat} {l : List Bd} (hown : Own w base 9 v n (cellsB l)) (hv : a.eval s = v) {xv : Value} {m : Nat} {news : List Bd} (hat : At w 9 xv m (cellsB news)) (hx : a.eval x = xv)
    (hbytes : (n + m) * 72 ≤ 140737488355328) (hbase : base ≤ w.heap.size)
    (hK : ∀ v' w', Own w' base 9 v' (n + m) (cellsB (l ++ news)) → w.grownBy w' v.ownBlock → (v'.ownBlock = v.ownBlock ∨ ∃ g, v'.ownBlock = some g ∧ w.heap.size ≤ g) → wpList Tryd.prog ops Q rest (a.put o.dst v') w') :
    wpList Tryd.prog ops Q (o :: rest) a w := by
  obtain ⟨i0, hi, hz0, hz1, hz2⟩ := bod_parts
  refine wpList_append_o (P := Tryd.prog) w hgd s x 38 38 ho base 75 i0 zBV 9 72 Tryd.underlying38 hi hz0 hz1 hz2 rfl hv hown _ m _ hx
    (src_at (P := Tryd.prog) Tryd.underlying38 hat (cellsB_one _)) (by unfold maxLen; omega) (by omega) (by omega) (fun v' w' h1 h2 h3 => ?_)
  rw [← cellsB_append] at h1
  refine hK v' w' h1 h2 ?_
  rcases h3 with h3 | h3
  · exact .inl h3
  · exact .inr ⟨_, h3, Nat.le_refl _⟩
end
/-- what toBodyS has copied after k steps -/
def setB (l : List Bd) (k : Nat) : List Bd := l.take k ++ List.replicate (l.length - k) zB
theorem setB_len {l : List Bd} {k : Nat} (h : k ≤ l.length) : (setB l k).length = l.length := by unfold setB; rw [List.length_append, List.length_take, List.length_replicate]; omega
theorem setB_0 (l : List Bd) : setB l 0 = List.replicate l.length zB := by simp [setB]
theorem setB_end (l : List Bd) : setB l l.length = l := by simp [setB]
theorem setB_succ {l : List Bd} {k : Nat} (h : k < l.length) : setB l (k + 1) = (setB l k).set k (bAt l k) := by
  rw [bAt_eq h]
  apply List.ext_getElem?
  intro j
  by_cases e : j = k
  · subst e
    rw [List.getElem?_set_self (by rw [setB_len (by omega)]; exact h)]
    unfold setB
    rw [List.getElem?_append_left (by rw [List.length_take]; omega), List.getElem?_take, if_pos (by omega), List.getElem?_eq_getElem h]
  · rw [List.getElem?_set_ne (Ne.symm e)]
    unfold setB
    by_cases hj : j < k
    · rw [List.getElem?_append_left (by rw [List.length_take]; omega), List.getElem?_append_left (by rw [List.length_take]; omega), List.getElem?_take, List.getElem?_take, if_pos (by omega), if_pos (by omega)]
    · rw [List.getElem?_append_right (by rw [List.length_take]; omega), List.getElem?_append_right (by rw [List.length_take]; omega), List.getElem?_replicate, List.getElem?_replicate, List.length_take, List.length_take]
      by_cases h2 : j < l.length
      · rw [if_pos (by omega), if_pos (by omega)]
      · rw [if_neg (by omega), if_neg (by omega)]
theorem Own.fitB {w : World} {base n : Nat} {v : Value} {l : List Bd} (h : Own w base 9 v n (cellsB l)) : n = l.length := by
  have e := h.len
  rw [cellsB_len] at e
  omega
/-- an element of an own slice may be stored into -/
structure Free9 (w : World) (g o : Nat) : Prop where
  s0 : (w.cell? ⟨g, o, none⟩).isSome = true
  s1 : (w.cell? ⟨g, o + 1, none⟩).isSome = true
  s2 : (w.cell? ⟨g, o + 2, none⟩).isSome = true
  s3 : (w.cell? ⟨g, o + 3, none⟩).isSome = true
  s4 : (w.cell? ⟨g, o + 4, none⟩).isSome = true
  s5 : (w.cell? ⟨g, o + 5, none⟩).isSome = true
  s6 : (w.cell? ⟨g, o + 6, none⟩).isSome = true
  s7 : (w.cell? ⟨g, o + 7, none⟩).isSome = true
  s8 : (w.cell? ⟨g, o + 8, none⟩).isSome = true
  f0 : w.frozen? ⟨g, o, none⟩ = false
  f1 : w.frozen? ⟨g, o + 1, none⟩ = false
  f2 : w.frozen? ⟨g, o + 2, none⟩ = false
  f3 : w.frozen? ⟨g, o + 3, none⟩ = false
  f4 : w.frozen? ⟨g, o + 4, none⟩ = false
  f5 : w.frozen? ⟨g, o + 5, none⟩ = false
  f6 : w.frozen? ⟨g, o + 6, none⟩ = false
  f7 : w.frozen? ⟨g, o + 7, none⟩ = false
  f8 : w.frozen? ⟨g, o + 8, none⟩ = false
theorem Own.free9 {w : World} {base n cap g : Nat} {cs : List Value} (h : Own w base 9 (.slice (some ⟨g, 0, none⟩) n cap) n cs) {k : Nat} (hk : k < n) : Free9 w g (k * 9) := by
  rcases h.val with ⟨h', _⟩ | ⟨g', cap', h', _, _, hn, _, _, hs⟩
  · simp at h'
  · simp only [Value.slice.injEq, Option.some.injEq, Addr.mk.injEq, and_true, true_and] at h'
    obtain ⟨rfl, rfl⟩ := h'
    exact ⟨(hs _ (by omega)).1, (hs _ (by omega)).1, (hs _ (by omega)).1, (hs _ (by omega)).1, (hs _ (by omega)).1, (hs _ (by omega)).1, (hs _ (by omega)).1, (hs _ (by omega)).1, (hs _ (by omega)).1,
      (hs _ (by omega)).2, (hs _ (by omega)).2, (hs _ (by omega)).2, (hs _ (by omega)).2, (hs _ (by omega)).2, (hs _ (by omega)).2, (hs _ (by omega)).2, (hs _ (by omega)).2, (hs _ (by omega)).2⟩
theorem At.elem {w : World} {l : List Bd} {g off cap : Nat} (h : At w 9 (.slice (some ⟨g, off, none⟩) l.length cap) l.length (cellsB l)) {k : Nat} (hk : k < l.length) : Elem w g (off + k * 9) (bAt l k) := by
  obtain ⟨ao, cap, hv, h'⟩ := h.cellB
  simp only [Value.slice.injEq, true_and] at hv
  obtain ⟨rfl, rfl⟩ := hv
  obtain ⟨g', off', e, _, hc⟩ := h' (by omega)
  simp only [Option.some.injEq, Addr.mk.injEq, and_true] at e
  obtain ⟨rfl, rfl⟩ := e
  exact elem_mk fun j hj => hc k j hk hj
end Go.Proofs.YtiopbdodegopdaaDoor
