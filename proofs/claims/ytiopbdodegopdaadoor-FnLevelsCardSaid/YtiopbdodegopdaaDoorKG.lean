/- Texts Wag, Bds, Bmm, Wlw, Lss, Wls, Wmk, Smk, Wme in one. -/
import Derived.Test.YtiopbdodegopdaaDoorKC
import Derived.Test.YtiopbdodegopdaaDoorKD
import Derived.Test.YtiopbdodegopdaaDoorKF
import Derived.Lib.SmallJoins
import Derived.Deep.Slices
import Derived.Deep.Fields
import Derived.OwnWalk
import Derived.Deep.MidRow
import Derived.Deep.RegionHeld3
import Derived.Deep.RegionWith
import Derived.Deep.DeepCutAuto
import Derived.Deep.CutRange
/- A world as an argument: its rows, its scores, its bodies read. -/
namespace Go.Proofs.YtiopbdodegopdaaDoor
open Go.RowKit Go.Joins Go.ChangeShapes Go.WideShapes Go.Deep

section
variable {H : Type} {enc : TypeId × Value → H} {P : Program} {w : World} {base : Nat} {spare : Nat → Bool} {held : Bool}
theorem agg5 {w2 : World} {r : Reach} {b0 : Nat} {t : TypeId} {f0 f1 f2 f3 f4 : Field} {v : Value} {d : DataW H} {p : List MemPlace} (hs : P.underlying t = some (.struct #[f0, f1, f2, f3, f4])) (hone : oneCellFields P #[f0, f1, f2, f3, f4] = true) (hC : P.cellsOf t = 5)
    (hv : Value.okWide P w2 r b0 t v) (h : DataW.Trod enc P w base spare held t v d p) :
    ∃ (v0 v1 v2 v3 v4 : Value) (y0 y1 y2 y3 y4 : DataW H × List MemPlace) (n : Nat), v = .agg #[v0, v1, v2, v3, v4] ∧
      DataW.trod enc P w base spare held n f0.type [v0] = some y0 ∧ DataW.trod enc P w base spare held n f1.type [v1] = some y1 ∧ DataW.trod enc P w base spare held n f2.type [v2] = some y2 ∧ DataW.trod enc P w base spare held n f3.type [v3] = some y3 ∧ DataW.trod enc P w base spare held n f4.type [v4] = some y4 := by
  obtain ⟨cs, rfl, hsz⟩ := okWide_struct hs hv
  obtain ⟨l⟩ := cs
  match l, hsz.trans hC with
  | [c0, c1, c2, c3, c4], _ =>
    obtain ⟨fuel, hf⟩ := h
    obtain ⟨xs, n, _, hx, _, hlen, hg⟩ := DataW.trod_struct hs hf
    obtain ⟨o0, k0⟩ := hone_of hone 0 f0 rfl
    obtain ⟨o1, k1⟩ := hone_of hone 1 f1 rfl
    obtain ⟨o2, k2⟩ := hone_of hone 2 f2 rfl
    obtain ⟨o3, k3⟩ := hone_of hone 3 f3 rfl
    obtain ⟨o4, k4⟩ := hone_of hone 4 f4 rfl
    match xs, hlen with
    | [y0, y1, y2, y3, y4], _ =>
      exact ⟨c0, c1, c2, c3, c4, y0, y1, y2, y3, y4, n, rfl, by simpa [Value.cells, o0, k0] using hg 0 f0 rfl, by simpa [Value.cells, o1, k1] using hg 1 f1 rfl, by simpa [Value.cells, o2, k2] using hg 2 f2 rfl, by simpa [Value.cells, o3, k3] using hg 3 f3 rfl, by simpa [Value.cells, o4, k4] using hg 4 f4 rfl⟩
theorem trod_isslice {t e : TypeId} {fuel : Nat} {v : Value} {x : DataW H × List MemPlace} (ht : P.underlying t = some (.slice e)) (h : DataW.trod enc P w base spare held fuel t [v] = some x) : ∃ a len cap, v = .slice a len cap := by
  rcases open_slice ht h with ⟨h0, _⟩ | ⟨a, len, cap, m, n, D, Pl, hcs, _⟩
  · simp at h0; exact ⟨_, _, _, h0⟩
  · simp at hcs; exact ⟨_, _, _, hcs⟩
theorem trod_isint {t : TypeId} {k : IntKind} {fuel : Nat} {v : Value} {x : DataW H × List MemPlace} (ht : P.underlying t = some (.int k)) (h : DataW.trod enc P w base spare held fuel t [v] = some x) : ∃ n, v = .int k n ∧ (Lit.int k n).wf = true := by
  obtain ⟨n, hn, _, hw⟩ := DataW.trod_int ht h
  simp at hn
  exact ⟨n, hn, hw⟩
/-- a slice of structs of nine whole numbers -/
theorem open_bodS {W : World} {b0 : Nat} {t e T : TypeId} {fs : Array Field} {fuel : Nat} {a : Option Addr} {len cap : Nat} {x : DataW H × List MemPlace} (ht : P.underlying t = some (.slice e)) (he : P.underlying e = some (.struct fs))
    (hone : oneCellFields P fs = true) (hC : P.cellsOf e = fs.size) (h9 : fs.size = 9) (hT : (fs.toList.all fun f => f.type == T) = true) (hi : P.underlying T = some (.int .i64))
    (h : DataW.trod enc P W b0 (fun _ => true) true fuel t [.slice a len cap] = some x) : ∃ l : List Bd, l.length = len ∧ At W 9 (.slice a len cap) l.length (cellsB l) ∧ ∀ b ∈ l, BWf b := by
  rcases open_slice ht h with ⟨h0, _⟩ | ⟨a', len', cap', m, n, D, Pl, hcs, _, hlc, hcm, hmm, _, hel⟩
  · simp at h0
    obtain ⟨rfl, rfl, rfl⟩ := h0
    exact ⟨[], rfl, ⟨rfl, none, 0, rfl, Nat.le_refl _, Nat.zero_le _, fun h => absurd h (Nat.lt_irrefl _)⟩, fun n h => by simp at h⟩
  · simp at hcs
    obtain ⟨rfl, rfl, rfl⟩ := hcs
    simp only [if_true] at hmm
    subst hmm
    rw [hC, h9] at hel
    have each : ∀ i, ∃ b : Bd, i < m → BWf b ∧ ∀ j, j < 9 → W.cell? (a'.add (i * 9 + j)) = b.cells[j]? := by
      intro i
      by_cases him : i < m
      · obtain ⟨cs', hc, ht'⟩ := hel i him
        obtain ⟨ys, n', hn', hy, hlen, hyl, hf⟩ := DataW.trod_struct he ht'
        obtain ⟨_, hcl, hat⟩ := World.cells?_some hc
        have key : ∀ j, j < 9 → ∃ z, cs'[j]? = some (.int .i64 z) ∧ (Lit.int .i64 z).wf = true := by
          intro j hj
          have hfj : fs[j]? = some (fs[j]'(by omega)) := Array.getElem?_eq_getElem (by omega)
          obtain ⟨ho, hk⟩ := hone_of hone j _ hfj
          have h1 := hf j _ hfj
          rw [ho, hk] at h1
          have hone' : (cs'.drop j).take 1 = [cs'[j]'(by omega)] := by
            rw [List.drop_eq_getElem_cons (by omega)]
            rfl
          have htj : (fs[j]'(by omega)).type = T := by
            have := List.all_eq_true.1 hT (fs[j]'(by omega)) (by simp)
            simpa using this
          rw [hone', htj] at h1
          have hys : ys[j]? = some (ys[j]'(by omega)) := List.getElem?_eq_getElem (by omega)
          obtain ⟨z, hz, hw⟩ := trod_isint hi (h1.trans hys)
          exact ⟨z, by rw [List.getElem?_eq_getElem (by omega), hz], hw⟩
        obtain ⟨n0, h0, f0⟩ := key 0 (by omega)
        obtain ⟨n1, h1, f1⟩ := key 1 (by omega)
        obtain ⟨n2, h2, f2⟩ := key 2 (by omega)
        obtain ⟨n3, h3, f3⟩ := key 3 (by omega)
        obtain ⟨n4, h4, f4⟩ := key 4 (by omega)
        obtain ⟨n5, h5, f5⟩ := key 5 (by omega)
        obtain ⟨n6, h6, f6⟩ := key 6 (by omega)
        obtain ⟨n7, h7, f7⟩ := key 7 (by omega)
        obtain ⟨n8, h8, f8⟩ := key 8 (by omega)
        refine ⟨⟨n0, n1, n2, n3, n4, n5, n6, n7, n8⟩, fun _ => ⟨⟨Go.bounds_i64 f2, Go.bounds_i64 f3⟩, fun j hj => ?_⟩⟩
        have hj9 : j < 9 := hj
        rw [← Go.Deep.add_add, hat j (by omega)]
        match j, hj with
        | 0, _ => exact h0
        | 1, _ => exact h1
        | 2, _ => exact h2
        | 3, _ => exact h3
        | 4, _ => exact h4
        | 5, _ => exact h5
        | 6, _ => exact h6
        | 7, _ => exact h7
        | 8, _ => exact h8
      · exact ⟨zB, fun h => absurd h him⟩
    obtain ⟨f, hf⟩ := Classical.axiomOfChoice each
    have hl : ((List.range len).map f).length = len := by simp
    refine ⟨(List.range len).map f, hl, ⟨by rw [cellsB_len], some a', m, by rw [hl], by omega, hcm, fun h0 => ?_⟩, fun b hb => ?_⟩
    · have c0 := (hf 0 h0).2 0 (by omega)
      have hspot : a'.spot = none := World.cell?_spot (a := a') (by simpa [Addr.add, Bd.cells] using c0)
      obtain ⟨g, off, spot⟩ := a'
      simp only at hspot
      subst hspot
      have ea : ∀ j, (⟨g, off, none⟩ : Addr).add j = ⟨g, off + j, none⟩ := fun j => by unfold Addr.add; split <;> simp_all
      refine ⟨g, off, rfl, World.block_lt_of_cell? W ⟨g, off, none⟩ (u := .int .i64 (f 0).kind) (by simpa [Addr.add, Bd.cells] using c0), fun j hj => ?_⟩
      rw [hl] at hj
      have hk : j / 9 < ((List.range len).map f).length := by rw [hl]; omega
      have e : j = j / 9 * 9 + j % 9 := by omega
      have c := (hf (j / 9) (by omega)).2 (j % 9) (by omega)
      rw [ea] at c
      have c2 := cellsB_at hk (j := j % 9) (by omega)
      rw [← e] at c c2
      rw [c, c2]
      simp
    · obtain ⟨i, hi, rfl⟩ := List.mem_map.1 hb
      exact (hf i (by have := List.mem_range.1 hi; omega)).1
end
theorem open_numT {P : Program} {t e : TypeId} {k : IntKind} {H : Type} {enc : TypeId × Value → H} {W : World} {b0 : Nat} {fuel : Nat} {a : Option Addr} {len cap : Nat} {x : DataW H × List MemPlace}
    (ht : P.underlying t = some (.slice e)) (he : P.underlying e = some (.int k)) (hc : P.cellsOf e = 1) (hf : DataW.trod enc P W b0 (fun _ => true) true fuel t [.slice a len cap] = some x) : ArgNum k W (.slice a len cap) := by
  rcases Go.ChangeShapes.open_ints ht he hc hf with ⟨h1, _⟩ | ⟨a', len', cap', zs, h1, _, hlc, hcm, hzl, _, hcell, hwf⟩
  · simp at h1
    obtain ⟨rfl, rfl, rfl⟩ := h1
    exact ⟨[], ⟨rfl, none, 0, rfl, Nat.le_refl _, Nat.zero_le _, fun h => absurd h (Nat.lt_irrefl _)⟩, fun n h => by simp at h⟩
  · simp at h1
    obtain ⟨rfl, rfl, rfl⟩ := h1
    simp only [if_true] at hzl
    have hl : (zs.take len).length = len := by rw [List.length_take]; omega
    refine ⟨zs.take len, ⟨by rw [List.length_map, Nat.mul_one], some a', cap, by rw [hl], by omega, hcm, fun h0 => ?_⟩, fun n hn => hwf n (List.mem_of_mem_take hn)⟩
    have c0 := hcell 0 (by omega)
    have hspot : a'.spot = none := World.cell?_spot (a := a') (by simpa [Addr.add] using c0)
    obtain ⟨g, off, spot⟩ := a'
    simp only at hspot
    subst hspot
    refine ⟨g, off, rfl, World.block_lt_of_cell? W ⟨g, off, none⟩ (u := Value.int k (zs.getD 0 0)) (by simpa [Addr.add] using c0), fun j hj => ?_⟩
    have hj' : j < len := by rw [hl] at hj; omega
    have cj := hcell j (by omega)
    have ea : (⟨g, off, none⟩ : Addr).add j = ⟨g, off + j, none⟩ := by unfold Addr.add; split <;> simp_all
    rw [ea] at cj
    rw [cj, List.getElem?_map, List.getElem?_take, if_pos hj', List.getElem?_eq_getElem (by omega)]
    simp [List.getD, List.getElem?_eq_getElem (show j < zs.length by omega)]
structure WWf (X : Wd) : Prop where
  r : ∀ s ∈ X.rows, s.size ≤ maxLen
  b : ∀ b ∈ X.bodies, BWf b
  t : -9223372036854775808 ≤ X.tick ∧ X.tick ≤ 9223372036854775807
  s : -9223372036854775808 ≤ X.seed ∧ X.seed ≤ 9223372036854775807
  sc : ∀ n ∈ X.scores, (Lit.int .i64 n).wf = true
def Arg_world (w : World) (v : Value) : Prop := ∃ u us ub X, v = wV u X.tick X.seed us ub ∧ WAt w u us ub X ∧ WWf X
end Go.Proofs.YtiopbdodegopdaaDoor
/- Slices of bodies: made, appended to, copied (toBodyS), compared (eqBodyS), marked (markBodyS) and read again (heldBodyS). -/
namespace Go.Proofs.YtiopbdodegopdaaDoor
open Go.RowKit

section
variable {ops : Array Oper} {rest : List Oper} {o : Oper} {a : Act} {Q : Exit → Act → World → Prop}
def zBV : Value := .agg #[.int .i64 0, .int .i64 0, .int .i64 0, .int .i64 0, .int .i64 0, .int .i64 0, .int .i64 0, .int .i64 0, .int .i64 0]
theorem info_bod : (Tryd.prog.info? 75).map (fun i => (i.zero, i.size, i.bytes)) = some (some zBV, 9, 72) := by kernel_rfl
theorem bod_parts : ∃ i, Tryd.prog.info? 75 = some i ∧ i.zero = some zBV ∧ i.size = 9 ∧ i.bytes = 72 := by
  obtain ⟨i, hi, hzz⟩ := Option.map_eq_some_iff.1 info_bod
  simp only [Prod.mk.injEq] at hzz
  exact ⟨i, hi, hzz⟩
theorem cellsB_rep (n : Nat) : cellsB (List.replicate n zB) = List.replicate (n * 9) (.int .i64 0) := by
  induction n with
  | zero => rfl
  | succ n ih =>
    rw [List.replicate_succ, cellsB_cons, ih, show (n + 1) * 9 = 9 + n * 9 by omega, ← List.replicate_append_replicate]
    rfl
theorem made_bod (n : Nat) : (madeCells zBV.cells (n * 9)).toList = cellsB (List.replicate n zB) := by
  rw [cellsB_rep]
  apply List.ext_getElem?
  intro j
  by_cases hj : j < n * 9
  · have h9 : j % 9 < 9 := Nat.mod_lt _ (by omega)
    have : ∀ m, m < 9 → (zBV.cells[m]! : Value) = .int .i64 0 := by
      intro m hm
      match m, hm with
      | 0, _ => rfl
      | 1, _ => rfl
      | 2, _ => rfl
      | 3, _ => rfl
      | 4, _ => rfl
      | 5, _ => rfl
      | 6, _ => rfl
      | 7, _ => rfl
      | 8, _ => rfl
    have e := this (j % zBV.cells.size) h9
    simp only [madeCells, Array.toList_map, Array.toList_range, List.getElem?_map, List.getElem?_range hj, Option.map_some, List.getElem?_replicate, if_pos hj, e]
  · simp [madeCells, hj]
/-- 'make([]impl.Body, n)' -/
theorem make_bod (w : World) (hgd : o.guard = none) (l c : Operand) (ho : o.op = Op.makeSlice 38 l c) (base n : Nat) (hl : a.eval l = .int .i64 (n : Int)) (hc : a.eval c = .int .i64 (n : Int)) (hn : n ≤ 1048576) (hbase : base ≤ w.heap.size)
    (hK : ∀ w', Own w' base 9 (.slice (some ⟨w.heap.size, 0, none⟩) n n) n (cellsB (List.replicate n zB)) → w.grownBy w' none → wpList Tryd.prog ops Q rest (a.put o.dst (.slice (some ⟨w.heap.size, 0, none⟩) n n)) w') :
    wpList Tryd.prog ops Q (o :: rest) a w := by
  obtain ⟨i0, hi, hz0, hz1, hz2⟩ := bod_parts
  exact wpList_make_full (P := Tryd.prog) w hgd l c 38 ho base 75 i0 zBV 9 Tryd.underlying38 hi hz0 hz1 .i64 .i64 n n n hl hc rfl rfl (by rw [hz2]; omega) (by unfold maxLen; omega) hbase
    (fun w' h1 h2 => hK w' (Own.of_row (by rw [← made_bod]; exact h1)) h2)
/-- 'append(out, b)' on a []impl.Body: the new element lies in a block that was just laid. -/
theorem app_bod (w : World) (C : Array Value) (hgd : o.guard = none) (s x : Operand) (ho : o.op = .call { callee := .builtin .append, args := #[s, x], argTypes := #[38, 38] }) (base : Nat)
    {v : Value} {n : Nat} {l : List Bd} (hown : Own w base 9 v n (cellsB l)) (hv : a.eval s = v) (m c : Nat) (news : List Bd) (hx : a.eval x = .slice (some ⟨w.heap.size, 0, none⟩) m c) (hC : Hid (C.toList = cellsB news)) (hm : m = news.length)
    (hbytes : (n + m) * 72 ≤ 140737488355328) (hbase : base ≤ w.heap.size)
    (hK : ∀ v' w', Own w' base 9 v' (n + m) (cellsB (l ++ news)) → w.grownBy w' v.ownBlock → (v'.ownBlock = v.ownBlock ∨ ∃ g, v'.ownBlock = some g ∧ w.heap.size ≤ g) → wpList Tryd.prog ops Q rest (a.put o.dst v') w') :
    wpList Tryd.prog ops Q (o :: rest) a (w.alloc (.cells C 75 (0, 0))) := by
  obtain ⟨i0, hi, hz0, hz1, hz2⟩ := bod_parts
  refine wpList_append_o (P := Tryd.prog) (w.alloc (.cells C 75 (0, 0))) hgd s x 38 38 ho base 75 i0 zBV 9 72 Tryd.underlying38 hi hz0 hz1 hz2 rfl hv (hown.alloc _) _ m (cellsB news) hx
    (Src.ofSlice (P := Tryd.prog) _ (size := 9) Tryd.underlying38 ⟨w.heap.size, 0, none⟩ m c (cellsB news) (by rw [cellsB_len, hm]) (fun j u hu => ?_) (cellsB_one news))
    (by unfold maxLen; omega) (by omega) (by simp; omega) (fun v' w' h1 h2 h3 => ?_)
  · rw [Addr.add_lit, Nat.zero_add, World.cell?_alloc_new, ← hu, ← hC.out, Array.getElem?_toList]
  · rw [← cellsB_append] at h1
    refine hK v' w' h1 (grownBy_trans (World.grownBy_alloc w _ _) h2) ?_
    rcases h3 with h3 | h3
    · exact .inl h3
    · exact .inr ⟨_, h3, by simp⟩
/-- 'append(out, s...)' on a []impl.Body -/
theorem app_bods (w : World) (hgd : o.guard = none) (s x : Operand) (ho : o.op = .call { callee := .builtin .append, args := #[s, x], argTypes := #[38, 38] }) (base : Nat)
    {v : Value} {n : Nat} {l : List Bd} (hown : Own w base 9 v n (cellsB l)) (hv : a.eval s = v) {xv : Value} {m : Nat} {news : List Bd} (hat : At w 9 xv m (cellsB news)) (hx : a.eval x = xv)
    (hbytes : (n + m) * 72 ≤ 140737488355328) (hbase : base ≤ w.heap.size)
    (hK : ∀ v' w', Own w' base 9 v' (n + m) (cellsB (l ++ news)) → w.grownBy w' v.ownBlock → (v'.ownBlock = v.ownBlock ∨ ∃ g, v'.ownBlock = some g ∧ w.heap.size ≤ g) → wpList Tryd.prog ops Q rest (a.put o.dst v') w') :
    wpList Tryd.prog ops Q (o :: rest) a w := by
  obtain ⟨i0, hi, hz0, hz1, hz2⟩ := bod_parts
  refine wpList_append_o (P := Tryd.prog) w hgd s x 38 38 ho base 75 i0 zBV 9 72 Tryd.underlying38 hi hz0 hz1 hz2 rfl hv hown _ m _ hx
    (src_at (P := Tryd.prog) Tryd.underlying38 hat (cellsB_one _)) (by unfold maxLen; omega) (by omega) (by omega) (fun v' w' h1 h2 h3 => ?_)
  rw [← cellsB_append] at h1
  refine hK v' w' h1 h2 ?_
  rcases h3 with h3 | h3
  · exact .inl h3
  · exact .inr ⟨_, h3, Nat.le_refl _⟩
end
/-- what toBodyS has copied after k steps -/
def setB (l : List Bd) (k : Nat) : List Bd := l.take k ++ List.replicate (l.length - k) zB
theorem setB_len {l : List Bd} {k : Nat} (h : k ≤ l.length) : (setB l k).length = l.length := by unfold setB; rw [List.length_append, List.length_take, List.length_replicate]; omega
theorem setB_0 (l : List Bd) : setB l 0 = List.replicate l.length zB := by simp [setB]
theorem setB_end (l : List Bd) : setB l l.length = l := by simp [setB]
theorem setB_succ {l : List Bd} {k : Nat} (h : k < l.length) : setB l (k + 1) = (setB l k).set k (bAt l k) := by
  rw [bAt_eq h]
  apply List.ext_getElem?
  intro j
  by_cases e : j = k
  · subst e
    rw [List.getElem?_set_self (by rw [setB_len (by omega)]; exact h)]
    unfold setB
    rw [List.getElem?_append_left (by rw [List.length_take]; omega), List.getElem?_take, if_pos (by omega), List.getElem?_eq_getElem h]
  · rw [List.getElem?_set_ne (Ne.symm e)]
    unfold setB
    by_cases hj : j < k
    · rw [List.getElem?_append_left (by rw [List.length_take]; omega), List.getElem?_append_left (by rw [List.length_take]; omega), List.getElem?_take, List.getElem?_take, if_pos (by omega), if_pos (by omega)]
    · rw [List.getElem?_append_right (by rw [List.length_take]; omega), List.getElem?_append_right (by rw [List.length_take]; omega), List.getElem?_replicate, List.getElem?_replicate, List.length_take, List.length_take]
      by_cases h2 : j < l.length
      · rw [if_pos (by omega), if_pos (by omega)]
      · rw [if_neg (by omega), if_neg (by omega)]
theorem Own.fitB {w : World} {base n : Nat} {v : Value} {l : List Bd} (h : Own w base 9 v n (cellsB l)) : n = l.length := by
  have e := h.len
  rw [cellsB_len] at e
  omega
/-- an element of an own slice may be stored into -/
structure Free9 (w : World) (g o : Nat) : Prop where
  s0 : (w.cell? ⟨g, o, none⟩).isSome = true
  s1 : (w.cell? ⟨g, o + 1, none⟩).isSome = true
  s2 : (w.cell? ⟨g, o + 2, none⟩).isSome = true
  s3 : (w.cell? ⟨g, o + 3, none⟩).isSome = true
  s4 : (w.cell? ⟨g, o + 4, none⟩).isSome = true
  s5 : (w.cell? ⟨g, o + 5, none⟩).isSome = true
  s6 : (w.cell? ⟨g, o + 6, none⟩).isSome = true
  s7 : (w.cell? ⟨g, o + 7, none⟩).isSome = true
  s8 : (w.cell? ⟨g, o + 8, none⟩).isSome = true
  f0 : w.frozen? ⟨g, o, none⟩ = false
  f1 : w.frozen? ⟨g, o + 1, none⟩ = false
  f2 : w.frozen? ⟨g, o + 2, none⟩ = false
  f3 : w.frozen? ⟨g, o + 3, none⟩ = false
  f4 : w.frozen? ⟨g, o + 4, none⟩ = false
  f5 : w.frozen? ⟨g, o + 5, none⟩ = false
  f6 : w.frozen? ⟨g, o + 6, none⟩ = false
  f7 : w.frozen? ⟨g, o + 7, none⟩ = false
  f8 : w.frozen? ⟨g, o + 8, none⟩ = false
theorem Own.free9 {w : World} {base n cap g : Nat} {cs : List Value} (h : Own w base 9 (.slice (some ⟨g, 0, none⟩) n cap) n cs) {k : Nat} (hk : k < n) : Free9 w g (k * 9) := by
  rcases h.val with ⟨h', _⟩ | ⟨g', cap', h', _, _, hn, _, _, hs⟩
  · simp at h'
  · simp only [Value.slice.injEq, Option.some.injEq, Addr.mk.injEq, and_true, true_and] at h'
    obtain ⟨rfl, rfl⟩ := h'
    exact ⟨(hs _ (by omega)).1, (hs _ (by omega)).1, (hs _ (by omega)).1, (hs _ (by omega)).1, (hs _ (by omega)).1, (hs _ (by omega)).1, (hs _ (by omega)).1, (hs _ (by omega)).1, (hs _ (by omega)).1,
      (hs _ (by omega)).2, (hs _ (by omega)).2, (hs _ (by omega)).2, (hs _ (by omega)).2, (hs _ (by omega)).2, (hs _ (by omega)).2, (hs _ (by omega)).2, (hs _ (by omega)).2, (hs _ (by omega)).2⟩
theorem At.elem {w : World} {l : List Bd} {g off cap : Nat} (h : At w 9 (.slice (some ⟨g, off, none⟩) l.length cap) l.length (cellsB l)) {k : Nat} (hk : k < l.length) : Elem w g (off + k * 9) (bAt l k) := by
  obtain ⟨ao, cap, hv, h'⟩ := h.cellB
  simp only [Value.slice.injEq, true_and] at hv
  obtain ⟨rfl, rfl⟩ := hv
  obtain ⟨g', off', e, _, hc⟩ := h' (by omega)
  simp only [Option.some.injEq, Addr.mk.injEq, and_true] at e
  obtain ⟨rfl, rfl⟩ := e
  exact elem_mk fun j hj => hc k j hk hj
end Go.Proofs.YtiopbdodegopdaaDoor
/- Bodies moved whole between slots and memory: the load and the store of nine cells, the value folded; a function's result that is a body and a bool. -/
namespace Go.Proofs.YtiopbdodegopdaaDoor
open Go.RowKit

theorem cells_at (b : Bd) : ∀ (j : Nat) (v : Value), b.cells[j]? = some v → j < 9 := fun j v h => by have := (List.getElem?_eq_some_iff.1 h).1; rwa [Bd.cells_len] at this
theorem Blk.range {w : World} {g : Nat} {b : Bd} (h : Blk w g b) : w.rangeAt g 0 b.cells := fun j v hv => by
  have hj := cells_at b j v hv
  rw [Nat.zero_add]
  obtain ⟨_, c0, c1, c2, c3, c4, c5, c6, c7, c8, _⟩ := h
  match j, hj with
  | 0, _ => exact c0.trans hv
  | 1, _ => exact c1.trans hv
  | 2, _ => exact c2.trans hv
  | 3, _ => exact c3.trans hv
  | 4, _ => exact c4.trans hv
  | 5, _ => exact c5.trans hv
  | 6, _ => exact c6.trans hv
  | 7, _ => exact c7.trans hv
  | 8, _ => exact c8.trans hv
theorem some_isSome {α : Type} {x : Option α} {v : α} (h : x = some v) : x.isSome = true := by rw [h]; rfl
theorem Blk.there {w : World} {g : Nat} {b : Bd} (h : Blk w g b) : w.there g 0 9 := fun j hj => by
  rw [Nat.zero_add]
  obtain ⟨_, c0, c1, c2, c3, c4, c5, c6, c7, c8, f0, f1, f2, f3, f4, f5, f6, f7, f8⟩ := h
  match j, hj with
  | 0, _ => exact ⟨some_isSome c0, f0⟩
  | 1, _ => exact ⟨some_isSome c1, f1⟩
  | 2, _ => exact ⟨some_isSome c2, f2⟩
  | 3, _ => exact ⟨some_isSome c3, f3⟩
  | 4, _ => exact ⟨some_isSome c4, f4⟩
  | 5, _ => exact ⟨some_isSome c5, f5⟩
  | 6, _ => exact ⟨some_isSome c6, f6⟩
  | 7, _ => exact ⟨some_isSome c7, f7⟩
  | 8, _ => exact ⟨some_isSome c8, f8⟩
theorem Blk.setAll {w : World} {g : Nat} {z : Bd} (h : Blk w g z) (b : Bd) : Blk (w.setCells g 0 b.cells) g b := by rw [← put9_eq]; exact h.put9 b
theorem Blk.apart {w : World} {g g2 o : Nat} {b : Bd} (h : Blk w g b) (hne : g ≠ g2) (vs : List Value) : Blk (w.setCells g2 o vs) g b :=
  h.carry (by rw [size_setCells_]; exact Nat.le_refl _) ((setCells_grown w g2 o vs).block g h.lt (fun e => hne (by simpa using e)))
theorem Elem.range {w : World} {g o : Nat} {b : Bd} (h : Elem w g o b) : w.rangeAt g o b.cells := fun j v hv => by
  have hj := cells_at b j v hv
  obtain ⟨c0, c1, c2, c3, c4, c5, c6, c7, c8⟩ := h
  match j, hj with
  | 0, _ => exact c0.trans hv
  | 1, _ => exact c1.trans hv
  | 2, _ => exact c2.trans hv
  | 3, _ => exact c3.trans hv
  | 4, _ => exact c4.trans hv
  | 5, _ => exact c5.trans hv
  | 6, _ => exact c6.trans hv
  | 7, _ => exact c7.trans hv
  | 8, _ => exact c8.trans hv
theorem Own.there9 {w : World} {base n cap g : Nat} {cs : List Value} (h : Own w base 9 (.slice (some ⟨g, 0, none⟩) n cap) n cs) {k : Nat} (hk : k < n) : w.there g (k * 9) 9 := by
  rcases h.val with ⟨h', _⟩ | ⟨g', cap', h', _, _, hn, _, _, hs⟩
  · simp at h'
  · simp only [Value.slice.injEq, Option.some.injEq, Addr.mk.injEq, and_true, true_and] at h'
    obtain ⟨rfl, rfl⟩ := h'
    exact fun j hj => hs _ (by omega)
theorem Own.other {w : World} {base sz n : Nat} {v : Value} {cs : List Value} (h : Own w base sz v n cs) {p : Addr} (hp : ∀ g, v.ownBlock = some g → g ≠ p.block) (x : Value) : Own (w.setCell p x) base sz v n cs :=
  h.carry (by simp) (fun g hv _ => Below.heap_setCell _ _ _ _ (hp g hv))
theorem Own.apart {w : World} {base sz n : Nat} {v : Value} {cs : List Value} (h : Own w base sz v n cs) {g2 : Nat} (hp : ∀ g, v.ownBlock = some g → g ≠ g2) (o : Nat) (vs : List Value) : Own (w.setCells g2 o vs) base sz v n cs :=
  h.carry (by rw [size_setCells_]; exact Nat.le_refl _) (fun g hv hl => (setCells_grown w g2 o vs).block g hl (fun e => hp g hv (by simpa using e)))
theorem bval_eq (b : Bd) : b.val = .agg b.cells.toArray := rfl
theorem bval_cells (b : Bd) : b.val.cells = b.cells.toArray := rfl
theorem bod_all (b : Bd) : b.cells.toArray.all (·.oneCell') = true := by
  refine Array.all_eq_true_iff_forall_mem.2 fun v hv => ?_
  exact cellsB_one [b] v (by simpa [cellsB] using hv)
theorem size_bod : (Tryd.prog.info? 75).map (·.size) = some 9 := by kernel_rfl
section
variable {ops : Array Oper} {rest : List Oper} {op : Oper} {a : Act} {w : World} {Q : Exit → Act → World → Prop}
/-- a body is loaded -/
theorem load_bod (hgd : op.guard = none) (x : Operand) (ho : op.op = .load 75 x) (g o : Nat) (hx : a.eval x = .pointer (some ⟨g, o, none⟩)) (b : Bd) (hc : w.rangeAt g o b.cells)
    (h : wpList Tryd.prog ops Q rest (a.put op.dst b.val) w) : wpList Tryd.prog ops Q (op :: rest) a w :=
  wpList_load_mid hgd _ x ho g o hx b.cells _ hc Tryd.underlying75 rfl (by rw [size_bod]; rfl) h
/-- a body is stored -/
theorem store_bod (hgd : op.guard = none) (x y : Operand) (ho : op.op = .store 75 x y) (g o : Nat) (hx : a.eval x = .pointer (some ⟨g, o, none⟩)) (b : Bd) (hy : a.eval y = b.val) (ht : w.there g o 9)
    (h : wpList Tryd.prog ops Q rest (a.put op.dst undef) (w.setCells g o b.cells)) : wpList Tryd.prog ops Q (op :: rest) a w :=
  wpList_store_mid hgd _ x y ho g o b.cells.toArray hx hy (by exact ht) (by rw [size_bod]; rfl) (bod_all b) (by rw [List.toList_toArray]; exact h)
/-- a body is boxed (a parameter, a variable) -/
theorem box_bod (hgd : op.guard = none) (t : TypeId) (x : Operand) (ho : op.op = .box t x) (b : Bd) (hx : a.eval x = b.val)
    (h : wpList Tryd.prog ops Q rest (a.put op.dst (.pointer (some ⟨w.heap.size, 0, none⟩))) (w.alloc (.cells b.cells.toArray t))) : wpList Tryd.prog ops Q (op :: rest) a w := by
  refine wpList_plain hgd fun K hK => ?_
  unfold Oper.wp execOp
  simp only [ho, Sem.run_bind, Instr.box, newVar, newRow, run_newObj_alloc, Sem.run_pure, Result.andThen_ok, hx, bval_cells]
  exact hK _ _ h
theorem Blk.newB (w : World) (t : TypeId) (b : Bd) : Blk (w.alloc (.cells b.cells.toArray t)) w.heap.size b := Blk.new w t b
/-- .. in a region that draws its order: taken as one of the reads -/
theorem still_bod {K : Act → Prop} (x : Operand) (ho : op.op = .load 75 x) (g o : Nat) (hx : a.eval x = .pointer (some ⟨g, o, none⟩)) (b : Bd) (hc : w.rangeAt g o b.cells)
    (h : K (a.put op.dst b.val)) : op.still Tryd.prog a w K := by
  unfold Oper.still execOp
  simp only [ho, hx, Instr.loadAt, Instr.sureAddr, Sem.run_bind, Sem.run_pure, Result.andThen_ok, run_loadVar_mid w g o _ b.cells _ hc Tryd.underlying75 rfl (by rw [size_bod]; rfl)]
  exact ⟨rfl, h⟩
theorem still_bodS {Q' : Act → Prop} (hgd : op.guard = none) (x : Operand) (ho : op.op = .load 75 x) (g o : Nat) (hx : a.eval x = .pointer (some ⟨g, o, none⟩)) (b : Bd) (hc : w.rangeAt g o b.cells)
    (h : wpStill Tryd.prog ops w Q' rest (a.put op.dst b.val)) : wpStill Tryd.prog ops w Q' (op :: rest) a := by
  unfold wpStill
  rw [if_pos (by simp [Region.wanted, hgd])]
  exact still_bod x ho g o hx b hc h
theorem yields_bod {S : World → Prop} (hw : Region.wanted op (yielded ops a.tmps) = true) (x : Operand) (ho : op.op = .load 75 x) (g o : Nat) (hx : a.eval x = .pointer (some ⟨g, o, none⟩)) (b : Bd) (hS : ∀ w, S w → w.rangeAt g o b.cells) :
    YieldsIf Tryd.prog ops S op b.val a :=
  yieldsIf_load_mid hw _ x ho g o hx b.cells _ hS Tryd.underlying75 rfl (by rw [size_bod]; rfl)
end
def zcells : Array Value := #[.int .i64 0, .int .i64 0, .int .i64 0, .int .i64 0, .int .i64 0, .int .i64 0, .int .i64 0, .int .i64 0, .int .i64 0]
theorem zthere (w : World) (t : TypeId) : (w.alloc (.cells #[.int .i64 0, .int .i64 0, .int .i64 0, .int .i64 0, .int .i64 0, .int .i64 0, .int .i64 0, .int .i64 0, .int .i64 0] t)).there w.heap.size 0 9 := (Blk.new w t zB).there
/-- a new variable that holds a body -/
theorem newB {B : Nat} {a wr : World} (h : Below B a wr) (hs : B ≤ wr.heap.size) (t : TypeId) (b : Bd) :
    Blk ((wr.alloc (.cells #[.int .i64 0, .int .i64 0, .int .i64 0, .int .i64 0, .int .i64 0, .int .i64 0, .int .i64 0, .int .i64 0, .int .i64 0] t)).setCells wr.heap.size 0 b.cells) wr.heap.size b ∧
    Below B a ((wr.alloc (.cells #[.int .i64 0, .int .i64 0, .int .i64 0, .int .i64 0, .int .i64 0, .int .i64 0, .int .i64 0, .int .i64 0, .int .i64 0] t)).setCells wr.heap.size 0 b.cells) ∧
    Below wr.heap.size wr ((wr.alloc (.cells #[.int .i64 0, .int .i64 0, .int .i64 0, .int .i64 0, .int .i64 0, .int .i64 0, .int .i64 0, .int .i64 0, .int .i64 0] t)).setCells wr.heap.size 0 b.cells) :=
  ⟨(Blk.new wr t zB).setAll b, setCells_below (h.alloc hs _) hs, setCells_below ((Below.refl _ _).alloc (Nat.le_refl _) _) (Nat.le_refl _)⟩
/-- the results of a function: a body out of its variable, and a bool -/
theorem res_bod2 {fn : Func} {t1 t2 : Tmp} {tmps : Array Value} {w : World} {g : Nat} {b : Bd} {st : Bool} (hr : fn.results = #[.cell t1 75, .tmp t2]) (h1 : tmps.getD t1 undef = .pointer (some ⟨g, 0, none⟩)) (h2 : tmps.getD t2 undef = .bool st)
    (hc : w.rangeAt g 0 b.cells) : (results fn tmps).run Tryd.prog w = .ok (.tuple #[b.val, .bool st]) w := by
  have hl := run_loadVar_mid w g 0 75 b.cells _ hc Tryd.underlying75 rfl (by rw [size_bod]; rfl)
  have h1' : tmps[t1]?.getD undef = .pointer (some ⟨g, 0, none⟩) := by simpa using h1
  have h2' : tmps[t2]?.getD undef = .bool st := by simpa using h2
  simp [results, hr, h1', h2', hl, asAddr, bval_eq]
theorem res_bod1 {fn : Func} {t1 : Tmp} {tmps : Array Value} {w : World} {g : Nat} {b : Bd} (hr : fn.results = #[.cell t1 75]) (h1 : tmps.getD t1 undef = .pointer (some ⟨g, 0, none⟩))
    (hc : w.rangeAt g 0 b.cells) : (results fn tmps).run Tryd.prog w = .ok b.val w := by
  have hl := run_loadVar_mid w g 0 75 b.cells _ hc Tryd.underlying75 rfl (by rw [size_bod]; rfl)
  have h1' : tmps[t1]?.getD undef = .pointer (some ⟨g, 0, none⟩) := by simpa using h1
  simp [results, hr, h1', hl, asAddr, bval_eq]
end Go.Proofs.YtiopbdodegopdaaDoor
/- The laws' own functions on bodies: toBodyS, eqBodyS, markBodyS, heldBodyS. -/
namespace Go.Proofs.YtiopbdodegopdaaDoor
open Go.RowKit

end Go.Proofs.YtiopbdodegopdaaDoor
/- Slices of slices of whole numbers ([][]int): owned, read, carried along, appended to. -/
namespace Go.Proofs.YtiopbdodegopdaaDoor
open Go.RowKit

def ints (l : List Int) : List Value := l.map (Value.int .i64)
def nilV : Value := .slice none 0 0
/-- the n-th row's value -/
def vAt (us : List Value) (k : Nat) : Value := us.getD k nilV
theorem vAt_eq {us : List Value} {k : Nat} (h : k < us.length) : vAt us k = us[k]'h := by simp [vAt, List.getD, List.getElem?_eq_getElem h]
theorem vAt_get {us : List Value} {k : Nat} (h : k < us.length) : us[k]? = some (vAt us k) := by rw [vAt_eq h, List.getElem?_eq_getElem h]
def lAt (L : List (List Int)) (k : Nat) : List Int := L.getD k []
theorem lAt_eq {L : List (List Int)} {k : Nat} (h : k < L.length) : lAt L k = L[k]'h := by simp [lAt, List.getD, List.getElem?_eq_getElem h]
structure AtSS (w : World) (v : Value) (us : List Value) (L : List (List Int)) : Prop where
  o : At w 1 v us.length us
  n : us.length = L.length
  r : ∀ k, k < L.length → At w 1 (vAt us k) (lAt L k).length (ints (lAt L k))
structure OwnSS (w : World) (B : Nat) (v : Value) (us : List Value) (L : List (List Int)) : Prop where
  o : Own w B 1 v us.length us
  n : us.length = L.length
  r : ∀ k, k < L.length → Own w B 1 (vAt us k) (lAt L k).length (ints (lAt L k))
  dj : ∀ i j, i < L.length → j < L.length → i ≠ j → Dj (vAt us i) (vAt us j)
  dv : ∀ i, i < L.length → Dj v (vAt us i)
theorem OwnSS.at_ {w : World} {B : Nat} {v : Value} {us : List Value} {L : List (List Int)} (h : OwnSS w B v us L) : AtSS w v us L := ⟨h.o.at_, h.n, fun k hk => (h.r k hk).at_⟩
theorem AtSS.below {w w' : World} {v : Value} {us : List Value} {L : List (List Int)} (h : AtSS w v us L) (hb : Below w.heap.size w w') : AtSS w' v us L := ⟨h.o.below hb, h.n, fun k hk => (h.r k hk).below hb⟩
theorem OwnSS.belowS {w w' : World} {B : Nat} {v : Value} {us : List Value} {L : List (List Int)} (h : OwnSS w B v us L) (hb : Below w.heap.size w w') : OwnSS w' B v us L := ⟨h.o.belowS hb, h.n, fun k hk => (h.r k hk).belowS hb, h.dj, h.dv⟩
theorem OwnSS.mono {w : World} {B B' : Nat} {v : Value} {us : List Value} {L : List (List Int)} (h : OwnSS w B v us L) (hB : B' ≤ B) : OwnSS w B' v us L := ⟨h.o.mono hB, h.n, fun k hk => (h.r k hk).mono hB, h.dj, h.dv⟩
theorem OwnSS.drew {w : World} {B : Nat} {v : Value} {us : List Value} {L : List (List Int)} (h : OwnSS w B v us L) : OwnSS w.drew B v us L := ⟨h.o.drew, h.n, fun k hk => (h.r k hk).drew, h.dj, h.dv⟩
theorem OwnSS.nil (w : World) (B : Nat) : OwnSS w B nilV [] [] := ⟨Own.nil w B 1, rfl, fun _ h => absurd h (Nat.not_lt_zero _), fun _ _ h => absurd h (Nat.not_lt_zero _), fun _ h => absurd h (Nat.not_lt_zero _)⟩
theorem vAt_snoc {us : List Value} {x : Value} {k : Nat} : k < us.length → vAt (us ++ [x]) k = vAt us k := fun h => by unfold vAt List.getD; rw [List.getElem?_append_left h]
theorem vAt_last (us : List Value) (x : Value) : vAt (us ++ [x]) us.length = x := by unfold vAt List.getD; rw [List.getElem?_append_right (Nat.le_refl _)]; simp
theorem lAt_snoc {L : List (List Int)} {x : List Int} {k : Nat} : k < L.length → lAt (L ++ [x]) k = lAt L k := fun h => by unfold lAt List.getD; rw [List.getElem?_append_left h]
theorem lAt_last (L : List (List Int)) (x : List Int) : lAt (L ++ [x]) L.length = x := by unfold lAt List.getD; rw [List.getElem?_append_right (Nat.le_refl _)]; simp
theorem dj_ge {a b : Value} (h : ∀ i j, a.ownBlock = some i → b.ownBlock = some j → i ≠ j) : Dj a b := by
  unfold Dj
  cases ha : a.ownBlock with
  | none => exact .inl rfl
  | some i =>
    right
    intro e
    exact h i i ha e.symm rfl
/-- a new row at the end: the outer slice grew, the row lies in a block laid just before. -/
theorem OwnSS.snoc {w w1 w' : World} {B : Nat} {v v' x : Value} {us : List Value} {L : List (List Int)} {l : List Int} (h : OwnSS w B v us L) (hb : Below w.heap.size w w1) (hx : Own w1 B 1 x l.length (ints l)) (hxn : ∀ g, x.ownBlock = some g → w.heap.size ≤ g)
    (ho : Own w' B 1 v' (us.length + 1) (us ++ [x])) (hg : w1.grownBy w' v.ownBlock) (hv : v'.ownBlock = v.ownBlock ∨ ∃ g, v'.ownBlock = some g ∧ w1.heap.size ≤ g) : OwnSS w' B v' (us ++ [x]) (L ++ [l]) := by
  have hn := h.n
  have hvn : ∀ g, v.ownBlock = some g → g < w.heap.size := fun g hg => (h.o.ge g hg).2
  have hxv : Dj v x := dj_ge fun i j hi hj e => by have := hvn i hi; have := hxn j hj; omega
  have hx' : Own w' B 1 x l.length (ints l) := hx.kept hg (hxv.symm)
  have hr' : ∀ k, k < L.length → Own w' B 1 (vAt us k) (lAt L k).length (ints (lAt L k)) := fun k hk => ((h.r k hk).belowS hb).kept hg (h.dv k hk).symm
  refine ⟨by rw [List.length_append, List.length_singleton]; exact ho, by simp [hn], fun k hk => ?_, fun i j hi hj hij => ?_, fun i hi => ?_⟩
  · rw [List.length_append, List.length_singleton] at hk
    by_cases e : k < L.length
    · rw [vAt_snoc (by omega), lAt_snoc e]; exact hr' k e
    · obtain rfl : k = us.length := by omega
      rw [vAt_last, hn, lAt_last]; exact hx'
  · rw [List.length_append, List.length_singleton] at hi hj
    by_cases ei : i < L.length
    · by_cases ej : j < L.length
      · rw [vAt_snoc (by omega), vAt_snoc (by omega)]; exact h.dj i j ei ej hij
      · obtain rfl : j = us.length := by omega
        rw [vAt_last, vAt_snoc (by omega)]
        exact dj_ge fun a b ha hb e => by have := ((h.r i ei).ge a ha).2; have := hxn b hb; omega
    · obtain rfl : i = us.length := by omega
      by_cases ej : j < L.length
      · rw [vAt_last, vAt_snoc (by omega)]
        exact (dj_ge fun a b ha hb e => by have := ((h.r j ej).ge a ha).2; have := hxn b hb; omega : Dj _ x).symm
      · omega
  · rw [List.length_append, List.length_singleton] at hi
    have hold : ∀ y : Value, Dj v y → (∀ g, y.ownBlock = some g → g < w1.heap.size) → Dj v' y := by
      intro y hy hlt
      rcases hv with hv | ⟨g, hv, hge⟩
      · unfold Dj at hy ⊢; rw [hv]; exact hy
      · exact dj_ge fun a b ha hb e => by rw [hv] at ha; have := hlt b hb; simp only [Option.some.injEq] at ha; omega
    by_cases e : i < L.length
    · rw [vAt_snoc (by omega)]
      exact hold _ (h.dv i e) fun g hg => (((h.r i e).belowS hb).ge g hg).2
    · obtain rfl : i = us.length := by omega
      rw [vAt_last]
      exact hold _ hxv fun g hg => (hx.ge g hg).2
section
variable {ops : Array Oper} {rest : List Oper} {o : Oper} {a : Act} {Q : Exit → Act → World → Prop}
theorem info_ss : (Tryd.prog.info? 37).map (fun i => (i.zero, i.size, i.bytes)) = some (some nilV, 1, 24) := by kernel_rfl
theorem ss_parts : ∃ i, Tryd.prog.info? 37 = some i ∧ i.zero = some nilV ∧ i.size = 1 ∧ i.bytes = 24 := by
  obtain ⟨i, hi, hzz⟩ := Option.map_eq_some_iff.1 info_ss
  simp only [Prod.mk.injEq] at hzz
  exact ⟨i, hi, hzz⟩
/-- 'append(out, row)' on a [][]int: the new element lies in a block that was just laid. -/
theorem app_ss (w : World) (x : Value) (h1 : x.oneCell' = true) (hgd : o.guard = none) (s y : Operand) (ho : o.op = .call { callee := .builtin .append, args := #[s, y], argTypes := #[41, 41] }) (base : Nat)
    {v : Value} {n : Nat} {us : List Value} (hown : Own w base 1 v n us) (hv : a.eval s = v) (N : Nat) (hN : w.heap.size = N) (hx : a.eval y = .slice (some ⟨N, 0, none⟩) 1 1)
    (hbytes : (n + 1) * 24 ≤ 140737488355328) (hbase : base ≤ w.heap.size)
    (hK : ∀ v' w', Own w' base 1 v' (n + 1) (us ++ [x]) → w.grownBy w' v.ownBlock → (v'.ownBlock = v.ownBlock ∨ ∃ g, v'.ownBlock = some g ∧ w.heap.size ≤ g) → wpList Tryd.prog ops Q rest (a.put o.dst v') w') :
    wpList Tryd.prog ops Q (o :: rest) a (w.alloc (.cells #[x] 37 (0, 0))) := by
  subst hN
  obtain ⟨i0, hi, hz0, hz1, hz2⟩ := ss_parts
  refine wpList_append_o (P := Tryd.prog) (w.alloc (.cells #[x] 37 (0, 0))) hgd s y 41 41 ho base 37 i0 nilV 1 24 Tryd.underlying41 hi hz0 hz1 hz2 rfl hv (hown.alloc _) _ 1 [x] hx
    (Src.ofSlice (P := Tryd.prog) _ (size := 1) Tryd.underlying41 ⟨w.heap.size, 0, none⟩ 1 1 [x] rfl (fun j u hu => ?_) (fun u hu => ?_))
    (by unfold maxLen; omega) (by omega) (by simp; omega) (fun v' w' h1 h2 h3 => ?_)
  · rw [Addr.add_lit, Nat.zero_add, World.cell?_alloc_new, ← hu, ← Array.getElem?_toList]
  · simp at hu; subst hu; exact h1
  · refine hK v' w' h1 (grownBy_trans (World.grownBy_alloc w _ _) h2) ?_
    rcases h3 with h3 | h3
    · exact .inl h3
    · exact .inr ⟨_, h3, by simp⟩
end
end Go.Proofs.YtiopbdodegopdaaDoor
/- The laws' own functions on worlds: szIntS, szBodyS, szWorld, toWorld, eqBodyS, eqWorld. -/
namespace Go.Proofs.YtiopbdodegopdaaDoor
open Go.RowKit

/-- what a world may measure -/
structure WSmall (X : Wd) : Prop where
  r : X.rows.length ≤ 1048576
  rs : ∀ s ∈ X.rows, s.size ≤ 1048576
  s : X.scores.length ≤ 1048576
  b : X.bodies.length ≤ 1048576
theorem At.len63 {w : World} {sz : Nat} {v : Value} {n : Nat} {cs : List Value} (h : At w sz v n cs) : n ≤ 9223372036854775807 := by
  obtain ⟨_, ao, cap, _, hn, hm, _⟩ := h
  unfold maxLen at hm
  omega
def wcells (u : Value) (tk sd : Int) (us ub : Value) : List Value := [u, .int .i64 tk, .int .i64 sd, us, ub]
theorem WBlk.range {w : World} {g : Nat} {u us ub : Value} {tk sd : Int} (h : WBlk w g u tk sd us ub) : w.rangeAt g 0 (wcells u tk sd us ub) := fun j v hv => by
  have hj : j < 5 := (List.getElem?_eq_some_iff.1 hv).1
  rw [Nat.zero_add]
  obtain ⟨_, c0, c1, c2, c3, c4, _⟩ := h
  match j, hj with
  | 0, _ => exact c0.trans hv
  | 1, _ => exact c1.trans hv
  | 2, _ => exact c2.trans hv
  | 3, _ => exact c3.trans hv
  | 4, _ => exact c4.trans hv
theorem WBlk.there {w : World} {g : Nat} {u us ub : Value} {tk sd : Int} (h : WBlk w g u tk sd us ub) : w.there g 0 5 := fun j hj => by
  rw [Nat.zero_add]
  obtain ⟨_, c0, c1, c2, c3, c4, f0, f1, f2, f3, f4⟩ := h
  match j, hj with
  | 0, _ => exact ⟨some_isSome c0, f0⟩
  | 1, _ => exact ⟨some_isSome c1, f1⟩
  | 2, _ => exact ⟨some_isSome c2, f2⟩
  | 3, _ => exact ⟨some_isSome c3, f3⟩
  | 4, _ => exact ⟨some_isSome c4, f4⟩
theorem WBlk.setAll {w : World} {g : Nat} {u us ub u' us' ub' : Value} {tk sd tk' sd' : Int} (h : WBlk w g u tk sd us ub) : WBlk (w.setCells g 0 (wcells u' tk' sd' us' ub')) g u' tk' sd' us' ub' := ((((h.set0 u').set1 tk').set2 sd').set3 us').set4 ub'
theorem slice_one {w : World} {sz : Nat} {v : Value} {n : Nat} {cs : List Value} (h : At w sz v n cs) : v.oneCell' = true := by
  obtain ⟨_, ao, cap, rfl, _⟩ := h
  rfl
theorem size_wld : (Tryd.prog.info? 40).map (·.size) = some 5 := by kernel_rfl
section
variable {ops : Array Oper} {rest : List Oper} {op : Oper} {a : Act} {w : World} {Q : Exit → Act → World → Prop}
theorem load_wld (hgd : op.guard = none) (x : Operand) (ho : op.op = .load 40 x) (g : Nat) (hx : a.eval x = .pointer (some ⟨g, 0, none⟩)) (u : Value) (tk sd : Int) (us ub : Value) (hc : w.rangeAt g 0 (wcells u tk sd us ub))
    (h : wpList Tryd.prog ops Q rest (a.put op.dst (.agg #[u, .int .i64 tk, .int .i64 sd, us, ub])) w) : wpList Tryd.prog ops Q (op :: rest) a w :=
  wpList_load_mid hgd _ x ho g 0 hx (wcells u tk sd us ub) _ hc Tryd.underlying40 rfl (by rw [size_wld]; rfl) h
theorem store_wld (hgd : op.guard = none) (x y : Operand) (ho : op.op = .store 40 x y) (g : Nat) (hx : a.eval x = .pointer (some ⟨g, 0, none⟩)) (u : Value) (tk sd : Int) (us ub : Value) (hy : a.eval y = .agg #[u, .int .i64 tk, .int .i64 sd, us, ub]) (ht : w.there g 0 5)
    (h0 : u.oneCell' = true) (h3 : us.oneCell' = true) (h4 : ub.oneCell' = true)
    (h : wpList Tryd.prog ops Q rest (a.put op.dst undef) (w.setCells g 0 (wcells u tk sd us ub))) : wpList Tryd.prog ops Q (op :: rest) a w :=
  wpList_store_mid hgd _ x y ho g 0 #[u, .int .i64 tk, .int .i64 sd, us, ub] hx hy (by exact ht) (by rw [size_wld]; rfl) (Array.all_eq_true_iff_forall_mem.2 fun v hv => by simp at hv; rcases hv with rfl | rfl | rfl | rfl | rfl <;> first | assumption | rfl) h
end
theorem zwthere (w : World) (t : TypeId) : (w.alloc (.cells #[.slice none 0 0, .int .i64 0, .int .i64 0, .slice none 0 0, .slice none 0 0] t)).there w.heap.size 0 5 := (WBlk.new w t nilV 0 0 nilV nilV).there
/-- a new variable that holds a world -/
theorem newW5 {B : Nat} {a wr : World} (h : Below B a wr) (hs : B ≤ wr.heap.size) (t : TypeId) (u : Value) (tk sd : Int) (us ub : Value) :
    WBlk ((wr.alloc (.cells #[.slice none 0 0, .int .i64 0, .int .i64 0, .slice none 0 0, .slice none 0 0] t)).setCells wr.heap.size 0 (wcells u tk sd us ub)) wr.heap.size u tk sd us ub ∧
    Below B a ((wr.alloc (.cells #[.slice none 0 0, .int .i64 0, .int .i64 0, .slice none 0 0, .slice none 0 0] t)).setCells wr.heap.size 0 (wcells u tk sd us ub)) ∧
    Below wr.heap.size wr ((wr.alloc (.cells #[.slice none 0 0, .int .i64 0, .int .i64 0, .slice none 0 0, .slice none 0 0] t)).setCells wr.heap.size 0 (wcells u tk sd us ub)) :=
  ⟨(WBlk.new wr t nilV 0 0 nilV nilV).setAll, setCells_below (h.alloc hs _) hs, setCells_below ((Below.refl _ _).alloc (Nat.le_refl _) _) (Nat.le_refl _)⟩
/-- the result of a function: a world out of its variable -/
theorem res_wld1 {fn : Func} {t1 : Tmp} {tmps : Array Value} {w : World} {g : Nat} {u us ub : Value} {tk sd : Int} (hr : fn.results = #[.cell t1 40]) (h1 : tmps.getD t1 undef = .pointer (some ⟨g, 0, none⟩))
    (hc : w.rangeAt g 0 (wcells u tk sd us ub)) : (results fn tmps).run Tryd.prog w = .ok (.agg #[u, .int .i64 tk, .int .i64 sd, us, ub]) w := by
  have hl := run_loadVar_mid w g 0 40 (wcells u tk sd us ub) _ hc Tryd.underlying40 rfl (by rw [size_wld]; rfl)
  have h1' : tmps[t1]?.getD undef = .pointer (some ⟨g, 0, none⟩) := by simpa using h1
  simp [results, hr, h1', hl, asAddr, wcells]
theorem res_wld2 {fn : Func} {t1 t2 : Tmp} {tmps : Array Value} {w : World} {g : Nat} {u us ub : Value} {tk sd : Int} {st : Bool} (hr : fn.results = #[.cell t1 40, .tmp t2]) (h1 : tmps.getD t1 undef = .pointer (some ⟨g, 0, none⟩)) (h2 : tmps.getD t2 undef = .bool st)
    (hc : w.rangeAt g 0 (wcells u tk sd us ub)) : (results fn tmps).run Tryd.prog w = .ok (.tuple #[.agg #[u, .int .i64 tk, .int .i64 sd, us, ub], .bool st]) w := by
  have hl := run_loadVar_mid w g 0 40 (wcells u tk sd us ub) _ hc Tryd.underlying40 rfl (by rw [size_wld]; rfl)
  have h1' : tmps[t1]?.getD undef = .pointer (some ⟨g, 0, none⟩) := by simpa using h1
  have h2' : tmps[t2]?.getD undef = .bool st := by simpa using h2
  simp [results, hr, h1', h2', hl, asAddr, wcells]
end Go.Proofs.YtiopbdodegopdaaDoor
/- The laws' own functions on bodies: markBodyS, heldBodyS. -/
namespace Go.Proofs.YtiopbdodegopdaaDoor
open Go.RowKit

/-- the marks of a body: m, m + 1, .. -/
def mkB (m : Int) : Bd := ⟨m, m + 1, m + 1 + 1, m + 1 + 1 + 1, m + 1 + 1 + 1 + 1, m + 1 + 1 + 1 + 1 + 1, m + 1 + 1 + 1 + 1 + 1 + 1, m + 1 + 1 + 1 + 1 + 1 + 1 + 1, m + 1 + 1 + 1 + 1 + 1 + 1 + 1 + 1⟩
def marksB (k0 : Int) (n : Nat) : List Bd := (List.range n).map fun (j : Nat) => mkB (k0 + 9 * (j : Int))
theorem marksB_len (k0 : Int) (n : Nat) : (marksB k0 n).length = n := by simp [marksB]
theorem marksB_at (k0 : Int) {n j : Nat} (h : j < n) : bAt (marksB k0 n) j = mkB (k0 + 9 * j) := by rw [bAt_eq (by rw [marksB_len]; exact h)]; simp [marksB]
def markBTo (k0 : Int) (l : List Bd) (k : Nat) : List Bd := marksB k0 k ++ l.drop k
theorem markBTo_len {k0 : Int} {l : List Bd} {k : Nat} (h : k ≤ l.length) : (markBTo k0 l k).length = l.length := by unfold markBTo; rw [List.length_append, List.length_drop, marksB_len]; omega
theorem markBTo_succ {k0 : Int} {l : List Bd} {k : Nat} (h : k < l.length) : markBTo k0 l (k + 1) = (markBTo k0 l k).set k (mkB (k0 + 9 * k)) := by
  unfold markBTo
  rw [List.set_append_right _ _ (by rw [marksB_len]; omega), marksB_len, Nat.sub_self, List.drop_eq_getElem_cons h, List.set_cons_zero]
  simp [marksB, List.range_succ]
theorem markBTo_end (k0 : Int) (l : List Bd) : markBTo k0 l l.length = marksB k0 l.length := by simp [markBTo]
end Go.Proofs.YtiopbdodegopdaaDoor
/- Marks with larger bounds. -/
namespace Go.Proofs.YtiopbdodegopdaaDoor
open Go.RowKit

set_option maxHeartbeats 800000 in
theorem markstrs2_ret {v : Value} {l : List ByteArray} {B : Nat} (w : World) (h : Own w B 1 v l.length (l.map Value.string)) (hm : l.length ≤ 1048576) :
    Calls Tryd.prog 34 #[v, .int .i64 1] w fun e w' => e = .returned (.int .i64 (1 + l.length)) ∧ Own w' B 1 v (marksS 1 l.length).length ((marksS 1 l.length).map Value.string) ∧ w.grownBy w' v.ownBlock := by
  rcases h.val with ⟨rfl, h0l⟩ | ⟨g, cap, rfl, hbg, hg, hn, hcm, hcl, hfr⟩
  · obtain rfl : l = [] := List.eq_nil_of_length_eq_zero h0l
    go_enter Tryd.func34, Tryd.ntmps34
    go_wp2_with fail
    go_loop [1, 5] (fun q i => q = .int .i64 1 ∧ i = .int .i64 0) (fun _ i => 0)
    case atStart => exact ⟨rfl, rfl⟩
    case round =>
      obtain ⟨rfl, rfl⟩ := hrel
      go_wp2_with fail
      go_ret
      exact ⟨ret_int (by simp), h, grownBy_self _ _⟩
  · clear hcl hfr
    go_enter Tryd.func34, Tryd.ntmps34
    go_wp2_with fail
    go_loopw [1, 5] (fun q i wr => ∃ k : Nat, k ≤ l.length ∧ q = .int .i64 (1 + k) ∧ i = .int .i64 k ∧ Own wr B 1 (.slice (some ⟨g, 0, none⟩) l.length cap) l.length ((markSTo 1 l k).map Value.string) ∧ w.grownBy wr (some g)) (fun _ i _ => l.length - (intOf i).toNat)
    case atStart => exact ⟨0, Nat.zero_le _, by simp, rfl, by simpa [markSTo, marksS] using h, grownBy_self _ _⟩
    case round =>
      obtain ⟨k, hk, rfl, rfl, hown, hgr⟩ := hrel
      by_cases hlt : k < l.length
      · have HS := Lib.hid (markSTo_succ (k0 := 1) hlt)
        go_wp2_with fail
        refine (marktext_ret _ _ (by omega) (by omega)).mono ?_
        rintro e wa ⟨rfl, ha⟩
        have hown1 : Own wa B 1 (.slice (some ⟨g, 0, none⟩) l.length cap) l.length ((markSTo 1 l k).map Value.string) := hown.below ha (fun i hi => (hown.ge i hi).2)
        have c2 : wa.cell? ⟨g, k, none⟩ = some (.string (l[k]'hlt)) := by
          rw [hown1.cell (by omega), List.getElem?_map, markSTo_at hlt]
          rfl
        have hf := hown1.free k (by omega)
        have hga : wr.grownBy wa (some g) := ⟨ha.os, ha.tape, ha.output, ha.size, fun i hi _ => ha.block i hi⟩
        go_wp2_with fail
        go_roundw
        case rel =>
          have hst := hown1.stored k (.string (markV (1 + k))) (by omega)
          refine ⟨k + 1, by omega, by go_num, by go_num, ?_, grownBy_trans (grownBy_trans hgr hga) hst.2⟩
          rw [HS.out, List.map_set]
          exact hst.1
        case measure => simp [intOf]; omega
      · obtain rfl : k = l.length := by omega
        go_wp2_with fail
        go_ret
        rw [markSTo_end] at hown
        exact ⟨rfl, by rw [marksS_len]; exact hown, hgr⟩
set_option maxHeartbeats 2000000 in
theorem heldstrs2_ret {v : Value} {n : Nat} (w : World) (h : At w 1 v (marksS 1 n).length ((marksS 1 n).map Value.string)) (hm : n ≤ 1048576) :
    Calls Tryd.prog 35 #[v, .int .i64 1] w fun e w' => e = .returned (.int .i64 (1 + n)) ∧ Below w.heap.size w w' := by
  obtain ⟨ao, cap, rfl, hc⟩ := h.cellS
  have hml := marksS_len 1 n
  rw [hml]
  go_enter Tryd.func35, Tryd.ntmps35
  go_wp2_with fail
  go_loopw [1, 5] (fun q i wr => ∃ k : Nat, k ≤ n ∧ q = .int .i64 (1 + k) ∧ i = .int .i64 k ∧ Below w.heap.size w wr) (fun _ i _ => n - (intOf i).toNat)
  case atStart => exact ⟨0, Nat.zero_le _, by simp, rfl, Below.refl _ _⟩
  case round =>
    obtain ⟨k, hk, rfl, rfl, hbl⟩ := hrel
    by_cases hlt : k < n
    · obtain ⟨g, off, rfl, hg, hcell⟩ := hc (by rw [hml]; omega)
      clear hc
      have c0 : w.cell? ⟨g, off + k, none⟩ = some (.string (markV (1 + k))) := (hcell k (by rw [hml]; exact hlt)).trans (by rw [marksS_at])
      have c1 : wr.cell? ⟨g, off + k, none⟩ = some (.string (markV (1 + k))) := (hbl.cell hg).trans c0
      clear hcell hml
      have hblD := hbl.drew
      go_wp2_with fail
      go_region_with ((go_at_call 45; refine (marktext_ret _ _ (by omega) (by omega)).mono ?_; rintro e wa ⟨rfl, ha⟩; have hbla := hblD.trans (ha.mono hblD.size); have c2 := (hbla.cell hg).trans c0))
      all_goals
        go_wp2_with fail
        (try go_simp)
        go_roundw
        case rel => exact ⟨k + 1, by omega, by omega, by omega⟩
        case measure => simp [intOf]; omega
    · obtain rfl : k = n := by omega
      go_wp2_with fail
      go_ret
      exact ⟨rfl, hbl⟩
end Go.Proofs.YtiopbdodegopdaaDoor
/- The laws' own functions on levels and worlds: markLevel, heldLevel, eqWorld, markWorld, heldWorld; what a call may have touched. -/
namespace Go.Proofs.YtiopbdodegopdaaDoor
open Go.RowKit

/-- below the heap's old end only the blocks in S have turned -/
structure Tch (S : Nat → Prop) (w w' : World) : Prop where
  os : w'.os = w.os
  tape : w'.tape = w.tape
  output : w'.output = w.output
  size : w.heap.size ≤ w'.heap.size
  block : ∀ i, i < w.heap.size → ¬ S i → w'.heap[i]? = w.heap[i]?
theorem Tch.refl (S : Nat → Prop) (w : World) : Tch S w w := ⟨rfl, rfl, rfl, Nat.le_refl _, fun _ _ _ => rfl⟩
theorem Tch.trans {S : Nat → Prop} {a b c : World} (h : Tch S a b) (k : Tch S b c) : Tch S a c :=
  ⟨k.os.trans h.os, k.tape.trans h.tape, k.output.trans h.output, Nat.le_trans h.size k.size, fun i hi hs => (k.block i (Nat.lt_of_lt_of_le hi h.size) hs).trans (h.block i hi hs)⟩
theorem Tch.mono {S T : Nat → Prop} {w w' : World} (h : Tch S w w') (hs : ∀ i, S i → T i) : Tch T w w' := ⟨h.os, h.tape, h.output, h.size, fun i hi ht => h.block i hi fun e => ht (hs i e)⟩
theorem Tch.of_below {S : Nat → Prop} {w w' : World} (h : Below w.heap.size w w') : Tch S w w' := ⟨h.os, h.tape, h.output, h.size, fun i hi _ => h.block i hi⟩
theorem Tch.of_grown {S : Nat → Prop} {w w' : World} {v : Value} (h : w.grownBy w' v.ownBlock) (hs : ∀ i, v.ownBlock = some i → S i) : Tch S w w' := ⟨h.os, h.tape, h.output, h.size, fun i hi hn => h.block i hi fun e => hn (hs i e.symm)⟩
theorem Tch.below {S : Nat → Prop} {w w' : World} {B : Nat} (h : Tch S w w') (hB : B ≤ w.heap.size) (hs : ∀ i, S i → B ≤ i) : Below B w w' := ⟨h.os, h.tape, h.output, h.size, fun i hi => h.block i (by omega) fun e => by have := hs i e; omega⟩
theorem Own.tch {S : Nat → Prop} {w w' : World} {base sz n : Nat} {v : Value} {cs : List Value} (h : Own w base sz v n cs) (ht : Tch S w w') (hs : ∀ i, v.ownBlock = some i → ¬ S i) : Own w' base sz v n cs := h.carry ht.size fun g hg hl => ht.block g hl (hs g hg)
def blkW (u us ub : Value) (i : Nat) : Prop := u.ownBlock = some i ∨ us.ownBlock = some i ∨ ub.ownBlock = some i
theorem WOwn.ge {w : World} {B : Nat} {u us ub : Value} {X : Wd} (h : WOwn w B u us ub X) : ∀ i, blkW u us ub i → B ≤ i ∧ i < w.heap.size := fun i hi => by
  rcases hi with hi | hi | hi
  · exact h.r.ge i hi
  · exact h.s.ge i hi
  · exact h.b.ge i hi
theorem WOwn.tch {S : Nat → Prop} {w w' : World} {B : Nat} {u us ub : Value} {X : Wd} (h : WOwn w B u us ub X) (ht : Tch S w w') (hs : ∀ i, blkW u us ub i → ¬ S i) : WOwn w' B u us ub X :=
  ⟨h.r.tch ht fun i hi => hs i (.inl hi), h.s.tch ht fun i hi => hs i (.inr (.inl hi)), h.b.tch ht fun i hi => hs i (.inr (.inr hi)), h.rs, h.rb, h.sb⟩
theorem WBlk.tch {S : Nat → Prop} {w w' : World} {g : Nat} {u us ub : Value} {tk sd : Int} (h : WBlk w g u tk sd us ub) (ht : Tch S w w') (hs : ¬ S g) : WBlk w' g u tk sd us ub := h.carry ht.size (ht.block g h.lt hs)
theorem Blk.tch {S : Nat → Prop} {w w' : World} {g : Nat} {b : Bd} (h : Blk w g b) (ht : Tch S w w') (hs : ¬ S g) : Blk w' g b := h.carry ht.size (ht.block g h.lt hs)
set_option maxHeartbeats 1000000 in
theorem marklevel_ret {v : Value} {l : List ByteArray} {B : Nat} (w : World) (h : Own w B 1 v l.length (l.map Value.string)) (hm : l.length ≤ 1048576) :
    Calls Tryd.prog 15 #[.agg #[v], .int .i64 1] w fun e w' => e = .returned (.int .i64 (1 + l.length)) ∧ Own w' B 1 v (marksS 1 l.length).length ((marksS 1 l.length).map Value.string) ∧ Tch (fun i => v.ownBlock = some i) w w' := by
  have hb : ∀ o, Below w.heap.size w (w.alloc o) := fun o => (Below.refl _ _).alloc (Nat.le_refl _) _
  have h1 : ∀ o, Own (w.alloc o) B 1 v l.length (l.map Value.string) := fun o => h.alloc o
  obtain ⟨ao, cap, rfl⟩ := h.slice_
  go_enter Tryd.func15, Tryd.ntmps15
  go_wp2_with fail
  refine (markstrs2_ret _ (h1 _) hm).mono ?_
  rintro e wa ⟨rfl, ha, hg⟩
  go_wp2_with fail
  go_ret
  exact ⟨rfl, ha, (Tch.of_below (hb _)).trans (Tch.of_grown hg fun i hi => hi)⟩
set_option maxHeartbeats 1000000 in
theorem heldlevel_ret {v : Value} {n : Nat} (w : World) (h : At w 1 v (marksS 1 n).length ((marksS 1 n).map Value.string)) (hm : n ≤ 1048576) :
    Calls Tryd.prog 16 #[.agg #[v], .int .i64 1] w fun e w' => e = .returned (.int .i64 (1 + n)) ∧ Below w.heap.size w w' := by
  have hb : ∀ o, Below w.heap.size w (w.alloc o) := fun o => (Below.refl _ _).alloc (Nat.le_refl _) _
  have h1 : ∀ o, At (w.alloc o) 1 v (marksS 1 n).length ((marksS 1 n).map Value.string) := fun o => h.below (hb o)
  obtain ⟨ao, cap, rfl, _⟩ := h.cellS
  have hml := Lib.hid (marksS_len 1 n)
  go_enter Tryd.func16, Tryd.ntmps16
  go_wp2_with fail
  refine (heldstrs2_ret _ (h1 _) hm).mono ?_
  rintro e wa ⟨rfl, ha⟩
  go_wp2_with fail
  go_ret
  exact ⟨rfl, (hb _).trans (ha.mono (by simp))⟩
/-- a marked world -/
def markW (X : Wd) : Wd := ⟨marksS 1 X.rows.length, X.tick, X.seed, marks (1 + X.rows.length) X.scores.length, marksB (1 + X.rows.length + X.scores.length) X.bodies.length⟩
def endW (X : Wd) : Int := 1 + X.rows.length + X.scores.length + 9 * X.bodies.length
end Go.Proofs.YtiopbdodegopdaaDoor
