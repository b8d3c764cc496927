/- A level as an argument: one slice of strings; its copy, its measure, its comparison. -/
import Derived.Test.YtiopbdodegopdaaDoorStr
import Derived.Handy
import Derived.ChangeSame
import Derived.SliceStrings
namespace Go.Proofs.YtiopbdodegopdaaDoor
open Go.RowKit Go.ChangeShapes Go.WideShapes

def ArgStr (w : World) (v : Value) : Prop := ∃ l : List ByteArray, At w 1 v l.length (l.map Value.string) ∧ ∀ s ∈ l, s.size ≤ maxLen
theorem open_strS {P : Program} {t e : TypeId} {H : Type} {enc : TypeId × Value → H} {W : World} {b0 : Nat} {a : Option Addr} {len cap : Nat} {d : DataW H} {ps : List MemPlace}
    (ht : P.underlying t = some (.slice e)) (he : P.underlying e = some .string) (hc : P.cellsOf e = 1) (hd : DataW.Trod enc P W b0 (fun _ => true) true t (.slice a len cap) d ps) : ArgStr W (.slice a len cap) := by
  obtain ⟨fuel, hf⟩ := hd
  rcases open_strings ht he hc hf with ⟨h1, _⟩ | ⟨a', len', cap', zs, h1, _, hlc, hcm, hzl, _, hcell, hwf⟩
  · simp [Value.cells] at h1
    obtain ⟨rfl, rfl, rfl⟩ := h1
    exact ⟨[], ⟨rfl, none, 0, rfl, Nat.le_refl _, Nat.zero_le _, fun h => absurd h (Nat.lt_irrefl _)⟩, fun n h => by simp at h⟩
  · simp [Value.cells] at h1
    obtain ⟨rfl, rfl, rfl⟩ := h1
    simp only [if_true] at hzl
    have hl : (zs.take len).length = len := by rw [List.length_take]; omega
    refine ⟨zs.take len, ⟨by rw [List.length_map, Nat.mul_one], some a', cap, by rw [hl], by omega, hcm, fun h0 => ?_⟩, fun n hn => hwf n (List.mem_of_mem_take hn)⟩
    have c0 := hcell 0 (by omega)
    have hspot : a'.spot = none := World.cell?_spot (a := a') (by simpa [Addr.add] using c0)
    obtain ⟨g, off, spot⟩ := a'
    simp only at hspot
    subst hspot
    refine ⟨g, off, rfl, World.block_lt_of_cell? W ⟨g, off, none⟩ (u := Value.string (zs.getD 0 ByteArray.empty)) (by simpa [Addr.add] using c0), fun j hj => ?_⟩
    have hj' : j < len := by rw [hl] at hj; omega
    have cj := hcell j (by omega)
    have ea : (⟨g, off, none⟩ : Addr).add j = ⟨g, off + j, none⟩ := by unfold Addr.add; split <;> simp_all
    rw [ea] at cj
    rw [cj, List.getElem?_map, List.getElem?_take, if_pos hj', List.getElem?_eq_getElem (by omega)]
    simp [List.getD, List.getElem?_eq_getElem (show j < zs.length by omega)]
def Arg_level (w : World) (v : Value) : Prop := ∃ u, v = .agg #[u] ∧ ArgStr w u
theorem cell_slice {P : Program} {w : World} {r : Reach} {base : Nat} {t e : TypeId} {v : Value} (ht : P.underlying t = some (.slice e)) (h : Cell.okWide P w r base t v) : ∃ a len cap, v = .slice a len cap := by
  simp only [ht, Cell.okWide] at h
  cases v <;> simp_all [Cell.ok]
theorem Own.slice_ {w : World} {base sz : Nat} {v : Value} {n : Nat} {cs : List Value} (h : Own w base sz v n cs) : ∃ ao cap, v = .slice ao n cap := by
  rcases h.val with ⟨rfl, rfl⟩ | ⟨g, cap, rfl, _⟩
  · exact ⟨_, _, rfl⟩
  · exact ⟨_, _, rfl⟩
section
variable {ops : Array Oper} {rest : List Oper} {o : Oper} {a : Act} {Q : Exit → Act → World → Prop}
/-- 'make([]string, n)' -/
theorem make_str (w : World) (hgd : o.guard = none) (l c : Operand) (ho : o.op = Op.makeSlice 25 l c) (base n : Nat) (hl : a.eval l = .int .i64 (n : Int)) (hc : a.eval c = .int .i64 (n : Int)) (hn : n ≤ 1099511627776) (hbase : base ≤ w.heap.size)
    (hK : ∀ w', Own w' base 1 (.slice (some ⟨w.heap.size, 0, none⟩) n n) n ((List.replicate n (⟨#[]⟩ : ByteArray)).map Value.string) → w.grownBy w' none → wpList Tryd.prog ops Q rest (a.put o.dst (.slice (some ⟨w.heap.size, 0, none⟩) n n)) w') :
    wpList Tryd.prog ops Q (o :: rest) a w := by
  obtain ⟨i0, hi, hz0, hz1, hz2⟩ := info_parts info_str
  exact wpList_make_row (P := Tryd.prog) w hgd l c 25 ho 9 i0 (.string ⟨#[]⟩) Tryd.underlying25 hi hz0 hz1 rfl .i64 .i64 n hl hc (by rw [hz2]; omega) (by omega)
    (hK _ (Own.lit 9 ((toList_madeCells_one _ n).trans (by rw [List.map_replicate])) (by simp) hbase (by unfold maxLen; omega)) (World.grownBy_alloc w _ _))
end
def setS (l : List ByteArray) (k : Nat) : List ByteArray := l.take k ++ List.replicate (l.length - k) ⟨#[]⟩
theorem setS_len {l : List ByteArray} {k : Nat} (h : k ≤ l.length) : (setS l k).length = l.length := by unfold setS; rw [List.length_append, List.length_take, List.length_replicate]; omega
theorem setS_0 (l : List ByteArray) : setS l 0 = List.replicate l.length ⟨#[]⟩ := by simp [setS]
theorem setS_end (l : List ByteArray) : setS l l.length = l := by simp [setS]
theorem setS_at {l : List ByteArray} {k : Nat} (h : k < l.length) : (setS l k)[k]? = some ⟨#[]⟩ := by
  unfold setS
  rw [List.getElem?_append_right (by rw [List.length_take]; omega), List.getElem?_replicate, List.length_take, if_pos (by omega)]
theorem setS_succ {l : List ByteArray} {k : Nat} (h : k < l.length) : setS l (k + 1) = (setS l k).set k (l[k]'h) := by
  apply List.ext_getElem?
  intro j
  by_cases e : j = k
  · subst e
    rw [List.getElem?_set_self (by rw [setS_len (by omega)]; exact h)]
    unfold setS
    rw [List.getElem?_append_left (by rw [List.length_take]; omega), List.getElem?_take, if_pos (by omega), List.getElem?_eq_getElem h]
  · rw [List.getElem?_set_ne (Ne.symm e)]
    unfold setS
    by_cases hj : j < k
    · rw [List.getElem?_append_left (by rw [List.length_take]; omega), List.getElem?_append_left (by rw [List.length_take]; omega), List.getElem?_take, List.getElem?_take, if_pos (by omega), if_pos (by omega)]
    · rw [List.getElem?_append_right (by rw [List.length_take]; omega), List.getElem?_append_right (by rw [List.length_take]; omega), List.getElem?_replicate, List.getElem?_replicate, List.length_take, List.length_take]
      by_cases h2 : j < l.length
      · rw [if_pos (by omega), if_pos (by omega)]
      · rw [if_neg (by omega), if_neg (by omega)]
/-- what szStringS leaves of a measure -/
def szGo : List ByteArray → Int → Int
  | [], n => n
  | s :: r, n => if n - (s.size : Int) < 0 then -1 else szGo r (n - s.size)
def szS (l : List ByteArray) (n : Int) : Int := if n - (l.length : Int) < 0 then -1 else szGo l (n - l.length)
theorem szGo_bd : ∀ (l : List ByteArray) (n : Int), 0 ≤ n → szGo l n = -1 ∨ (0 ≤ szGo l n ∧ szGo l n ≤ n ∧ ∀ s ∈ l, (s.size : Int) ≤ n)
  | [], n, h => .inr ⟨h, Int.le_refl _, fun s hs => by simp at hs⟩
  | s :: r, n, h => by
    simp only [szGo]
    by_cases h1 : n - (s.size : Int) < 0
    · rw [if_pos h1]; exact .inl rfl
    · rw [if_neg h1]
      rcases szGo_bd r (n - s.size) (by omega) with h2 | ⟨h2, h3, h4⟩
      · exact .inl h2
      · refine .inr ⟨h2, by omega, fun x hx => ?_⟩
        rcases List.mem_cons.1 hx with rfl | hx
        · omega
        · have := h4 x hx; omega
theorem szS_bd (l : List ByteArray) (n : Int) (_h : 0 ≤ n) : szS l n = -1 ∨ (0 ≤ szS l n ∧ szS l n ≤ n ∧ (l.length : Int) ≤ n ∧ ∀ s ∈ l, (s.size : Int) ≤ n) := by
  unfold szS
  by_cases h1 : n - (l.length : Int) < 0
  · rw [if_pos h1]; exact .inl rfl
  · rw [if_neg h1]
    rcases szGo_bd l (n - l.length) (by omega) with h2 | ⟨h2, h3, h4⟩
    · exact .inl h2
    · exact .inr ⟨h2, by omega, by omega, fun s hs => by have := h4 s hs; omega⟩
theorem szGo_no {l : List ByteArray} {k : Nat} {n : Int} (h : k < l.length) (h1 : n - ((l[k]'h).size : Int) < 0) : szGo (l.drop k) n = -1 := by
  rw [List.drop_eq_getElem_cons h]; simp only [szGo]; rw [if_pos h1]
theorem szGo_more {l : List ByteArray} {k : Nat} {n : Int} (h : k < l.length) (h1 : ¬ n - ((l[k]'h).size : Int) < 0) : szGo (l.drop k) n = szGo (l.drop (k + 1)) (n - (l[k]'h).size) := by
  rw [List.drop_eq_getElem_cons h]; simp only [szGo]; rw [if_neg h1]
theorem eqlevel_ret {u v : Value} {l : List ByteArray} (w : World) (hu : At w 1 u l.length (l.map (Value.string))) (hv : At w 1 v l.length (l.map (Value.string))) (hm : l.length ≤ 1099511627776) :
    Calls Tryd.prog 14 #[.agg #[u], .agg #[v]] w fun e w' => e = .returned (.bool true) ∧ Below w.heap.size w w' := by
  have hu' := hu
  have hv' := hv
  obtain ⟨ao, cap, rfl, hc⟩ := hu.cellS
  obtain ⟨bo, cap2, rfl, hc2⟩ := hv.cellS
  clear hc hc2 hu hv
  have hb : ∀ (A B : Obj), Below w.heap.size w ((w.alloc A).alloc B) := fun A B => ((Below.refl _ _).alloc (Nat.le_refl _) _).alloc (by simp) _
  go_enter Tryd.func14, Tryd.ntmps14
  go_wp2_with fail
  refine (eqstrs_ret _ (hu'.below (hb _ _)) (hv'.below (hb _ _)) hm).mono ?_
  rintro e w1 ⟨rfl, k, rfl⟩
  go_wp2_with fail
  go_ret
  exact ⟨rfl, below_drewN (hb _ _) k⟩
end Go.Proofs.YtiopbdodegopdaaDoor
