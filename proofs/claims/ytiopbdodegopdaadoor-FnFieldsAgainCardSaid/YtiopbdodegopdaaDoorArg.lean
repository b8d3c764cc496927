/- Arguments that are slices of whole numbers: what is known of them at the start of a law. -/
import Derived.Test.YtiopbdodegopdaaDoorOwn
import Derived.Test.YtiopbdodegopdaaDoorFrame
namespace Go.Proofs.YtiopbdodegopdaaDoor
open Go.RowKit Go.WideShapes Go.ChangeShapes

/-- The value v is a slice whose cells read the numbers l. -/
def ArgNum (k : IntKind) (w : World) (v : Value) : Prop := ∃ l : List Int, At w 1 v l.length (l.map (Value.int k)) ∧ ∀ n ∈ l, (Lit.int k n).wf = true
theorem open_num {P : Program} {t e : TypeId} {k : IntKind} {H : Type} {enc : TypeId × Value → H} {w W : World} {r : Reach} {base b0 : Nat} {v : Value} {d : DataW H} {ps : List MemPlace}
    (ht : P.underlying t = some (.slice e)) (he : P.underlying e = some (.int k)) (hc : P.cellsOf e = 1) (hval : Value.okWide P w r base t v) (hd : DataW.Trod enc P W b0 (fun _ => true) true t v d ps) : ArgNum k W v := by
  obtain ⟨a, len, cap, rfl⟩ := okWide_slice ht hval
  obtain ⟨fuel, hf⟩ := hd
  rcases Go.ChangeShapes.open_ints ht he hc hf with ⟨h1, _⟩ | ⟨a', len', cap', zs, h1, _, hlc, hcm, hzl, _, hcell, hwf⟩
  · simp [Value.cells] at h1
    obtain ⟨rfl, rfl, rfl⟩ := h1
    exact ⟨[], ⟨rfl, none, 0, rfl, Nat.le_refl _, Nat.zero_le _, fun h => absurd h (Nat.lt_irrefl _)⟩, fun n h => by simp at h⟩
  · simp [Value.cells] at h1
    obtain ⟨rfl, rfl, rfl⟩ := h1
    simp only [if_true] at hzl
    have hl : (zs.take len).length = len := by rw [List.length_take]; omega
    refine ⟨zs.take len, ⟨by rw [List.length_map, Nat.mul_one], some a', cap, by rw [hl], by omega, hcm, fun h0 => ?_⟩, fun n hn => hwf n (List.mem_of_mem_take hn)⟩
    have c0 := hcell 0 (by omega)
    have hspot : a'.spot = none := World.cell?_spot (a := a') (by simpa [Addr.add] using c0)
    obtain ⟨g, off, spot⟩ := a'
    simp only at hspot
    subst hspot
    refine ⟨g, off, rfl, World.block_lt_of_cell? W ⟨g, off, none⟩ (u := Value.int k (zs.getD 0 0)) (by simpa [Addr.add] using c0), fun j hj => ?_⟩
    have hj' : j < len := by rw [hl] at hj; omega
    have cj := hcell j (by omega)
    have ea : (⟨g, off, none⟩ : Addr).add j = ⟨g, off + j, none⟩ := by unfold Addr.add; split <;> simp_all
    rw [ea] at cj
    rw [cj, List.getElem?_map, List.getElem?_take, if_pos hj', List.getElem?_eq_getElem (by omega)]
    simp [List.getD, List.getElem?_eq_getElem (show j < zs.length by omega)]
def Arg_ints (w : World) (v : Value) : Prop := ArgNum .i64 w v
def Arg_u8s (w : World) (v : Value) : Prop := ArgNum .u8 w v
set_option maxRecDepth 100000 in
theorem open_u8s {H : Type} {enc : TypeId × Value → H} {w W : World} {r : Reach} {base b0 : Nat} {v : Value} {d : DataW H} {ps : List MemPlace} (hval : Value.okWide Tryd.prog w r base 22 v) (hd : DataW.Trod enc Tryd.prog W b0 (fun _ => true) true 22 v d ps) : Arg_u8s W v :=
  open_num Tryd.underlying22 Tryd.underlying5 (by kernel_rfl) hval hd
set_option maxRecDepth 100000 in
theorem open_ints {H : Type} {enc : TypeId × Value → H} {w W : World} {r : Reach} {base b0 : Nat} {v : Value} {d : DataW H} {ps : List MemPlace} (hval : Value.okWide Tryd.prog w r base 37 v) (hd : DataW.Trod enc Tryd.prog W b0 (fun _ => true) true 37 v d ps) : Arg_ints W v :=
  open_num Tryd.underlying37 Tryd.underlying3 (by kernel_rfl) hval hd
end Go.Proofs.YtiopbdodegopdaaDoor
