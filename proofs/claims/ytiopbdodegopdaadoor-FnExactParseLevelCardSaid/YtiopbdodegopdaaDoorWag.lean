/- A world as an argument: its rows, its scores, its bodies read. -/
import Derived.Test.YtiopbdodegopdaaDoorWor
import Derived.Test.YtiopbdodegopdaaDoorLev
import Derived.Test.YtiopbdodegopdaaDoorBok
import Derived.Test.YtiopbdodegopdaaDoorArg
import Derived.Lib.SmallJoins
import Derived.Deep.Slices
import Derived.Deep.Fields
namespace Go.Proofs.YtiopbdodegopdaaDoor
open Go.RowKit Go.Joins Go.ChangeShapes Go.WideShapes Go.Deep

section
variable {H : Type} {enc : TypeId × Value → H} {P : Program} {w : World} {base : Nat} {spare : Nat → Bool} {held : Bool}
theorem agg5 {w2 : World} {r : Reach} {b0 : Nat} {t : TypeId} {f0 f1 f2 f3 f4 : Field} {v : Value} {d : DataW H} {p : List MemPlace} (hs : P.underlying t = some (.struct #[f0, f1, f2, f3, f4])) (hone : oneCellFields P #[f0, f1, f2, f3, f4] = true) (hC : P.cellsOf t = 5)
    (hv : Value.okWide P w2 r b0 t v) (h : DataW.Trod enc P w base spare held t v d p) :
    ∃ (v0 v1 v2 v3 v4 : Value) (y0 y1 y2 y3 y4 : DataW H × List MemPlace) (n : Nat), v = .agg #[v0, v1, v2, v3, v4] ∧
      DataW.trod enc P w base spare held n f0.type [v0] = some y0 ∧ DataW.trod enc P w base spare held n f1.type [v1] = some y1 ∧ DataW.trod enc P w base spare held n f2.type [v2] = some y2 ∧ DataW.trod enc P w base spare held n f3.type [v3] = some y3 ∧ DataW.trod enc P w base spare held n f4.type [v4] = some y4 := by
  obtain ⟨cs, rfl, hsz⟩ := okWide_struct hs hv
  obtain ⟨l⟩ := cs
  match l, hsz.trans hC with
  | [c0, c1, c2, c3, c4], _ =>
    obtain ⟨fuel, hf⟩ := h
    obtain ⟨xs, n, _, hx, _, hlen, hg⟩ := DataW.trod_struct hs hf
    obtain ⟨o0, k0⟩ := hone_of hone 0 f0 rfl
    obtain ⟨o1, k1⟩ := hone_of hone 1 f1 rfl
    obtain ⟨o2, k2⟩ := hone_of hone 2 f2 rfl
    obtain ⟨o3, k3⟩ := hone_of hone 3 f3 rfl
    obtain ⟨o4, k4⟩ := hone_of hone 4 f4 rfl
    match xs, hlen with
    | [y0, y1, y2, y3, y4], _ =>
      exact ⟨c0, c1, c2, c3, c4, y0, y1, y2, y3, y4, n, rfl, by simpa [Value.cells, o0, k0] using hg 0 f0 rfl, by simpa [Value.cells, o1, k1] using hg 1 f1 rfl, by simpa [Value.cells, o2, k2] using hg 2 f2 rfl, by simpa [Value.cells, o3, k3] using hg 3 f3 rfl, by simpa [Value.cells, o4, k4] using hg 4 f4 rfl⟩
theorem trod_isslice {t e : TypeId} {fuel : Nat} {v : Value} {x : DataW H × List MemPlace} (ht : P.underlying t = some (.slice e)) (h : DataW.trod enc P w base spare held fuel t [v] = some x) : ∃ a len cap, v = .slice a len cap := by
  rcases open_slice ht h with ⟨h0, _⟩ | ⟨a, len, cap, m, n, D, Pl, hcs, _⟩
  · simp at h0; exact ⟨_, _, _, h0⟩
  · simp at hcs; exact ⟨_, _, _, hcs⟩
theorem trod_isint {t : TypeId} {k : IntKind} {fuel : Nat} {v : Value} {x : DataW H × List MemPlace} (ht : P.underlying t = some (.int k)) (h : DataW.trod enc P w base spare held fuel t [v] = some x) : ∃ n, v = .int k n ∧ (Lit.int k n).wf = true := by
  obtain ⟨n, hn, _, hw⟩ := DataW.trod_int ht h
  simp at hn
  exact ⟨n, hn, hw⟩
/-- a slice of structs of nine whole numbers -/
theorem open_bodS {W : World} {b0 : Nat} {t e T : TypeId} {fs : Array Field} {fuel : Nat} {a : Option Addr} {len cap : Nat} {x : DataW H × List MemPlace} (ht : P.underlying t = some (.slice e)) (he : P.underlying e = some (.struct fs))
    (hone : oneCellFields P fs = true) (hC : P.cellsOf e = fs.size) (h9 : fs.size = 9) (hT : (fs.toList.all fun f => f.type == T) = true) (hi : P.underlying T = some (.int .i64))
    (h : DataW.trod enc P W b0 (fun _ => true) true fuel t [.slice a len cap] = some x) : ∃ l : List Bd, l.length = len ∧ At W 9 (.slice a len cap) l.length (cellsB l) ∧ ∀ b ∈ l, BWf b := by
  rcases open_slice ht h with ⟨h0, _⟩ | ⟨a', len', cap', m, n, D, Pl, hcs, _, hlc, hcm, hmm, _, hel⟩
  · simp at h0
    obtain ⟨rfl, rfl, rfl⟩ := h0
    exact ⟨[], rfl, ⟨rfl, none, 0, rfl, Nat.le_refl _, Nat.zero_le _, fun h => absurd h (Nat.lt_irrefl _)⟩, fun n h => by simp at h⟩
  · simp at hcs
    obtain ⟨rfl, rfl, rfl⟩ := hcs
    simp only [if_true] at hmm
    subst hmm
    rw [hC, h9] at hel
    have each : ∀ i, ∃ b : Bd, i < m → BWf b ∧ ∀ j, j < 9 → W.cell? (a'.add (i * 9 + j)) = b.cells[j]? := by
      intro i
      by_cases him : i < m
      · obtain ⟨cs', hc, ht'⟩ := hel i him
        obtain ⟨ys, n', hn', hy, hlen, hyl, hf⟩ := DataW.trod_struct he ht'
        obtain ⟨_, hcl, hat⟩ := World.cells?_some hc
        have key : ∀ j, j < 9 → ∃ z, cs'[j]? = some (.int .i64 z) ∧ (Lit.int .i64 z).wf = true := by
          intro j hj
          have hfj : fs[j]? = some (fs[j]'(by omega)) := Array.getElem?_eq_getElem (by omega)
          obtain ⟨ho, hk⟩ := hone_of hone j _ hfj
          have h1 := hf j _ hfj
          rw [ho, hk] at h1
          have hone' : (cs'.drop j).take 1 = [cs'[j]'(by omega)] := by
            rw [List.drop_eq_getElem_cons (by omega)]
            rfl
          have htj : (fs[j]'(by omega)).type = T := by
            have := List.all_eq_true.1 hT (fs[j]'(by omega)) (by simp)
            simpa using this
          rw [hone', htj] at h1
          have hys : ys[j]? = some (ys[j]'(by omega)) := List.getElem?_eq_getElem (by omega)
          obtain ⟨z, hz, hw⟩ := trod_isint hi (h1.trans hys)
          exact ⟨z, by rw [List.getElem?_eq_getElem (by omega), hz], hw⟩
        obtain ⟨n0, h0, f0⟩ := key 0 (by omega)
        obtain ⟨n1, h1, f1⟩ := key 1 (by omega)
        obtain ⟨n2, h2, f2⟩ := key 2 (by omega)
        obtain ⟨n3, h3, f3⟩ := key 3 (by omega)
        obtain ⟨n4, h4, f4⟩ := key 4 (by omega)
        obtain ⟨n5, h5, f5⟩ := key 5 (by omega)
        obtain ⟨n6, h6, f6⟩ := key 6 (by omega)
        obtain ⟨n7, h7, f7⟩ := key 7 (by omega)
        obtain ⟨n8, h8, f8⟩ := key 8 (by omega)
        refine ⟨⟨n0, n1, n2, n3, n4, n5, n6, n7, n8⟩, fun _ => ⟨⟨Go.bounds_i64 f2, Go.bounds_i64 f3⟩, fun j hj => ?_⟩⟩
        have hj9 : j < 9 := hj
        rw [← Go.Deep.add_add, hat j (by omega)]
        match j, hj with
        | 0, _ => exact h0
        | 1, _ => exact h1
        | 2, _ => exact h2
        | 3, _ => exact h3
        | 4, _ => exact h4
        | 5, _ => exact h5
        | 6, _ => exact h6
        | 7, _ => exact h7
        | 8, _ => exact h8
      · exact ⟨zB, fun h => absurd h him⟩
    obtain ⟨f, hf⟩ := Classical.axiomOfChoice each
    have hl : ((List.range len).map f).length = len := by simp
    refine ⟨(List.range len).map f, hl, ⟨by rw [cellsB_len], some a', m, by rw [hl], by omega, hcm, fun h0 => ?_⟩, fun b hb => ?_⟩
    · have c0 := (hf 0 h0).2 0 (by omega)
      have hspot : a'.spot = none := World.cell?_spot (a := a') (by simpa [Addr.add, Bd.cells] using c0)
      obtain ⟨g, off, spot⟩ := a'
      simp only at hspot
      subst hspot
      have ea : ∀ j, (⟨g, off, none⟩ : Addr).add j = ⟨g, off + j, none⟩ := fun j => by unfold Addr.add; split <;> simp_all
      refine ⟨g, off, rfl, World.block_lt_of_cell? W ⟨g, off, none⟩ (u := .int .i64 (f 0).kind) (by simpa [Addr.add, Bd.cells] using c0), fun j hj => ?_⟩
      rw [hl] at hj
      have hk : j / 9 < ((List.range len).map f).length := by rw [hl]; omega
      have e : j = j / 9 * 9 + j % 9 := by omega
      have c := (hf (j / 9) (by omega)).2 (j % 9) (by omega)
      rw [ea] at c
      have c2 := cellsB_at hk (j := j % 9) (by omega)
      rw [← e] at c c2
      rw [c, c2]
      simp
    · obtain ⟨i, hi, rfl⟩ := List.mem_map.1 hb
      exact (hf i (by have := List.mem_range.1 hi; omega)).1
end
theorem open_numT {P : Program} {t e : TypeId} {k : IntKind} {H : Type} {enc : TypeId × Value → H} {W : World} {b0 : Nat} {fuel : Nat} {a : Option Addr} {len cap : Nat} {x : DataW H × List MemPlace}
    (ht : P.underlying t = some (.slice e)) (he : P.underlying e = some (.int k)) (hc : P.cellsOf e = 1) (hf : DataW.trod enc P W b0 (fun _ => true) true fuel t [.slice a len cap] = some x) : ArgNum k W (.slice a len cap) := by
  rcases Go.ChangeShapes.open_ints ht he hc hf with ⟨h1, _⟩ | ⟨a', len', cap', zs, h1, _, hlc, hcm, hzl, _, hcell, hwf⟩
  · simp at h1
    obtain ⟨rfl, rfl, rfl⟩ := h1
    exact ⟨[], ⟨rfl, none, 0, rfl, Nat.le_refl _, Nat.zero_le _, fun h => absurd h (Nat.lt_irrefl _)⟩, fun n h => by simp at h⟩
  · simp at h1
    obtain ⟨rfl, rfl, rfl⟩ := h1
    simp only [if_true] at hzl
    have hl : (zs.take len).length = len := by rw [List.length_take]; omega
    refine ⟨zs.take len, ⟨by rw [List.length_map, Nat.mul_one], some a', cap, by rw [hl], by omega, hcm, fun h0 => ?_⟩, fun n hn => hwf n (List.mem_of_mem_take hn)⟩
    have c0 := hcell 0 (by omega)
    have hspot : a'.spot = none := World.cell?_spot (a := a') (by simpa [Addr.add] using c0)
    obtain ⟨g, off, spot⟩ := a'
    simp only at hspot
    subst hspot
    refine ⟨g, off, rfl, World.block_lt_of_cell? W ⟨g, off, none⟩ (u := Value.int k (zs.getD 0 0)) (by simpa [Addr.add] using c0), fun j hj => ?_⟩
    have hj' : j < len := by rw [hl] at hj; omega
    have cj := hcell j (by omega)
    have ea : (⟨g, off, none⟩ : Addr).add j = ⟨g, off + j, none⟩ := by unfold Addr.add; split <;> simp_all
    rw [ea] at cj
    rw [cj, List.getElem?_map, List.getElem?_take, if_pos hj', List.getElem?_eq_getElem (by omega)]
    simp [List.getD, List.getElem?_eq_getElem (show j < zs.length by omega)]
structure WWf (X : Wd) : Prop where
  r : ∀ s ∈ X.rows, s.size ≤ maxLen
  b : ∀ b ∈ X.bodies, BWf b
  t : -9223372036854775808 ≤ X.tick ∧ X.tick ≤ 9223372036854775807
  s : -9223372036854775808 ≤ X.seed ∧ X.seed ≤ 9223372036854775807
  sc : ∀ n ∈ X.scores, (Lit.int .i64 n).wf = true
def Arg_world (w : World) (v : Value) : Prop := ∃ u us ub X, v = wV u X.tick X.seed us ub ∧ WAt w u us ub X ∧ WWf X
end Go.Proofs.YtiopbdodegopdaaDoor
