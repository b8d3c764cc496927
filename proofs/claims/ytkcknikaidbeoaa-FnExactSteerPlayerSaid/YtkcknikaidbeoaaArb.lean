/- A body as an argument: its fields are whole numbers of 64 bits. -/
import Derived.Test.YtkcknikaidbeoaaBok
namespace Go.Proofs.Ytkcknikaidbeoaa
open Go.RowKit
def Arg_bodyW (_ : World) (v : Value) : Prop := ∃ b : Bd, v = b.val ∧ BWf b
theorem cell_intW {P : Program} {w : World} {r : Reach} {base : Nat} {t : TypeId} {k : IntKind} {v : Value} (ht : P.underlying t = some (.int k)) (h : Cell.okWide P w r base t v) : ∃ n, v = .int k n ∧ (Lit.int k n).wf = true := by
  simp only [ht, Cell.okWide] at h
  cases v <;> simp_all [Cell.ok, Lit.wf, IntKind.has]
set_option maxRecDepth 100000 in
theorem open_bodyW {H : Type} {enc : TypeId × Value → H} {w W : World} {r : Reach} {base b0 : Nat} {sp : Nat → Bool} {held : Bool} {v : Value} {d : DataW H} {ps : List MemPlace} (hval : Value.okWide Try.prog w r base 54 v) (_ : DataW.Trod enc Try.prog W b0 sp held 54 v d ps) : Arg_bodyW W v := by
  have hu : ∃ fs, Try.prog.underlying 54 = some (.struct fs) := ⟨_, Try.underlying54⟩
  obtain ⟨fs, hu⟩ := hu
  simp only [Value.okWide, hu] at hval
  obtain ⟨cs, rfl, hsz, ts, hts, _, hc⟩ := hval
  have e1 : Try.prog.cellTypes Try.prog.depth 54 = some (List.replicate 9 3) := by kernel_rfl
  have e2 : Try.prog.cellsOf 54 = 9 := by kernel_rfl
  rw [e1] at hts
  obtain rfl := Option.some.inj hts
  rw [e2] at hsz
  clear e1 e2 hu
  have key : ∀ i (h : i < 9), ∃ n, cs[i]? = some (.int .i64 n) ∧ (Lit.int .i64 n).wf = true := fun i h => by
    have hi : cs[i]? = some (cs[i]'(by omega)) := Array.getElem?_eq_getElem (by omega)
    obtain ⟨u, hu', hok⟩ := hc i _ hi
    have : u = 3 := by
      have hm := List.mem_of_getElem? hu'
      exact List.eq_of_mem_replicate hm
    subst this
    obtain ⟨n, hn, hwf⟩ := cell_intW Try.underlying3 hok
    exact ⟨n, by rw [hi, hn], hwf⟩
  obtain ⟨n0, h0, f0⟩ := key 0 (by omega)
  obtain ⟨n1, h1, f1⟩ := key 1 (by omega)
  obtain ⟨n2, h2, f2⟩ := key 2 (by omega)
  obtain ⟨n3, h3, f3⟩ := key 3 (by omega)
  obtain ⟨n4, h4, f4⟩ := key 4 (by omega)
  obtain ⟨n5, h5, f5⟩ := key 5 (by omega)
  obtain ⟨n6, h6, f6⟩ := key 6 (by omega)
  obtain ⟨n7, h7, f7⟩ := key 7 (by omega)
  obtain ⟨n8, h8, f8⟩ := key 8 (by omega)
  refine ⟨⟨n0, n1, n2, n3, n4, n5, n6, n7, n8⟩, ?_, ⟨Go.bounds_i64 f2, Go.bounds_i64 f3⟩⟩
  unfold Bd.val bod
  congr 1
  apply Array.ext_getElem?
  intro i
  match i with
  | 0 => simpa using h0
  | 1 => simpa using h1
  | 2 => simpa using h2
  | 3 => simpa using h3
  | 4 => simpa using h4
  | 5 => simpa using h5
  | 6 => simpa using h6
  | 7 => simpa using h7
  | 8 => simpa using h8
  | i + 9 => rw [Array.getElem?_eq_none (by omega), Array.getElem?_eq_none (by simp)]

end Go.Proofs.Ytkcknikaidbeoaa
