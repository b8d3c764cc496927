/- A body as an argument: nine whole numbers; its copy, its comparison. -/
import Derived.Test.YtkcknikaidbeoaaNum
import Derived.Test.YtkcknikaidbeoaaFrame
import Derived.Handy
namespace Go.Proofs.Ytkcknikaidbeoaa
open Go.RowKit

def bod (k0 k1 k2 k3 k4 k5 k6 k7 k8 : Int) : Value := .agg #[.int .i64 k0, .int .i64 k1, .int .i64 k2, .int .i64 k3, .int .i64 k4, .int .i64 k5, .int .i64 k6, .int .i64 k7, .int .i64 k8]
def Arg_body (_ : World) (v : Value) : Prop := ∃ k0 k1 k2 k3 k4 k5 k6 k7 k8 : Int, v = bod k0 k1 k2 k3 k4 k5 k6 k7 k8
theorem cell_int {P : Program} {w : World} {r : Reach} {base : Nat} {t : TypeId} {k : IntKind} {v : Value} (ht : P.underlying t = some (.int k)) (h : Cell.okWide P w r base t v) : ∃ n, v = .int k n := by
  simp only [ht, Cell.okWide] at h
  cases v <;> simp_all [Cell.ok]
set_option maxRecDepth 100000 in
theorem open_body {H : Type} {enc : TypeId × Value → H} {w W : World} {r : Reach} {base b0 : Nat} {sp : Nat → Bool} {held : Bool} {v : Value} {d : DataW H} {ps : List MemPlace} (hval : Value.okWide Try.prog w r base 54 v) (_ : DataW.Trod enc Try.prog W b0 sp held 54 v d ps) : Arg_body W v := by
  have hu : ∃ fs, Try.prog.underlying 54 = some (.struct fs) := ⟨_, Try.underlying54⟩
  obtain ⟨fs, hu⟩ := hu
  simp only [Value.okWide, hu] at hval
  obtain ⟨cs, rfl, hsz, ts, hts, _, hc⟩ := hval
  have e1 : Try.prog.cellTypes Try.prog.depth 54 = some (List.replicate 9 3) := by kernel_rfl
  have e2 : Try.prog.cellsOf 54 = 9 := by kernel_rfl
  rw [e1] at hts
  obtain rfl := Option.some.inj hts
  rw [e2] at hsz
  clear e1 e2 hu
  have key : ∀ i (h : i < 9), ∃ n, cs[i]? = some (.int .i64 n) := fun i h => by
    have hi : cs[i]? = some (cs[i]'(by omega)) := Array.getElem?_eq_getElem (by omega)
    obtain ⟨u, hu', hok⟩ := hc i _ hi
    have : u = 3 := by
      have hm := List.mem_of_getElem? hu'
      exact List.eq_of_mem_replicate hm
    subst this
    obtain ⟨n, hn⟩ := cell_int Try.underlying3 hok
    exact ⟨n, by rw [hi, hn]⟩
  obtain ⟨n0, h0⟩ := key 0 (by omega)
  obtain ⟨n1, h1⟩ := key 1 (by omega)
  obtain ⟨n2, h2⟩ := key 2 (by omega)
  obtain ⟨n3, h3⟩ := key 3 (by omega)
  obtain ⟨n4, h4⟩ := key 4 (by omega)
  obtain ⟨n5, h5⟩ := key 5 (by omega)
  obtain ⟨n6, h6⟩ := key 6 (by omega)
  obtain ⟨n7, h7⟩ := key 7 (by omega)
  obtain ⟨n8, h8⟩ := key 8 (by omega)
  refine ⟨n0, n1, n2, n3, n4, n5, n6, n7, n8, ?_⟩
  unfold bod
  congr 1
  apply Array.ext_getElem?
  intro i
  match i with
  | 0 => simpa using h0
  | 1 => simpa using h1
  | 2 => simpa using h2
  | 3 => simpa using h3
  | 4 => simpa using h4
  | 5 => simpa using h5
  | 6 => simpa using h6
  | 7 => simpa using h7
  | 8 => simpa using h8
  | i + 9 => rw [Array.getElem?_eq_none (by omega), Array.getElem?_eq_none (by simp)]

theorem tobody_ret (k0 k1 k2 k3 k4 k5 k6 k7 k8 : Int) (w : World) :
    Calls Try.prog 47 #[bod k0 k1 k2 k3 k4 k5 k6 k7 k8] w fun e w' => e = .returned (bod k0 k1 k2 k3 k4 k5 k6 k7 k8) ∧ Below w.heap.size w w' := by
  unfold bod
  go_enter Try.func47, Try.ntmps47
  go_wp2
  go_returns
  exact ⟨rfl, by repeat (first | exact Below.refl _ _ | refine Below.alloc ?_ (by simp <;> omega) _ | refine Below.setCell ?_ (by simp <;> omega) _)⟩
theorem eqbody_ret (k0 k1 k2 k3 k4 k5 k6 k7 k8 : Int) (w : World) :
    Calls Try.prog 51 #[bod k0 k1 k2 k3 k4 k5 k6 k7 k8, bod k0 k1 k2 k3 k4 k5 k6 k7 k8] w fun e w' => e = .returned (.bool true) ∧ Below w.heap.size w w' := by
  unfold bod
  go_enter Try.func51, Try.ntmps51
  go_wp2
  go_ret
  exact ⟨rfl, by repeat (first | exact Below.refl _ _ | refine Below.alloc ?_ (by simp <;> omega) _ | refine Below.setCell ?_ (by simp <;> omega) _)⟩
end Go.Proofs.Ytkcknikaidbeoaa
