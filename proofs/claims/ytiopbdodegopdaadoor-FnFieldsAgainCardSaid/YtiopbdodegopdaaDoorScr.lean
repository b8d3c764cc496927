/- ScriptInput: the program's and the reference's return the same plain function; how a readable slice is carried along. -/
import Derived.Test.YtiopbdodegopdaaDoorInts
namespace Go.Proofs.YtiopbdodegopdaaDoor
open Go.RowKit

theorem At.below {w w' : World} {sz : Nat} {v : Value} {n : Nat} {cs : List Value} (h : At w sz v n cs) (hb : Below w.heap.size w w') : At w' sz v n cs := by
  obtain ⟨hl, ao, cap, rfl, hn, hm, hc⟩ := h
  refine ⟨hl, ao, cap, rfl, hn, hm, fun h0 => ?_⟩
  obtain ⟨g, off, rfl, hg, hc⟩ := hc h0
  exact ⟨g, off, rfl, Nat.lt_of_lt_of_le hg hb.size, fun j hj => (hb.cell hg).trans (hc j hj)⟩
theorem below_drewN {B : Nat} {a w : World} (h : Below B a w) (k : Nat) : Below B a (w.drewN k) := ⟨h.os, h.tape, h.output, h.size, h.block⟩
def scrOk (l : List Int) : Bool := decide (1 ≤ l.length) && okT l
theorem scrT_bad {l : List Int} {d t : Int} (h : scrOk l = false ∨ inB d 0 5 = false ∨ t < 0) : scrT l d t = -1 := by
  unfold scrT
  refine if_neg fun ⟨h1, h2, h3, h4, h5⟩ => ?_
  rcases h with h | h | h
  · unfold scrOk at h
    rw [decide_eq_true h1, h2] at h
    cases h
  · rw [inB_yes h3 h4] at h
    cases h
  · omega
theorem scrOk_len {l : List Int} (h : scrOk l = true) : 1 ≤ l.length ∧ l.length ≤ 400 ∧ okIn l = true := by
  unfold scrOk okT at h
  simp only [Bool.and_eq_true, decide_eq_true_eq] at h
  exact ⟨h.1, h.2.1, h.2.2⟩
theorem scrT_ok {l : List Int} {d t : Int} (h : scrOk l = true) (hd : inB d 0 5 = true) (ht : 0 ≤ t) : scrT l d t = if t < d then 0 else l.getD ((t - d) % (l.length : Int)).toNat 0 := by
  have h' := h
  unfold scrOk at h'
  simp only [Bool.and_eq_true, decide_eq_true_eq] at h'
  obtain ⟨h3, h4⟩ := inB_iff.1 hd
  unfold scrT
  exact if_pos ⟨h'.1, h'.2, h3, h4, ht⟩
theorem scrOk_of {l : List Int} (h1 : 1 ≤ l.length) (h2 : l.length ≤ 400) (h3 : okIn l = true) : scrOk l = true := by
  unfold scrOk okT
  rw [decide_eq_true h1, decide_eq_true h2, h3]
  rfl
theorem scrOk_no {l : List Int} (h : inB (l.length : Int) 1 400 = false ∨ okIn l = false) : scrOk l = false := by
  cases hs : scrOk l
  · rfl
  · obtain ⟨h1, h2, h3⟩ := scrOk_len hs
    rcases h with h | h
    · rw [inB_yes (by omega) (by omega)] at h; cases h
    · rw [h3] at h; cases h
end Go.Proofs.YtiopbdodegopdaaDoor
