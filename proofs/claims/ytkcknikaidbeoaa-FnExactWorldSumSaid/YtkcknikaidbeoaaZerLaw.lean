/- Runs of zeros: the plain functions. No program. -/
import Derived.Test.YtkcknikaidbeoaaVarLaw
namespace Go.Proofs.Ytkcknikaidbeoaa
open Go.RowKit

def isZ (c : UInt8) : Bool := c == 0
def notZ (c : UInt8) : Bool := !(c == 0)
def run (p : UInt8 → Bool) (L : List UInt8) : Nat := (L.takeWhile p).length
theorem run_le (p : UInt8 → Bool) (L : List UInt8) : run p L ≤ L.length := by unfold run; exact (List.takeWhile_sublist p).length_le
theorem run_more {p : UInt8 → Bool} : ∀ {L : List UInt8} {j : Nat} {c : UInt8}, j ≤ run p L → L[j]? = some c → p c = true → j + 1 ≤ run p L
  | [], j, c, _, h, _ => by simp at h
  | a :: r, 0, c, _, h, hp => by
    simp only [List.getElem?_cons_zero, Option.some.injEq] at h
    subst h
    unfold run
    rw [List.takeWhile_cons_of_pos hp]
    simp
  | a :: r, j + 1, c, hj, h, hp => by
    unfold run at hj ⊢
    by_cases ha : p a = true
    · rw [List.takeWhile_cons_of_pos ha, List.length_cons] at hj ⊢
      have := run_more (L := r) (j := j) (c := c) (by unfold run; omega) (by simpa using h) hp
      unfold run at this
      omega
    · rw [List.takeWhile_cons_of_neg ha] at hj
      simp at hj
theorem run_stop {p : UInt8 → Bool} : ∀ {L : List UInt8} {j : Nat}, j ≤ run p L → (∀ c, L[j]? = some c → p c = false) → j = run p L
  | [], j, hj, _ => by simp [run] at hj ⊢; exact hj
  | a :: r, 0, _, h => by
    have ha := h a rfl
    unfold run
    rw [List.takeWhile_cons_of_neg (by simp [ha])]
    rfl
  | a :: r, j + 1, hj, h => by
    unfold run at hj ⊢
    by_cases ha : p a = true
    · rw [List.takeWhile_cons_of_pos ha, List.length_cons] at hj ⊢
      have := run_stop (p := p) (L := r) (j := j) (by unfold run; omega) (fun c hc => h c (by simpa using hc))
      unfold run at this
      omega
    · rw [List.takeWhile_cons_of_neg ha] at hj
      simp at hj
theorem take_run (p : UInt8 → Bool) (L : List UInt8) : L.take (run p L) = L.takeWhile p := by
  unfold run
  induction L with
  | nil => rfl
  | cons a r ih =>
    by_cases ha : p a = true
    · rw [List.takeWhile_cons_of_pos ha, List.length_cons, List.take_succ_cons, ih]
    · rw [List.takeWhile_cons_of_neg ha]; rfl
/-- the zeros at the head, what is behind them, and what is behind that -/
def zs (L : List UInt8) : Nat := run isZ L
def os (L : List UInt8) : Nat := run notZ (L.drop (zs L))
def oth (L : List UInt8) : List UInt8 := (L.drop (zs L)).take (os L)
def rst (L : List UInt8) : List UInt8 := L.drop (zs L + os L)
theorem one_of (L : List UInt8) (h : L ≠ []) : 1 ≤ zs L + os L := by
  cases L with
  | nil => exact absurd rfl h
  | cons a r =>
    by_cases ha : isZ a = true
    · have : 0 + 1 ≤ zs (a :: r) := run_more (Nat.zero_le _) rfl ha
      omega
    · have h0 : (0 : Nat) = zs (a :: r) := run_stop (p := isZ) (Nat.zero_le _) (fun c hc => by simp at hc; subst hc; simpa using ha)
      have hn : notZ a = true := by simpa [notZ, isZ] using ha
      unfold os
      rw [← h0, List.drop_zero]
      have : 0 + 1 ≤ run notZ (a :: r) := run_more (Nat.zero_le _) rfl hn
      omega
theorem sum_le (L : List UInt8) : zs L + os L ≤ L.length := by
  have h1 := run_le isZ L
  have h2 := run_le notZ (L.drop (zs L))
  rw [List.length_drop] at h2
  unfold os zs at *
  omega
def pzF : Nat → List UInt8 → List UInt8
  | 0, _ => []
  | _ + 1, [] => []
  | f + 1, a :: r => encV (zs (a :: r) : Nat) ++ (encV (os (a :: r) : Nat) ++ oth (a :: r)) ++ pzF f (rst (a :: r))
def pz (L : List UInt8) : List UInt8 := pzF L.length L
theorem pzF_nil (f : Nat) : pzF f [] = [] := by cases f <;> rfl
theorem pzF_fuel : ∀ (f g : Nat) (L : List UInt8), L.length ≤ f → L.length ≤ g → pzF f L = pzF g L
  | f, g, [], _, _ => by rw [pzF_nil, pzF_nil]
  | 0, _, _ :: _, h, _ => by simp at h
  | _ + 1, 0, _ :: _, _, h => by simp at h
  | f + 1, g + 1, a :: r, hf, hg => by
    have h1 := one_of (a :: r) (by simp)
    have hl : (rst (a :: r)).length ≤ r.length := by
      unfold rst
      rw [List.length_drop, List.length_cons]
      omega
    simp only [pzF]
    rw [pzF_fuel f g (rst (a :: r)) (by simp only [List.length_cons] at hf; omega) (by simp only [List.length_cons] at hg; omega)]
theorem pz_nil : pz [] = [] := rfl
theorem pz_step {L : List UInt8} (h : L ≠ []) : pz L = encV (zs L : Nat) ++ (encV (os L : Nat) ++ oth L) ++ pz (rst L) := by
  cases L with
  | nil => exact absurd rfl h
  | cons a r =>
    have h1 := one_of (a :: r) h
    have hl : (rst (a :: r)).length ≤ r.length := by
      unfold rst
      rw [List.length_drop, List.length_cons]
      omega
    unfold pz
    rw [List.length_cons]
    simp only [pzF]
    rw [pzF_fuel r.length (rst (a :: r)).length (rst (a :: r)) hl (Nat.le_refl _)]
def packZ (s : ByteArray) : ByteArray := ⟨(pz s.data.toList).toArray⟩
end Go.Proofs.Ytkcknikaidbeoaa
