/- Plain laws of decimal numerals. No program. -/
import Derived.Test.YtegfbgjilgaijaaOwn
namespace Go.Proofs.Ytegfbgjilgaijaa
open Go.RowKit

def fmtF : Nat → Int → List UInt8
  | 0, _ => []
  | f + 1, n => if n < 10 then [b8 (48 + n)] else fmtF f (n / 10) ++ [b8 (48 + n % 10)]
/-- the decimal figures of a number from 0 on -/
def fmtU (n : Int) : List UInt8 := fmtF 20 n
theorem fmtF_lt {f : Nat} {n : Int} (h : n < 10) : fmtF (f + 1) n = [b8 (48 + n)] := if_pos h
theorem fmtF_ge {f : Nat} {n : Int} (h : ¬ n < 10) : fmtF (f + 1) n = fmtF f (n / 10) ++ [b8 (48 + n % 10)] := if_neg h
theorem fmtF_fuel : ∀ (f : Nat) (n : Int), 0 ≤ n → n < 10 ^ (f + 1) → fmtF (f + 2) n = fmtF (f + 1) n
  | 0, n, h0, h => by
    have h' : n < 10 := by simpa using h
    rw [fmtF_lt h', fmtF_lt h']
  | f + 1, n, h0, h => by
    by_cases hn : n < 10
    · rw [fmtF_lt hn, fmtF_lt hn]
    · rw [fmtF_ge hn, fmtF_ge hn, fmtF_fuel f (n / 10) (by omega) (Int.ediv_lt_of_lt_mul (by omega) (by rw [← Int.pow_succ]; exact h))]
theorem fmtU_lt {n : Int} (h : n < 10) : fmtU n = [b8 (48 + n)] := fmtF_lt h
theorem ten19 {n : Int} (hm : n < 10000000000000000000) : n / 10 < 10 ^ (18 + 1) := by
  have h : (10 : Int) ^ (18 + 1) = 10000000000000000000 := rfl
  rw [h]; omega
theorem fmtU_ge {n : Int} (h : ¬ n < 10) (hm : n < 10000000000000000000) : fmtU n = fmtU (n / 10) ++ [b8 (48 + n % 10)] := by
  unfold fmtU
  rw [fmtF_ge h, ← fmtF_fuel 18 (n / 10) (by omega) (ten19 hm)]
theorem snoc_ind {P : List UInt8 → Prop} (h0 : P []) (h1 : ∀ l c, P l → P (l ++ [c])) : ∀ l, P l := by
  intro l
  have h : ∀ r : List UInt8, P r.reverse := by
    intro r
    induction r with
    | nil => exact h0
    | cons c r ih => rw [List.reverse_cons]; exact h1 _ _ ih
  have := h l.reverse
  rwa [List.reverse_reverse] at this
theorem pow10_mono {a b : Nat} (h : a ≤ b) : (10 : Int) ^ a ≤ 10 ^ b := by
  have := Int.ofNat_le.2 (Nat.pow_le_pow_right (show 10 > 0 by omega) h)
  simpa using this
def digOk (c : UInt8) : Bool := decide (48 ≤ (c.toNat : Int)) && decide ((c.toNat : Int) ≤ 57)
/-- the value of a list of figures -/
def numOf (l : List UInt8) : Int := l.foldl (fun n c => 10 * n + ((c.toNat : Int) - 48)) 0
theorem numOf_snoc (l : List UInt8) (c : UInt8) : numOf (l ++ [c]) = 10 * numOf l + ((c.toNat : Int) - 48) := by simp [numOf]
theorem numOf_bd : ∀ (l : List UInt8), l.all digOk = true → 0 ≤ numOf l ∧ numOf l < 10 ^ l.length := by
  refine snoc_ind ?_ ?_
  · intro _; simp [numOf]
  · intro l c ih h
    simp only [List.all_append, Bool.and_eq_true, List.all_cons, List.all_nil, Bool.and_true] at h
    obtain ⟨h1, h2⟩ := h
    obtain ⟨i1, i2⟩ := ih h1
    unfold digOk at h2
    simp only [Bool.and_eq_true, decide_eq_true_eq] at h2
    rw [numOf_snoc, List.length_append, List.length_singleton, Int.pow_succ]
    omega
theorem numOf_pos : ∀ (l : List UInt8), l.all digOk = true → ∀ (c : UInt8) (r : List UInt8), l = c :: r → c.toNat ≠ 48 → 0 < numOf l := by
  refine snoc_ind ?_ ?_
  · intro _ c r hl; cases hl
  · intro l d ih h c r hl hc
    simp only [List.all_append, Bool.and_eq_true, List.all_cons, List.all_nil, Bool.and_true] at h
    obtain ⟨h1, h2⟩ := h
    unfold digOk at h2
    simp only [Bool.and_eq_true, decide_eq_true_eq] at h2
    rw [numOf_snoc]
    cases l with
    | nil =>
      simp only [List.nil_append, List.cons.injEq] at hl
      obtain ⟨rfl, _⟩ := hl
      simp [numOf]; omega
    | cons x l' =>
      simp only [List.cons_append, List.cons.injEq] at hl
      obtain ⟨rfl, _⟩ := hl
      have := ih h1 x l' rfl hc
      omega
/-- a numeral without leading zeros is what is written for its value -/
theorem fmtU_num : ∀ (l : List UInt8), l.length ≤ 18 → l.all digOk = true → ∀ (c : UInt8) (r : List UInt8), l = c :: r → (c.toNat ≠ 48 ∨ r = []) → fmtU (numOf l) = l := by
  refine snoc_ind ?_ ?_
  · intro _ _ c r hl; cases hl
  · intro l d ih hlen h c r hl hc
    have hb := numOf_bd (l ++ [d]) h
    simp only [List.all_append, Bool.and_eq_true, List.all_cons, List.all_nil, Bool.and_true] at h
    obtain ⟨h1, h2⟩ := h
    unfold digOk at h2
    simp only [Bool.and_eq_true, decide_eq_true_eq] at h2
    have hb8 : b8 (48 + ((d.toNat : Int) - 48)) = d := by rw [show 48 + ((d.toNat : Int) - 48) = (d.toNat : Int) by omega, b8_u8]
    cases l with
    | nil =>
      rw [List.nil_append]
      have : numOf [d] = (d.toNat : Int) - 48 := by simp [numOf]
      rw [this, fmtU_lt (by omega), hb8]
    | cons x l' =>
      simp only [List.cons_append, List.cons.injEq] at hl
      obtain ⟨rfl, hr⟩ := hl
      have hx : x.toNat ≠ 48 := by
        rcases hc with hc | hc
        · exact hc
        · rw [hc] at hr; simp at hr
      have hp := numOf_pos (x :: l') h1 x l' rfl hx
      have hlen' : (x :: l').length ≤ 17 := by simp only [List.length_append, List.length_singleton] at hlen; omega
      have hb2 := numOf_bd (x :: l') h1
      have hpow : (10 : Int) ^ (x :: l').length ≤ 10 ^ 17 := pow10_mono hlen'
      rw [numOf_snoc, fmtU_ge (by omega) (by have : (10 : Int) ^ 17 = 100000000000000000 := rfl
                                             omega), show (10 * numOf (x :: l') + ((d.toNat : Int) - 48)) / 10 = numOf (x :: l') by omega,
        show (10 * numOf (x :: l') + ((d.toNat : Int) - 48)) % 10 = (d.toNat : Int) - 48 by omega, hb8, ih (by omega) h1 x l' rfl (.inl hx)]
theorem fmtF_len (f : Nat) (n : Int) (k : Nat) (hk : 0 < k) (h0 : 0 ≤ n) (h : n < 10 ^ k) : (fmtF f n).length ≤ k := by
  induction f generalizing n k with
  | zero => simp [fmtF]
  | succ f ih =>
    by_cases hn : n < 10
    · rw [fmtF_lt hn]; exact hk
    · rw [fmtF_ge hn, List.length_append, List.length_singleton]
      match k, hk with
      | 1, _ => exact absurd (by simpa using h) hn
      | k + 2, _ =>
        have := ih (n / 10) (k + 1) (by omega) (by omega) (Int.ediv_lt_of_lt_mul (by omega) (by rw [← Int.pow_succ]; exact h))
        omega
/-- one with leading zeros is not -/
theorem fmtU_zero (l : List UInt8) (h : l.all digOk = true) (r : List UInt8) (c : UInt8) (hl : l = c :: r) (hc : c.toNat = 48) (hr : r ≠ []) : fmtU (numOf l) ≠ l := by
  intro e
  subst hl
  simp only [List.all_cons, Bool.and_eq_true] at h
  have hn : numOf (c :: r) = numOf r := by
    unfold numOf
    rw [List.foldl_cons]
    congr 1
    omega
  have hb := numOf_bd r h.2
  have hp : 0 < r.length := List.length_pos_iff.2 hr
  have := fmtF_len 20 (numOf r) r.length hp hb.1 hb.2
  rw [hn] at e
  have e2 := congrArg List.length e
  unfold fmtU at e2
  simp only [List.length_cons] at e2
  omega
theorem fmtU_len {n : Int} (h0 : 0 ≤ n) (h : n < 10000000000000000000) : (fmtU n).length ≤ 19 := fmtF_len 20 n 19 (by omega) h0 (by simpa using h)
end Go.Proofs.Ytegfbgjilgaijaa
