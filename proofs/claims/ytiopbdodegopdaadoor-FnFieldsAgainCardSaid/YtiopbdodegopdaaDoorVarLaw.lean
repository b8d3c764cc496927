/- Plain laws of numbers written to the base 128. No program. -/
import Derived.Test.YtiopbdodegopdaaDoorVarFn
namespace Go.Proofs.YtiopbdodegopdaaDoor
open Go.RowKit

/-- a number's value, the count of its bytes and the last of them -/
def dec : Nat → List UInt8 → Option (Int × Nat × UInt8)
  | 0, _ => none
  | _ + 1, [] => none
  | f + 1, c :: r => if c.toNat < 128 then some ((c.toNat : Int), 1, c) else (dec f r).map fun x => ((c.toNat : Int) % 128 + 128 * x.1, x.2.1 + 1, x.2.2)
def canon (x : Int × Nat × UInt8) : Bool := !((decide (x.2.2 = 0) && decide (1 < x.2.1)) || decide (1099511627775 < x.1))
def decV (l : List UInt8) : Int × Int × Bool := match dec 6 l with
  | none => (0, 0, false)
  | some x => if canon x = true then (x.1, (x.2.1 : Int), true) else (0, 0, false)
def decA (s : ByteArray) (p : Int) : Int × Int × Bool := if p < 0 then (0, 0, false) else decV (s.data.toList.drop p.toNat)

theorem dec_bd : ∀ (f : Nat) (l : List UInt8) (x : Int × Nat × UInt8), dec f l = some x → 0 ≤ x.1 ∧ x.1 < 128 ^ f ∧ 1 ≤ x.2.1 ∧ x.2.1 ≤ f ∧ x.2.1 ≤ l.length ∧ (x.2.2 ≠ 0 → 0 < x.1)
  | 0, l, x, h => by simp [dec] at h
  | f + 1, [], x, h => by simp [dec] at h
  | f + 1, c :: r, x, h => by
    have hc := c.toNat_lt
    have hp : (1 : Int) ≤ 128 ^ f := Int.pow_pos (by omega)
    simp only [dec] at h
    split at h
    · cases h
      refine ⟨by simp, ?_, by simp, by simp, by simp, fun hz => ?_⟩
      · simp only [Int.pow_succ]; omega
      · simp only
        have : c.toNat ≠ 0 := fun e => hz (UInt8.toNat_inj.1 e)
        omega
    · cases hd : dec f r with
      | none => rw [hd] at h; simp at h
      | some y =>
        rw [hd] at h
        simp only [Option.map_some, Option.some.injEq] at h
        subst h
        obtain ⟨h1, h2, h3, h4, h5, h6⟩ := dec_bd f r y hd
        refine ⟨by simp only; omega, ?_, by simp, by simp only; omega, by simp only [List.length_cons]; omega, fun hz => by have := h6 hz; simp only; omega⟩
        simp only [Int.pow_succ]; omega

/-- what is read is what was written -/
theorem dec_enc : ∀ (f : Nat) (n : Int) (r : List UInt8), 0 ≤ n → n < 128 ^ (f + 1) →
    ∃ z, dec (f + 1) (encF f n ++ r) = some (n, (encF f n).length, z) ∧ (n = 0 → (encF f n).length = 1) ∧ (0 < n → z ≠ 0) := by
  have one : ∀ (f : Nat) (n : Int) (r : List UInt8), 0 ≤ n → n < 128 → dec (f + 1) ([b8 n] ++ r) = some (n, 1, b8 n) ∧ (0 < n → b8 n ≠ 0) := by
    intro f n r h0 h
    have hb := b8_nat h0 (by omega : n < 256)
    refine ⟨?_, fun hp e => ?_⟩
    · show dec (f + 1) (b8 n :: r) = _
      simp only [dec]
      rw [if_pos (by omega), hb]
    · rw [e] at hb
      simp at hb
      omega
  intro f
  induction f with
  | zero =>
    intro n r h0 h
    obtain ⟨h1, h2⟩ := one 0 n r h0 (by simpa using h)
    exact ⟨b8 n, by simpa [encF] using h1, fun _ => rfl, h2⟩
  | succ f ih =>
    intro n r h0 h
    by_cases hn : n < 128
    · obtain ⟨h1, h2⟩ := one (f + 1) n r h0 hn
      rw [encF_lt hn]
      exact ⟨b8 n, by simpa using h1, fun _ => rfl, h2⟩
    · rw [encF_ge hn]
      obtain ⟨z, h1, h2, h3⟩ := ih (n / 128) r (by omega) (Int.ediv_lt_of_lt_mul (by omega) (by rw [← Int.pow_succ]; exact h))
      have hb := b8_nat (n := n % 128 + 128) (by omega) (by omega)
      refine ⟨z, ?_, fun e => by omega, fun _ => h3 (by omega)⟩
      show dec (f + 1 + 1) (b8 (n % 128 + 128) :: (encF f (n / 128) ++ r)) = _
      simp only [dec]
      rw [if_neg (by omega), h1]
      simp only [Option.map_some, List.length_cons, hb]
      congr 2
      omega

theorem decV_enc {n : Int} (h0 : 0 ≤ n) (h1 : n ≤ 1099511627775) (r : List UInt8) : decV (encV n ++ r) = (n, ((encV n).length : Int), true) := by
  have he : encV n = encF 5 n := if_neg (by omega)
  obtain ⟨z, h2, h3, h4⟩ := dec_enc 5 n r h0 (by omega)
  unfold decV
  rw [he, h2]
  have hc : canon (n, (encF 5 n).length, z) = true := by
    unfold canon
    simp only [Bool.not_eq_true', Bool.or_eq_false_iff, Bool.and_eq_false_iff, decide_eq_false_iff_not]
    refine ⟨?_, by omega⟩
    by_cases hn : n = 0
    · right; rw [h3 hn]; omega
    · left; exact h4 (by omega)
  simp only [hc, if_true]

/-- what is read, written again, is what was there -/
theorem enc_dec : ∀ (f : Nat) (l : List UInt8) (x : Int × Nat × UInt8), dec (f + 1) l = some x → (x.2.2 ≠ 0 ∨ x.2.1 = 1) → encF f x.1 = l.take x.2.1 := by
  have one : ∀ (f : Nat) (c : UInt8) (r : List UInt8), c.toNat < 128 → encF f (c.toNat : Int) = (c :: r).take 1 := by
    intro f c r h
    rw [encF_lt (by omega), b8_u8]
    rfl
  intro f
  induction f with
  | zero =>
    intro l x h hx
    cases l with
    | nil => simp [dec] at h
    | cons c r =>
      simp only [dec] at h
      split at h
      · cases h; exact one 0 c r (by assumption)
      · simp at h
  | succ f ih =>
    intro l x h hx
    cases l with
    | nil => simp [dec] at h
    | cons c r =>
      have hc := c.toNat_lt
      rw [dec] at h
      split at h
      · cases h; exact one (f + 1) c r (by assumption)
      · rename_i hge
        cases hd : dec (f + 1) r with
        | none => rw [hd] at h; simp at h
        | some y =>
          rw [hd] at h
          simp only [Option.map_some, Option.some.injEq] at h
          subst h
          obtain ⟨b1, _, b3, _, _, b6⟩ := dec_bd _ _ _ hd
          simp only at hx ⊢
          have hz : y.2.2 ≠ 0 := by
            rcases hx with hx | hx
            · exact hx
            · omega
          have hv := b6 hz
          rw [encF_ge (by omega), List.take_succ_cons, show ((c.toNat : Int) % 128 + 128 * y.1) / 128 = y.1 by omega, ih r y hd (.inl hz),
            show ((c.toNat : Int) % 128 + 128 * y.1) % 128 + 128 = (c.toNat : Int) by omega, b8_u8]

theorem decV_yes {l : List UInt8} {v k : Int} (h : decV l = (v, k, true)) : 0 ≤ v ∧ v ≤ 1099511627775 ∧ 1 ≤ k ∧ k ≤ 6 ∧ k ≤ l.length ∧ encV v = l.take k.toNat := by
  unfold decV at h
  cases hd : dec 6 l with
  | none => rw [hd] at h; simp at h
  | some x =>
    rw [hd] at h
    simp only at h
    by_cases hc : canon x = true
    · rw [if_pos hc] at h
      simp only [Prod.mk.injEq, and_true] at h
      obtain ⟨rfl, rfl⟩ := h
      obtain ⟨b1, b2, b3, b4, b5, b6⟩ := dec_bd _ _ _ hd
      unfold canon at hc
      simp only [Bool.not_eq_true', Bool.or_eq_false_iff, Bool.and_eq_false_iff, decide_eq_false_iff_not] at hc
      refine ⟨b1, by omega, by omega, by omega, by omega, ?_⟩
      have he : encV x.1 = encF 5 x.1 := if_neg (by omega)
      rw [he, enc_dec 5 l x hd (hc.1.elim .inl (fun h => .inr (by omega))), Int.toNat_natCast]
    · rw [if_neg hc] at h; simp at h
theorem decV_no {l : List UInt8} (h : (decV l).2.2 = false) : decV l = (0, 0, false) := by
  unfold decV at h ⊢
  cases hd : dec 6 l with
  | none => rfl
  | some x =>
    rw [hd] at h
    simp only at h ⊢
    by_cases hc : canon x = true
    · rw [if_pos hc] at h; simp at h
    · rw [if_neg hc]

/-- the reference asks whether the number, written again, is what was read: that is what 'canon' asks -/
theorem canon_iff {l : List UInt8} {x : Int × Nat × UInt8} (h : dec 6 l = some x) : canon x = true ↔ encV x.1 = l.take x.2.1 := by
  obtain ⟨b1, b2, b3, b4, b5, b6⟩ := dec_bd _ _ _ h
  constructor
  · intro hc
    have hv : decV l = (x.1, (x.2.1 : Int), true) := by unfold decV; rw [h]; simp only [hc, if_true]
    have := (decV_yes hv).2.2.2.2.2
    rwa [Int.toNat_natCast] at this
  · intro he
    by_cases hc : canon x = true
    · exact hc
    · exfalso
      by_cases hm : x.1 ≤ 1099511627775
      · have h1 := decV_enc b1 hm (l.drop x.2.1)
        rw [he, List.take_append_drop] at h1
        unfold decV at h1
        rw [h] at h1
        simp only [hc] at h1
        simp at h1
      · rw [encV_out (by omega)] at he
        have : (l.take x.2.1).length = 0 := by rw [← he]; rfl
        rw [List.length_take] at this
        omega
end Go.Proofs.YtiopbdodegopdaaDoor
