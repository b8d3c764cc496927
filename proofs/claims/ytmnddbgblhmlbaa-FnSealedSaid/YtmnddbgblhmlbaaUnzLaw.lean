/- UnpackZeros: the plain function, the one text of at most 20000 bytes that packs to s. No program. -/
import Derived.Test.YtmnddbgblhmlbaaZerLaw
import Derived.Test.YtmnddbgblhmlbaaUnp
namespace Go.Proofs.Ytmnddbgblhmlbaa
open Go.RowKit

theorem oth_len (t : List UInt8) : (oth t).length = os t := by
  have h := run_le notZ (t.drop (zs t))
  unfold oth os at *
  rw [List.length_take]
  omega
theorem rst_drop (t : List UInt8) : rst t = (t.drop (zs t)).drop (os t) := by unfold rst; rw [List.drop_drop]
theorem tw_all (p : UInt8 → Bool) : ∀ (L : List UInt8) (b : UInt8), b ∈ L.takeWhile p → p b = true
  | [], b, h => by simp at h
  | a :: r, b, h => by
    by_cases ha : p a = true
    · rw [List.takeWhile_cons_of_pos ha, List.mem_cons] at h
      rcases h with rfl | h
      · exact ha
      · exact tw_all p r b h
    · rw [List.takeWhile_cons_of_neg ha] at h
      simp at h
theorem t_split (t : List UInt8) : List.replicate (zs t) (0 : UInt8) ++ (oth t ++ rst t) = t := by
  have h1 : t.take (zs t) = List.replicate (zs t) (0 : UInt8) := by
    have hz := take_run isZ t
    refine List.eq_replicate_iff.2 ⟨?_, fun b hb => ?_⟩
    · rw [List.length_take]
      have := run_le isZ t
      unfold zs
      omega
    · have hb' : b ∈ t.takeWhile isZ := by rw [← hz]; exact hb
      have := tw_all isZ t b hb'
      unfold isZ at this
      exact eq_of_beq this
  rw [rst_drop]
  unfold oth
  rw [List.take_append_drop, ← h1, List.take_append_drop]
theorem rst_le (t : List UInt8) : zs t + os t + (rst t).length = t.length := by
  have := sum_le t
  unfold rst
  rw [List.length_drop]
  omega
theorem pz_head {t : List UInt8} (h : t ≠ []) (hl : t.length ≤ 1099511627775) :
    decV (pz t) = ((zs t : Int), ((encV (zs t : Nat)).length : Int), true) ∧ (pz t).drop (encV (zs t : Nat)).length = encV (os t : Nat) ++ (oth t ++ pz (rst t)) := by
  have := sum_le t
  rw [pz_step h, List.append_assoc]
  refine ⟨decV_enc (by omega) (by omega) _, ?_⟩
  rw [List.drop_left, List.append_assoc]
theorem pz_mid {t : List UInt8} (hl : t.length ≤ 1099511627775) :
    decV (encV (os t : Nat) ++ (oth t ++ pz (rst t))) = ((os t : Int), ((encV (os t : Nat)).length : Int), true) ∧ (encV (os t : Nat) ++ (oth t ++ pz (rst t))).drop (encV (os t : Nat)).length = oth t ++ pz (rst t) := by
  have := sum_le t
  exact ⟨decV_enc (by omega) (by omega) _, by rw [List.drop_left]⟩
theorem pz_ne {t : List UInt8} (h : pz t = []) (hl : t.length ≤ 1099511627775) : t = [] := by
  by_cases h0 : t = []
  · exact h0
  · have := (pz_head h0 hl).1
    rw [h] at this
    simp [decV, dec] at this
theorem pz_inj : ∀ (n : Nat) (t u : List UInt8), t.length ≤ n → n ≤ 1099511627775 → u.length ≤ 1099511627775 → pz t = pz u → t = u := by
  intro n
  induction n with
  | zero =>
    intro t u ht _ hu h
    obtain rfl : t = [] := List.eq_nil_of_length_eq_zero (by omega)
    exact (pz_ne h.symm hu).symm
  | succ n ih =>
    intro t u ht hn hu h
    by_cases h0 : t = []
    · subst h0
      exact (pz_ne h.symm hu).symm
    by_cases h1 : u = []
    · subst h1
      exact pz_ne h (by omega)
    obtain ⟨a1, a2⟩ := pz_head h0 (by omega)
    obtain ⟨b1, b2⟩ := pz_head h1 hu
    obtain ⟨c1, c2⟩ := pz_mid (t := t) (by omega)
    obtain ⟨d1, d2⟩ := pz_mid (t := u) hu
    rw [h, b1] at a1
    simp only [Prod.mk.injEq, and_true] at a1
    obtain ⟨e1, e2⟩ := a1
    have e1' : zs t = zs u := by omega
    rw [h, e1', b2] at a2
    rw [← a2, d1] at c1
    simp only [Prod.mk.injEq, and_true] at c1
    have e3 : os t = os u := by omega
    rw [← a2] at c2
    rw [e3, d2] at c2
    have l1 := oth_len t
    have l2 := oth_len u
    obtain ⟨e4, e5⟩ := List.append_inj c2 (by omega)
    have m1 := rst_le t
    have m2 := one_of t h0
    have m3 := rst_le u
    have := ih (rst t) (rst u) (by omega) (by omega) (by omega) e5.symm
    rw [← t_split t, ← t_split u, e1', ← e4, this]

/-- no text of at most 20000 bytes packs to S -/
def NoT (S : List UInt8) : Prop := ∀ t : List UInt8, pz t = S → t.length ≤ 20000 → False
open Classical in
noncomputable def unzT (s : ByteArray) : ByteArray × Bool := if h : ∃ t : List UInt8, pz t = s.data.toList ∧ t.length ≤ 20000 then (⟨h.choose.toArray⟩, true) else (⟨#[]⟩, false)
theorem unz_no {s : ByteArray} (h : NoT s.data.toList) : unzT s = (⟨#[]⟩, false) := by
  unfold unzT
  exact dif_neg (fun ⟨t, h1, h2⟩ => h t h1 h2)
theorem unz_yes {s : ByteArray} {t : List UInt8} (h : pz t = s.data.toList) (hl : t.length ≤ 20000) : unzT s = (⟨t.toArray⟩, true) := by
  unfold unzT
  have hx : ∃ t : List UInt8, pz t = s.data.toList ∧ t.length ≤ 20000 := ⟨t, h, hl⟩
  rw [dif_pos hx, pz_inj 20000 hx.choose t hx.choose_spec.2 (by omega) (by omega) (hx.choose_spec.1.trans h.symm)]

/-- what the loop has read so far: every text that packs to S begins with out, and the rest of S is the rest of it, packed -/
def UInv (S out : List UInt8) (p : Nat) : Prop := ∀ t, pz t = S → t.length ≤ 20000 → ∃ t', t = out ++ t' ∧ S.drop p = pz t'
theorem uinv_0 (S : List UInt8) : UInv S [] 0 := fun t h _ => ⟨t, rfl, h.symm⟩
theorem uinv_end {S out : List UInt8} {p : Nat} (h : UInv S out p) (hp : S.length ≤ p) {t : List UInt8} (ht : pz t = S) (hl : t.length ≤ 20000) : t = out := by
  obtain ⟨t', rfl, h2⟩ := h t ht hl
  rw [List.drop_of_length_le hp] at h2
  rw [List.length_append] at hl
  rw [pz_ne h2.symm (by omega), List.append_nil]
theorem uinv_last {S out : List UInt8} {p : Nat} (h : UInv S out p) (hp : S.length ≤ p) (hne : pz out ≠ S) : NoT S := fun _ ht hl => hne (by rw [← uinv_end h hp ht hl]; exact ht)
theorem ustep {S out : List UInt8} {p : Nat} (h : UInv S out p) (hp : p < S.length) {t : List UInt8} (ht : pz t = S) (hl : t.length ≤ 20000) :
    ∃ t', t = out ++ t' ∧ t' ≠ [] ∧ t'.length ≤ 20000 ∧ decV (S.drop p) = ((zs t' : Int), ((encV (zs t' : Nat)).length : Int), true) ∧
      decV (S.drop (p + (encV (zs t' : Nat)).length)) = ((os t' : Int), ((encV (os t' : Nat)).length : Int), true) ∧ S.drop (p + (encV (zs t' : Nat)).length + (encV (os t' : Nat)).length) = oth t' ++ pz (rst t') := by
  obtain ⟨t', h1, h2⟩ := h t ht hl
  have hl' : t'.length ≤ 20000 := by rw [h1, List.length_append] at hl; omega
  have h0 : t' ≠ [] := by
    rintro rfl
    rw [pz_nil] at h2
    have := congrArg List.length h2
    rw [List.length_drop] at this
    simp at this
    omega
  obtain ⟨a1, a2⟩ := pz_head h0 (by omega)
  obtain ⟨c1, c2⟩ := pz_mid (t := t') (by omega)
  refine ⟨t', h1, h0, hl', by rw [h2]; exact a1, ?_, ?_⟩
  · rw [← List.drop_drop, h2, a2]; exact c1
  · rw [← List.drop_drop, ← List.drop_drop, h2, a2]; exact c2
theorem u_no1 {S out : List UInt8} {p : Nat} (h : UInv S out p) (hp : p < S.length) (hd : decV (S.drop p) = (0, 0, false)) : NoT S := fun t ht hl => by
  obtain ⟨t', _, _, _, h1, _⟩ := ustep h hp ht hl
  rw [hd] at h1
  simp at h1
theorem u_no2 {S out : List UInt8} {p n k : Nat} (h : UInv S out p) (hp : p < S.length) (hd : decV (S.drop p) = ((n : Int), (k : Int), true)) (hb : 20000 < out.length + n) : NoT S := fun t ht hl => by
  obtain ⟨t', e, _, _, h1, _⟩ := ustep h hp ht hl
  rw [hd] at h1
  simp only [Prod.mk.injEq, and_true] at h1
  have := sum_le t'
  rw [e, List.length_append] at hl
  omega
theorem u_no3 {S out : List UInt8} {p n k : Nat} (h : UInv S out p) (hp : p < S.length) (hd : decV (S.drop p) = ((n : Int), (k : Int), true)) (hd2 : decV (S.drop (p + k)) = (0, 0, false)) : NoT S := fun t ht hl => by
  obtain ⟨t', e, _, _, h1, h2, _⟩ := ustep h hp ht hl
  rw [hd] at h1
  simp only [Prod.mk.injEq, and_true] at h1
  obtain ⟨_, e2⟩ := h1
  rw [← show k = (encV (zs t' : Nat)).length by omega, hd2] at h2
  simp at h2
theorem u_both {S out : List UInt8} {p n k v m : Nat} (h : UInv S out p) (hp : p < S.length) (hd : decV (S.drop p) = ((n : Int), (k : Int), true)) (hd2 : decV (S.drop (p + k)) = ((v : Int), (m : Int), true)) {t : List UInt8} (ht : pz t = S) (hl : t.length ≤ 20000) :
    ∃ t', t = out ++ t' ∧ t' ≠ [] ∧ t'.length ≤ 20000 ∧ n = zs t' ∧ v = os t' ∧ S.drop (p + k + m) = oth t' ++ pz (rst t') := by
  obtain ⟨t', e, h0, hl', h1, h2, h3⟩ := ustep h hp ht hl
  rw [hd] at h1
  simp only [Prod.mk.injEq, and_true] at h1
  obtain ⟨e1, e2⟩ := h1
  have e2' : (encV (zs t' : Nat)).length = k := by omega
  rw [e2'] at h2 h3
  rw [hd2] at h2
  simp only [Prod.mk.injEq, and_true] at h2
  obtain ⟨e3, e4⟩ := h2
  have e4' : (encV (os t' : Nat)).length = m := by omega
  rw [e4'] at h3
  exact ⟨t', e, h0, hl', by omega, by omega, h3⟩
theorem u_no4 {S out : List UInt8} {p n k v m : Nat} (h : UInv S out p) (hp : p < S.length) (hd : decV (S.drop p) = ((n : Int), (k : Int), true)) (hd2 : decV (S.drop (p + k)) = ((v : Int), (m : Int), true)) (hb : (S.length : Int) - (p + k : Nat) - m < v) : NoT S := fun t ht hl => by
  obtain ⟨t', e, _, _, e1, e2, h3⟩ := u_both h hp hd hd2 ht hl
  have h4 := congrArg List.length h3
  have h5 := (decV_yes hd2).2.2.2.2.1
  have h6 := (decV_yes hd).2.2.2.2.1
  rw [List.length_drop] at h5 h6
  rw [List.length_drop, List.length_append, oth_len] at h4
  omega
theorem u_no5 {S out : List UInt8} {p n k v m : Nat} (h : UInv S out p) (hp : p < S.length) (hd : decV (S.drop p) = ((n : Int), (k : Int), true)) (hd2 : decV (S.drop (p + k)) = ((v : Int), (m : Int), true)) (hb : 20000 < out.length + n + v) : NoT S := fun t ht hl => by
  obtain ⟨t', e, _, _, e1, e2, h3⟩ := u_both h hp hd hd2 ht hl
  have := sum_le t'
  rw [e, List.length_append] at hl
  omega
theorem u_no6 {S out : List UInt8} {p n k v m : Nat} (h : UInv S out p) (hp : p < S.length) (hd : decV (S.drop p) = ((n : Int), (k : Int), true)) (hd2 : decV (S.drop (p + k)) = ((v : Int), (m : Int), true)) (hn : n = 0) (hv : v = 0) : NoT S := fun t ht hl => by
  obtain ⟨t', e, h0, _, e1, e2, h3⟩ := u_both h hp hd hd2 ht hl
  have := one_of t' h0
  omega
theorem u_next {S out : List UInt8} {p n k v m : Nat} (h : UInv S out p) (hp : p < S.length) (hd : decV (S.drop p) = ((n : Int), (k : Int), true)) (hd2 : decV (S.drop (p + k)) = ((v : Int), (m : Int), true)) :
    UInv S (out ++ List.replicate n (0 : UInt8) ++ (S.drop (p + k + m)).take v) (p + k + m + v) := fun t ht hl => by
  obtain ⟨t', e, h0, _, e1, e2, h3⟩ := u_both h hp hd hd2 ht hl
  have l1 := oth_len t'
  refine ⟨rst t', ?_, ?_⟩
  · rw [h3, e2, ← l1, List.take_left, e1, List.append_assoc, List.append_assoc, t_split]
    exact e
  · rw [← List.drop_drop, h3, e2, ← l1, List.drop_left]
end Go.Proofs.Ytmnddbgblhmlbaa
