/- Texts UnzLaw, Zes, Xor, Del, Ozs, Unz, Upk in one. -/
import Derived.Test.YtmamihkcikgmcaaKA
import Derived.Test.YtmamihkcikgmcaaKC
import Derived.Deep.DeepCutAuto
import Derived.Deep.CutBlock
import Derived.Outline
import Derived.Deep.DeepMust
import Derived.Lib.AppendZerosOnto
/- UnpackZeros: the plain function, the one text of at most 20000 bytes that packs to s. No program. -/
namespace Go.Proofs.Ytmamihkcikgmcaa
open Go.RowKit

theorem oth_len (t : List UInt8) : (oth t).length = os t := by
  have h := run_le notZ (t.drop (zs t))
  unfold oth os at *
  rw [List.length_take]
  omega
theorem rst_drop (t : List UInt8) : rst t = (t.drop (zs t)).drop (os t) := by unfold rst; rw [List.drop_drop]
theorem tw_all (p : UInt8 → Bool) : ∀ (L : List UInt8) (b : UInt8), b ∈ L.takeWhile p → p b = true
  | [], b, h => by simp at h
  | a :: r, b, h => by
    by_cases ha : p a = true
    · rw [List.takeWhile_cons_of_pos ha, List.mem_cons] at h
      rcases h with rfl | h
      · exact ha
      · exact tw_all p r b h
    · rw [List.takeWhile_cons_of_neg ha] at h
      simp at h
theorem t_split (t : List UInt8) : List.replicate (zs t) (0 : UInt8) ++ (oth t ++ rst t) = t := by
  have h1 : t.take (zs t) = List.replicate (zs t) (0 : UInt8) := by
    have hz := take_run isZ t
    refine List.eq_replicate_iff.2 ⟨?_, fun b hb => ?_⟩
    · rw [List.length_take]
      have := run_le isZ t
      unfold zs
      omega
    · have hb' : b ∈ t.takeWhile isZ := by rw [← hz]; exact hb
      have := tw_all isZ t b hb'
      unfold isZ at this
      exact eq_of_beq this
  rw [rst_drop]
  unfold oth
  rw [List.take_append_drop, ← h1, List.take_append_drop]
theorem rst_le (t : List UInt8) : zs t + os t + (rst t).length = t.length := by
  have := sum_le t
  unfold rst
  rw [List.length_drop]
  omega
theorem pz_head {t : List UInt8} (h : t ≠ []) (hl : t.length ≤ 1099511627775) :
    decV (pz t) = ((zs t : Int), ((encV (zs t : Nat)).length : Int), true) ∧ (pz t).drop (encV (zs t : Nat)).length = encV (os t : Nat) ++ (oth t ++ pz (rst t)) := by
  have := sum_le t
  rw [pz_step h, List.append_assoc]
  refine ⟨decV_enc (by omega) (by omega) _, ?_⟩
  rw [List.drop_left, List.append_assoc]
theorem pz_mid {t : List UInt8} (hl : t.length ≤ 1099511627775) :
    decV (encV (os t : Nat) ++ (oth t ++ pz (rst t))) = ((os t : Int), ((encV (os t : Nat)).length : Int), true) ∧ (encV (os t : Nat) ++ (oth t ++ pz (rst t))).drop (encV (os t : Nat)).length = oth t ++ pz (rst t) := by
  have := sum_le t
  exact ⟨decV_enc (by omega) (by omega) _, by rw [List.drop_left]⟩
theorem pz_ne {t : List UInt8} (h : pz t = []) (hl : t.length ≤ 1099511627775) : t = [] := by
  by_cases h0 : t = []
  · exact h0
  · have := (pz_head h0 hl).1
    rw [h] at this
    simp [decV, dec] at this
theorem pz_inj : ∀ (n : Nat) (t u : List UInt8), t.length ≤ n → n ≤ 1099511627775 → u.length ≤ 1099511627775 → pz t = pz u → t = u := by
  intro n
  induction n with
  | zero =>
    intro t u ht _ hu h
    obtain rfl : t = [] := List.eq_nil_of_length_eq_zero (by omega)
    exact (pz_ne h.symm hu).symm
  | succ n ih =>
    intro t u ht hn hu h
    by_cases h0 : t = []
    · subst h0
      exact (pz_ne h.symm hu).symm
    by_cases h1 : u = []
    · subst h1
      exact pz_ne h (by omega)
    obtain ⟨a1, a2⟩ := pz_head h0 (by omega)
    obtain ⟨b1, b2⟩ := pz_head h1 hu
    obtain ⟨c1, c2⟩ := pz_mid (t := t) (by omega)
    obtain ⟨d1, d2⟩ := pz_mid (t := u) hu
    rw [h, b1] at a1
    simp only [Prod.mk.injEq, and_true] at a1
    obtain ⟨e1, e2⟩ := a1
    have e1' : zs t = zs u := by omega
    rw [h, e1', b2] at a2
    rw [← a2, d1] at c1
    simp only [Prod.mk.injEq, and_true] at c1
    have e3 : os t = os u := by omega
    rw [← a2] at c2
    rw [e3, d2] at c2
    have l1 := oth_len t
    have l2 := oth_len u
    obtain ⟨e4, e5⟩ := List.append_inj c2 (by omega)
    have m1 := rst_le t
    have m2 := one_of t h0
    have m3 := rst_le u
    have := ih (rst t) (rst u) (by omega) (by omega) (by omega) e5.symm
    rw [← t_split t, ← t_split u, e1', ← e4, this]

/-- no text of at most 20000 bytes packs to S -/
def NoT (S : List UInt8) : Prop := ∀ t : List UInt8, pz t = S → t.length ≤ 20000 → False
open Classical in
noncomputable def unzT (s : ByteArray) : ByteArray × Bool := if h : ∃ t : List UInt8, pz t = s.data.toList ∧ t.length ≤ 20000 then (⟨h.choose.toArray⟩, true) else (⟨#[]⟩, false)
theorem unz_no {s : ByteArray} (h : NoT s.data.toList) : unzT s = (⟨#[]⟩, false) := by
  unfold unzT
  exact dif_neg (fun ⟨t, h1, h2⟩ => h t h1 h2)
theorem unz_yes {s : ByteArray} {t : List UInt8} (h : pz t = s.data.toList) (hl : t.length ≤ 20000) : unzT s = (⟨t.toArray⟩, true) := by
  unfold unzT
  have hx : ∃ t : List UInt8, pz t = s.data.toList ∧ t.length ≤ 20000 := ⟨t, h, hl⟩
  rw [dif_pos hx, pz_inj 20000 hx.choose t hx.choose_spec.2 (by omega) (by omega) (hx.choose_spec.1.trans h.symm)]

/-- what the loop has read so far: every text that packs to S begins with out, and the rest of S is the rest of it, packed -/
def UInv (S out : List UInt8) (p : Nat) : Prop := ∀ t, pz t = S → t.length ≤ 20000 → ∃ t', t = out ++ t' ∧ S.drop p = pz t'
theorem uinv_0 (S : List UInt8) : UInv S [] 0 := fun t h _ => ⟨t, rfl, h.symm⟩
theorem uinv_end {S out : List UInt8} {p : Nat} (h : UInv S out p) (hp : S.length ≤ p) {t : List UInt8} (ht : pz t = S) (hl : t.length ≤ 20000) : t = out := by
  obtain ⟨t', rfl, h2⟩ := h t ht hl
  rw [List.drop_of_length_le hp] at h2
  rw [List.length_append] at hl
  rw [pz_ne h2.symm (by omega), List.append_nil]
theorem uinv_last {S out : List UInt8} {p : Nat} (h : UInv S out p) (hp : S.length ≤ p) (hne : pz out ≠ S) : NoT S := fun _ ht hl => hne (by rw [← uinv_end h hp ht hl]; exact ht)
theorem ustep {S out : List UInt8} {p : Nat} (h : UInv S out p) (hp : p < S.length) {t : List UInt8} (ht : pz t = S) (hl : t.length ≤ 20000) :
    ∃ t', t = out ++ t' ∧ t' ≠ [] ∧ t'.length ≤ 20000 ∧ decV (S.drop p) = ((zs t' : Int), ((encV (zs t' : Nat)).length : Int), true) ∧
      decV (S.drop (p + (encV (zs t' : Nat)).length)) = ((os t' : Int), ((encV (os t' : Nat)).length : Int), true) ∧ S.drop (p + (encV (zs t' : Nat)).length + (encV (os t' : Nat)).length) = oth t' ++ pz (rst t') := by
  obtain ⟨t', h1, h2⟩ := h t ht hl
  have hl' : t'.length ≤ 20000 := by rw [h1, List.length_append] at hl; omega
  have h0 : t' ≠ [] := by
    rintro rfl
    rw [pz_nil] at h2
    have := congrArg List.length h2
    rw [List.length_drop] at this
    simp at this
    omega
  obtain ⟨a1, a2⟩ := pz_head h0 (by omega)
  obtain ⟨c1, c2⟩ := pz_mid (t := t') (by omega)
  refine ⟨t', h1, h0, hl', by rw [h2]; exact a1, ?_, ?_⟩
  · rw [← List.drop_drop, h2, a2]; exact c1
  · rw [← List.drop_drop, ← List.drop_drop, h2, a2]; exact c2
theorem u_no1 {S out : List UInt8} {p : Nat} (h : UInv S out p) (hp : p < S.length) (hd : decV (S.drop p) = (0, 0, false)) : NoT S := fun t ht hl => by
  obtain ⟨t', _, _, _, h1, _⟩ := ustep h hp ht hl
  rw [hd] at h1
  simp at h1
theorem u_no2 {S out : List UInt8} {p n k : Nat} (h : UInv S out p) (hp : p < S.length) (hd : decV (S.drop p) = ((n : Int), (k : Int), true)) (hb : 20000 < out.length + n) : NoT S := fun t ht hl => by
  obtain ⟨t', e, _, _, h1, _⟩ := ustep h hp ht hl
  rw [hd] at h1
  simp only [Prod.mk.injEq, and_true] at h1
  have := sum_le t'
  rw [e, List.length_append] at hl
  omega
theorem u_no3 {S out : List UInt8} {p n k : Nat} (h : UInv S out p) (hp : p < S.length) (hd : decV (S.drop p) = ((n : Int), (k : Int), true)) (hd2 : decV (S.drop (p + k)) = (0, 0, false)) : NoT S := fun t ht hl => by
  obtain ⟨t', e, _, _, h1, h2, _⟩ := ustep h hp ht hl
  rw [hd] at h1
  simp only [Prod.mk.injEq, and_true] at h1
  obtain ⟨_, e2⟩ := h1
  rw [← show k = (encV (zs t' : Nat)).length by omega, hd2] at h2
  simp at h2
theorem u_both {S out : List UInt8} {p n k v m : Nat} (h : UInv S out p) (hp : p < S.length) (hd : decV (S.drop p) = ((n : Int), (k : Int), true)) (hd2 : decV (S.drop (p + k)) = ((v : Int), (m : Int), true)) {t : List UInt8} (ht : pz t = S) (hl : t.length ≤ 20000) :
    ∃ t', t = out ++ t' ∧ t' ≠ [] ∧ t'.length ≤ 20000 ∧ n = zs t' ∧ v = os t' ∧ S.drop (p + k + m) = oth t' ++ pz (rst t') := by
  obtain ⟨t', e, h0, hl', h1, h2, h3⟩ := ustep h hp ht hl
  rw [hd] at h1
  simp only [Prod.mk.injEq, and_true] at h1
  obtain ⟨e1, e2⟩ := h1
  have e2' : (encV (zs t' : Nat)).length = k := by omega
  rw [e2'] at h2 h3
  rw [hd2] at h2
  simp only [Prod.mk.injEq, and_true] at h2
  obtain ⟨e3, e4⟩ := h2
  have e4' : (encV (os t' : Nat)).length = m := by omega
  rw [e4'] at h3
  exact ⟨t', e, h0, hl', by omega, by omega, h3⟩
theorem u_no4 {S out : List UInt8} {p n k v m : Nat} (h : UInv S out p) (hp : p < S.length) (hd : decV (S.drop p) = ((n : Int), (k : Int), true)) (hd2 : decV (S.drop (p + k)) = ((v : Int), (m : Int), true)) (hb : (S.length : Int) - (p + k : Nat) - m < v) : NoT S := fun t ht hl => by
  obtain ⟨t', e, _, _, e1, e2, h3⟩ := u_both h hp hd hd2 ht hl
  have h4 := congrArg List.length h3
  have h5 := (decV_yes hd2).2.2.2.2.1
  have h6 := (decV_yes hd).2.2.2.2.1
  rw [List.length_drop] at h5 h6
  rw [List.length_drop, List.length_append, oth_len] at h4
  omega
theorem u_no5 {S out : List UInt8} {p n k v m : Nat} (h : UInv S out p) (hp : p < S.length) (hd : decV (S.drop p) = ((n : Int), (k : Int), true)) (hd2 : decV (S.drop (p + k)) = ((v : Int), (m : Int), true)) (hb : 20000 < out.length + n + v) : NoT S := fun t ht hl => by
  obtain ⟨t', e, _, _, e1, e2, h3⟩ := u_both h hp hd hd2 ht hl
  have := sum_le t'
  rw [e, List.length_append] at hl
  omega
theorem u_no6 {S out : List UInt8} {p n k v m : Nat} (h : UInv S out p) (hp : p < S.length) (hd : decV (S.drop p) = ((n : Int), (k : Int), true)) (hd2 : decV (S.drop (p + k)) = ((v : Int), (m : Int), true)) (hn : n = 0) (hv : v = 0) : NoT S := fun t ht hl => by
  obtain ⟨t', e, h0, _, e1, e2, h3⟩ := u_both h hp hd hd2 ht hl
  have := one_of t' h0
  omega
theorem u_next {S out : List UInt8} {p n k v m : Nat} (h : UInv S out p) (hp : p < S.length) (hd : decV (S.drop p) = ((n : Int), (k : Int), true)) (hd2 : decV (S.drop (p + k)) = ((v : Int), (m : Int), true)) :
    UInv S (out ++ List.replicate n (0 : UInt8) ++ (S.drop (p + k + m)).take v) (p + k + m + v) := fun t ht hl => by
  obtain ⟨t', e, h0, _, e1, e2, h3⟩ := u_both h hp hd hd2 ht hl
  have l1 := oth_len t'
  refine ⟨rst t', ?_, ?_⟩
  · rw [h3, e2, ← l1, List.take_left, e1, List.append_assoc, List.append_assoc, t_split]
    exact e
  · rw [← List.drop_drop, h3, e2, ← l1, List.drop_left]
end Go.Proofs.Ytmamihkcikgmcaa
/- PackZeros: the reference. -/
namespace Go.Proofs.Ytmamihkcikgmcaa
open Go.RowKit

end Go.Proofs.Ytmamihkcikgmcaa
/- XorText: the program's and the reference's return the same plain function of the two strings. -/
namespace Go.Proofs.Ytmamihkcikgmcaa
open Go.RowKit

def xorTo (a b : ByteArray) (k : Nat) : List UInt8 := (List.range b.size).map fun j => if j < k then b.data.toList.getD j 0 ^^^ a.data.toList.getD j 0 else b.data.toList.getD j 0
def xorT (a b : ByteArray) : ByteArray := ⟨(xorTo a b a.size).toArray⟩
theorem xorTo_len (a b : ByteArray) (k : Nat) : (xorTo a b k).length = b.size := by simp [xorTo]
theorem bytes_getD (a : ByteArray) (k : Nat) (h : k < a.size) : a.data.toList.getD k 0 = a[k]'h := by
  have h' : k < a.data.size := h
  simp only [List.getD, Array.getElem?_toList, Array.getElem?_eq_getElem h']
  rfl
theorem bytes_getD' (a : ByteArray) (k : Nat) (h : ¬ k < a.size) : a.data.toList.getD k 0 = 0 := by
  have h' : a.data.size ≤ k := Nat.le_of_not_lt h
  simp only [List.getD, Array.getElem?_toList, Array.getElem?_eq_none h']
  rfl
theorem xorTo_0 (a b : ByteArray) : xorTo a b 0 = b.data.toList := by
  apply List.ext_getElem?
  intro j
  by_cases h : j < b.size
  · have h' : j < b.data.size := h
    simp [xorTo, h]
  · have h' : b.data.size ≤ j := Nat.le_of_not_lt h
    simp [xorTo, h]
theorem xorTo_succ (a b : ByteArray) (k : Nat) (ha : k < a.size) (hb : k < b.size) : xorTo a b (k + 1) = (xorTo a b k).set k ((b[k]'hb) ^^^ (a[k]'ha)) := by
  have ea := bytes_getD a k ha
  have eb := bytes_getD b k hb
  apply List.ext_getElem?
  intro j
  by_cases h : j < b.size
  · by_cases e : j = k
    · subst e
      rw [List.getElem?_set_self (by rw [xorTo_len]; exact h), ← ea, ← eb]
      simp [xorTo, h]
    · rw [List.getElem?_set_ne (Ne.symm e)]
      simp only [xorTo, List.getElem?_map, List.getElem?_range h]
      have : (j < k + 1) ↔ (j < k) := by omega
      simp [this]
  · rw [List.getElem?_eq_none (by rw [xorTo_len]; omega), List.getElem?_eq_none (by rw [List.length_set, xorTo_len]; omega)]
theorem xorTo_more (a b : ByteArray) (k : Nat) (h : b.size ≤ k) (h' : k ≤ a.size) : xorTo a b k = xorTo a b a.size := by
  unfold xorTo
  apply List.map_congr_left
  intro j hj
  have : j < b.size := by simpa using hj
  rw [if_pos (by omega), if_pos (by omega)]
theorem xorTo_at (a b : ByteArray) (k : Nat) (hb : k < b.size) : (xorTo a b k)[k]? = some (b[k]'hb) := by
  have e := bytes_getD b k hb
  simp only [xorTo, List.getElem?_map, List.getElem?_range hb, Option.map_some]
  rw [if_neg (by omega), e]
end Go.Proofs.Ytmamihkcikgmcaa
/- DeltaText: the program's and the reference's. -/
namespace Go.Proofs.Ytmamihkcikgmcaa
open Go.RowKit

theorem pzF_len : ∀ (f : Nat) (L : List UInt8), (pzF f L).length ≤ 13 * L.length
  | 0, _ => by simp [pzF]
  | _ + 1, [] => by simp [pzF]
  | f + 1, a :: r => by
    have h1 := one_of (a :: r) (by simp)
    have h2 := sum_le (a :: r)
    have ih := pzF_len f (rst (a :: r))
    have ez := encV_len (zs (a :: r) : Nat)
    have eo := encV_len (os (a :: r) : Nat)
    have ho : (oth (a :: r)).length ≤ os (a :: r) := by unfold oth; rw [List.length_take]; omega
    have hl : (rst (a :: r)).length = (a :: r).length - (zs (a :: r) + os (a :: r)) := by unfold rst; rw [List.length_drop]
    simp only [pzF, List.length_append]
    omega
theorem packZ_size (s : ByteArray) : (packZ s).size ≤ 13 * s.size := pzF_len _ _
theorem xorT_size (a b : ByteArray) : (xorT a b).size = b.size := xorTo_len a b a.size
def deltaT (a b : ByteArray) : ByteArray := encVar b.size ++ packZ (xorT a b)

end Go.Proofs.Ytmamihkcikgmcaa
/- 'append(s, make([]byte, k)...)' on an own slice of bytes: the builtin is handed the number k. -/
namespace Go.Proofs.Ytmamihkcikgmcaa
open Go.RowKit

section
variable {P : Program} (w : World)
theorem zeroCells_one (z : Value) (n : Nat) : (Builtin.zeroCells #[z] n) = (List.replicate n z).toArray := by
  apply Array.ext'
  apply List.ext_getElem?
  intro j
  by_cases hj : j < n
  · simp [Builtin.zeroCells, hj, Nat.mod_one]
  · simp [Builtin.zeroCells, hj]
theorem run_append_room_zeros (t tn ty e : TypeId) (i : TypeInfo) (z : Value) (kq kn : IntKind) (ht : P.underlying t = some (.slice e)) (htn : P.underlying tn = some (.int kn)) (hi : P.info? e = some i) (hz : i.zero = some z)
    (hs : i.size = 1) (hby : i.bytes = 1) (hz1 : z.cells = #[z]) (hone : z.oneCell' = true) (b sLen sCap k : Nat) (hk : k ≤ 140737488355328) (hroom : sLen + k ≤ sCap)
    (hc : ∀ j, j < k → (w.cell? ⟨b, 0 + sLen + j, none⟩).isSome = true) (hf : ∀ j, j < k → w.frozen? ⟨b, 0 + sLen + j, none⟩ = false) :
    (Builtin.append_ #[t, tn] ty #[.slice (some ⟨b, 0, none⟩) sLen sCap, .int kq k]).run P w = .ok (.slice (some ⟨b, 0, none⟩) (sLen + k) sCap) (w.setCells b (0 + sLen) (List.replicate k z)) := by
  have hw : IntKind.i64.wrap (k : Int) = k := by rw [IntKind.wrap_i64]; omega
  have h48i : ¬ (281474976710656 < (k : Int)) := by omega
  have hneg : ¬ ((k : Int) < 0) := by omega
  have hst := run_storeCells_cells (P := P) b (0 + sLen) (List.replicate k z) 0 w (by simpa using hc) (by simpa using hf) (fun v hv => by rw [List.eq_of_mem_replicate hv]; exact hone)
  simp only [Nat.add_zero] at hst
  rw [Nat.zero_add] at hst ⊢
  by_cases h0 : k = 0
  · subst h0
    have hw0 : IntKind.i64.wrap 0 = 0 := by rw [IntKind.wrap_i64]; omega
    have hr0 : sLen ≤ sCap := by omega
    simp only [List.replicate_zero] at hst ⊢
    simp [Builtin.append_, run_underlying ht, run_underlying htn, sizeOf, typeInfo, hi, asInt, asIntOf, hs, hby, Addr.add_lit, hw0, hr0, hst]
  · simp [Builtin.append_, run_underlying ht, run_underlying htn, sizeOf, typeInfo, zeroValue, hi, hz, asInt, asIntOf, hw, hneg, h48i, hs, hby, hz1, h0, hroom, Addr.add_lit, zeroCells_one, hst]
theorem run_append_zeros_own (base : Nat) (t tx ty e : TypeId) (i : TypeInfo) (z : Value) (kq kn : IntKind) (ht : P.underlying t = some (.slice e)) (htn : P.underlying tx = some (.int kn)) (hi : P.info? e = some i) (hz : i.zero = some z)
    (hsz1 : i.size = 1) (hby : i.bytes = 1) (hz1 : z.cells = #[z]) (hone : z.oneCell' = true)
    (v : Value) (n : Nat) (xs : List Value) (hown : Own w base 1 v n xs) (m : Nat)
    (h63 : n + m ≤ maxLen) (hbytes : n + m ≤ 140737488355328) (hbase : base ≤ w.heap.size) :
    ∃ v' w', (Builtin.append_ #[t, tx] ty #[v, .int kq m]).run P w = .ok v' w' ∧ Own w' base 1 v' (n + m) (xs ++ List.replicate m z) ∧ w.grownBy w' v.ownBlock ∧ (v'.ownBlock = v.ownBlock ∨ v'.ownBlock = some w.heap.size) := by
  have hzs : z.cells.size = i.size := by rw [hz1, hsz1]; rfl
  obtain ⟨news, hnews⟩ : ∃ news, news = List.replicate m z := ⟨_, rfl⟩
  rw [← hnews]
  have hnl : news.length = m * i.size := by rw [hnews, hsz1]; simp
  rw [← hsz1] at hown ⊢
  have hxl := hown.len
  have hlen : (xs ++ news).length = (n + m) * i.size := by rw [List.length_append, hxl, hnl, Nat.add_mul]
  have grow : ∀ (bs : Option Addr) (sc : Nat), v = .slice bs n sc → n ≤ sc → sc < n + m → (Builtin.firstCells i.size n (.slice bs n sc)).run P w.drew = .ok xs.toArray w.drew →
      ∃ v' w', (Builtin.append_ #[t, tx] ty #[v, .int kq m]).run P w = .ok v' w' ∧ Own w' base i.size v' (n + m) (xs ++ news) ∧ w.grownBy w' v.ownBlock ∧ (v'.ownBlock = v.ownBlock ∨ v'.ownBlock = some w.heap.size) := by
    rintro bs sc rfl hnsc hg hold
    have hrun := Lib.run_append_grow_zeros (P := P) w t tx ty e i z kq kn ht htn hi hz bs n sc xs hold m (by omega) (by omega) hg (by simp only [maxLen] at h63; omega) (by rw [hby]; omega) (growslice_fits hg (by rw [hby]; omega))
    rw [show (xs.toArray ++ Builtin.zeroCells z.cells m) = (xs ++ news).toArray by rw [hz1, zeroCells_one, hnews]; simp] at hrun
    have hge := grownCap_ge w (n + m) sc e
    have hcm := grownCap_le_maxLen w (n + m) sc e h63
    have hsz : ((xs ++ news).toArray ++ Builtin.zeroCells z.cells (grownCap w (n + m) sc e - (n + m))).size = grownCap w (n + m) sc e * i.size := by
      rw [Array.size_append, List.size_toArray, hlen, size_zeroCells, hzs, ← Nat.add_mul]
      congr 1
      omega
    refine ⟨_, _, hrun, ⟨hlen, .inr ⟨w.heap.size, _, rfl, hbase, by simp, hge, hcm, fun j hj => ?_, fun j hj => ⟨?_, ?_⟩⟩⟩, ⟨rfl, rfl, rfl, by simp, fun k hk _ => Below.heap_alloc w.drew _ k hk⟩, .inr rfl⟩
    · have e1 : (w.drew.alloc (.cells ((xs ++ news).toArray ++ Builtin.zeroCells z.cells (grownCap w (n + m) sc e - (n + m))) e)).cell? ⟨w.heap.size, j, none⟩ = _ := World.cell?_alloc_new w.drew _ _ j
      rw [e1, Array.getElem?_append_left (by simp only [List.size_toArray]; rw [hlen]; exact hj), List.getElem?_toArray]
    · have e1 : (w.drew.alloc (.cells ((xs ++ news).toArray ++ Builtin.zeroCells z.cells (grownCap w (n + m) sc e - (n + m))) e)).cell? ⟨w.heap.size, j, none⟩ = _ := World.cell?_alloc_new w.drew _ _ j
      rw [e1, Array.getElem?_eq_getElem (by rw [hsz]; exact hj)]
      rfl
    · exact World.frozen?_alloc_new w.drew _ _ j
  rcases hown.val with ⟨rfl, rfl⟩ | ⟨g, cap, rfl, hbg, hgs, hnc, hcm, hc, ht'⟩
  · obtain rfl : xs = [] := List.eq_nil_of_length_eq_zero (by simpa using hxl)
    by_cases hm : m = 0
    · subst hm
      have hn0 : news = [] := List.eq_nil_of_length_eq_zero (by simpa using hnl)
      rw [hn0]
      refine ⟨.slice none 0 0, w, ?_, by simpa using Own.nil w base i.size, World.grownBy.refl _ _, .inl rfl⟩
      have hw0 : IntKind.i64.wrap 0 = 0 := by rw [IntKind.wrap_i64]; omega
      simp [Builtin.append_, run_underlying ht, run_underlying htn, sizeOf, typeInfo, hi, asInt, asIntOf, hw0]
    · exact grow none 0 rfl (by omega) (by omega) (run_firstCells_none w.drew i.size 0 0 0)
  · by_cases hfit : n + m ≤ cap
    · have hrc : (n + m) * i.size ≤ cap * i.size := Nat.mul_le_mul_right _ hfit
      rw [Nat.add_mul] at hrc
      have hsome : ∀ j, j < news.length → (w.cell? ⟨g, 0 + n * i.size + j, none⟩).isSome = true := fun j hj => by rw [Nat.zero_add]; exact (ht' _ (by omega)).1
      have hnl' : news.length = m := by rw [hnews]; simp
      have hrun := run_append_room_zeros (P := P) w t tx ty e i z kq kn ht htn hi hz hsz1 hby hz1 hone g n cap m (by omega) hfit (fun j hj => by have := hsome j (by omega); rw [hsz1, Nat.mul_one] at this; exact this) (fun j hj => by rw [Nat.zero_add]; exact (ht' _ (by rw [hsz1]; omega)).2)
      rw [← hnews, show 0 + n = 0 + n * i.size by rw [hsz1, Nat.mul_one]] at hrun
      have hsz : (w.setCells g (0 + n * i.size) news).heap.size = w.heap.size := by
        exact size_setCells_ g news _ w
      refine ⟨_, _, hrun, ⟨hlen, .inr ⟨g, cap, rfl, hbg, by rw [hsz]; exact hgs, hfit, hcm, fun j hj => ?_, fun j hj => ⟨?_, (World.frozen?_setCells g _ _ _ _).trans (ht' j hj).2⟩⟩⟩, ?_, .inl rfl⟩
      · rw [Nat.add_mul] at hj
        by_cases hjo : j < n * i.size
        · rw [World.cell?_setCells_out g _ _ _ _ (fun _ _ => Or.inl (by show j < 0 + n * i.size; omega)), List.getElem?_append_left (by omega)]
          exact hc j hjo
        · have htt : j - n * i.size < news.length := by omega
          have := World.cell?_setCells_in g news (0 + n * i.size) w hsome (j - n * i.size) htt
          rw [show 0 + n * i.size + (j - n * i.size) = j by omega] at this
          rw [this, List.getElem?_append_right (by omega), hxl, List.getElem?_eq_getElem htt]
      · by_cases hin : n * i.size ≤ j ∧ j < n * i.size + news.length
        · have := World.cell?_setCells_in g news (0 + n * i.size) w hsome (j - n * i.size) (by omega)
          rw [show 0 + n * i.size + (j - n * i.size) = j by omega] at this
          rw [this]; rfl
        · rw [World.cell?_setCells_out g _ _ _ _ (fun _ _ => by show j < 0 + n * i.size ∨ 0 + n * i.size + news.length ≤ j; omega)]
          exact (ht' j hj).1
      · have hkb := World.keptBut_setCells g (may := fun p => p.block = g) news (0 + n * i.size) w (fun _ _ => rfl)
        exact ⟨hkb.1, tape_setCells_ g news _ w, hkb.2.1, by rw [hsz]; exact Nat.le_refl _, fun k hk hne => hkb.block hk (fun p hp e => hne (by simp [Value.ownBlock]; exact e.symm.trans hp))⟩
    · refine grow (some ⟨g, 0, none⟩) cap rfl hnc (by omega) ?_
      refine run_firstCells_some w.drew i.size n ⟨g, 0, none⟩ n cap xs hxl (fun j u hu => ?_)
      rw [Addr.add_lit, Nat.zero_add]
      have hj : j < n * i.size := by
        have := (List.getElem?_eq_some_iff.1 hu).1
        omega
      exact (hc j hj).trans hu
end

section
variable {ops : Array Oper} {rest : List Oper} {o : Oper} {a : Act} {Q : Exit → Act → World → Prop}
theorem zeros_u8 (n : Nat) : List.replicate n (Value.int .u8 0) = u8s (List.replicate n (0 : UInt8)) := by
  unfold u8s
  rw [List.map_replicate]
  rfl
/-- 'append(out, make([]byte, k)...)' -/
theorem app_zeros (w : World) (hgd : o.guard = none) (s x : Operand) (ho : o.op = .call { callee := .builtin .append, args := #[s, x], argTypes := #[31, 3] }) (base : Nat)
    {v : Value} {n : Nat} {l : List UInt8} (hown : Own w base 1 v n (u8s l)) (hv : a.eval s = v) (k : Nat) (hx : a.eval x = .int .i64 (k : Int))
    (hbytes : n + k ≤ 140737488355328) (hbase : base ≤ w.heap.size)
    (hK : ∀ v' w', Own w' base 1 v' (n + k) (u8s (l ++ List.replicate k (0 : UInt8))) → w.grownBy w' v.ownBlock → wpList Try.prog ops Q rest (a.put o.dst v') w') :
    wpList Try.prog ops Q (o :: rest) a w := by
  obtain ⟨i0, hi, hz0, hz1, hz2⟩ := info_parts info_u8
  obtain ⟨v', w', hrun, h1, h2, _⟩ := run_append_zeros_own (P := Try.prog) w base 31 3 o.type 5 i0 (.int .u8 0) .i64 .i64 Try.underlying31 Try.underlying3 hi hz0 hz1 hz2 rfl rfl v n (u8s l) hown k (by unfold maxLen; omega) hbytes hbase
  rw [zeros_u8, u8s_append] at h1
  exact Lib.wpList_append_run w hgd s x 31 3 ho v (.int .i64 k) hv hx v' w' hrun (hK v' w' h1 h2)
end
end Go.Proofs.Ytmamihkcikgmcaa
/- UnpackZeros: the program's and the reference's return the one text of at most 20000 bytes that packs to the string. -/
namespace Go.Proofs.Ytmamihkcikgmcaa
open Go.RowKit

theorem Own.isSlice {w : World} {base sz : Nat} {v : Value} {n : Nat} {cs : List Value} (h : Own w base sz v n cs) : ∃ ao cap, v = .slice ao n cap := by
  rcases h.val with ⟨rfl, rfl⟩ | ⟨g, cap, rfl, _⟩
  · exact ⟨_, _, rfl⟩
  · exact ⟨_, _, rfl⟩
theorem S_len (s : ByteArray) : s.data.toList.length = s.size := by simp
theorem S_dec (s : ByteArray) {p v k : Nat} {b : Bool} (h : decA s (p : Int) = ((v : Int), (k : Int), b)) : decV (s.data.toList.drop p) = ((v : Int), (k : Int), b) := by rw [← decA_nat]; exact h
theorem S_dec0 (s : ByteArray) {p : Nat} (h : decA s (p : Int) = (0, 0, false)) : decV (s.data.toList.drop p) = (0, 0, false) := by rw [← decA_nat]; exact h
theorem S_ext (s : ByteArray) (p v : Nat) : (s.extract p (p + v)).data.toList = (s.data.toList.drop p).take v := by
  rw [Lib.extract_data, Nat.add_sub_cancel_left]
theorem u_ext {s : ByteArray} {l : List UInt8} {p n k v m : Nat} (h : UInv s.data.toList l p) (hp : p < s.size) (hd : decA s (p : Int) = ((n : Int), (k : Int), true)) (hd2 : decA s ((p + k : Nat) : Int) = ((v : Int), (m : Int), true)) :
    UInv s.data.toList (l ++ List.replicate n (0 : UInt8) ++ (s.extract (p + k + m) (p + k + m + v)).data.toList) (p + k + m + v) := by
  rw [S_ext]
  exact u_next h (by rw [S_len]; exact hp) (S_dec s hd) (S_dec s hd2)
theorem pack_eq {s : ByteArray} {l : List UInt8} (h : ((packZ ⟨l.toArray⟩).toList == s.toList) = true) : pz l = s.data.toList := by
  rw [beq_iff_eq, Lib.toList_data, Lib.toList_data] at h
  exact h
theorem pack_ne {s : ByteArray} {l : List UInt8} (h : ((packZ ⟨l.toArray⟩).toList == s.toList) = false) : pz l ≠ s.data.toList := by
  intro e
  rw [beq_eq_false_iff_ne, Lib.toList_data, Lib.toList_data] at h
  exact h e

end Go.Proofs.Ytmamihkcikgmcaa
/- UnpackInts: the program's and the reference's return the same plain function of the string and the place. -/
namespace Go.Proofs.Ytmamihkcikgmcaa
open Go.RowKit

section
variable {ops : Array Oper} {rest : List Oper} {o : Oper} {a : Act} {Q : Exit → Act → World → Prop}
theorem ints_one (l : List Int) : ∀ u ∈ l.map (Value.int .i64), u.oneCell' = true := by
  intro u hu
  obtain ⟨_, _, rfl⟩ := List.mem_map.1 hu
  rfl
/-- 'append(out, x)' on a []int: the new element lies in a block that was just laid. -/
theorem app_int (w : World) (C : Array Value) (hgd : o.guard = none) (s x : Operand) (ho : o.op = .call { callee := .builtin .append, args := #[s, x], argTypes := #[33, 33] }) (base : Nat)
    {v : Value} {n : Nat} {l : List Int} (hown : Own w base 1 v n (l.map (Value.int .i64))) (hv : a.eval s = v) (m c : Nat) (news : List Int) (hx : a.eval x = .slice (some ⟨w.heap.size, 0, none⟩) m c) (hC : Hid (C.toList = news.map (Value.int .i64))) (hm : m = news.length)
    (hbytes : (n + m) * 8 ≤ 140737488355328) (hbase : base ≤ w.heap.size)
    (hK : ∀ v' w', Own w' base 1 v' (n + m) ((l ++ news).map (Value.int .i64)) → w.grownBy w' v.ownBlock → wpList Try.prog ops Q rest (a.put o.dst v') w') :
    wpList Try.prog ops Q (o :: rest) a (w.alloc (.cells C 3 (0, 0))) := by
  obtain ⟨i0, hi, hz0, hz1, hz2⟩ := info_parts info_int
  refine wpList_append_o (P := Try.prog) (w.alloc (.cells C 3 (0, 0))) hgd s x 33 33 ho base 3 i0 (.int .i64 0) 1 8 Try.underlying33 hi hz0 hz1 hz2 rfl hv (hown.alloc _) _ m (news.map (Value.int .i64)) hx
    (Src.ofSlice (P := Try.prog) _ (size := 1) Try.underlying33 ⟨w.heap.size, 0, none⟩ m c (news.map (Value.int .i64)) (by rw [List.length_map, hm, Nat.mul_one]) (fun j u hu => ?_) (ints_one news))
    (by unfold maxLen; omega) (by omega) (by simp; omega) (fun v' w' h1 h2 _ => ?_)
  · rw [Addr.add_lit, Nat.zero_add, World.cell?_alloc_new, ← hu, ← hC.out, Array.getElem?_toList]
  · rw [← List.map_append] at h1
    exact hK v' w' h1 (grownBy_trans (World.grownBy_alloc w _ _) h2)
/-- 'make([]int, 0, n)' -/
theorem make0_int (w : World) (hgd : o.guard = none) (l c : Operand) (ho : o.op = Op.makeSlice 33 l c) (base n : Nat) (C : Int) (hl : a.eval l = .int .i64 0) (hc : a.eval c = .int .i64 C) (hC : C = (n : Int)) (hn : n ≤ 17592186044416) (hbase : base ≤ w.heap.size)
    (hK : ∀ w', Own w' base 1 (.slice (some ⟨w.heap.size, 0, none⟩) 0 n) 0 (([] : List Int).map (Value.int .i64)) → w.grownBy w' none → wpList Try.prog ops Q rest (a.put o.dst (.slice (some ⟨w.heap.size, 0, none⟩) 0 n)) w') :
    wpList Try.prog ops Q (o :: rest) a w := by
  obtain ⟨i0, hi, hz0, hz1, hz2⟩ := info_parts info_int
  exact wpList_make_own (P := Try.prog) w hgd l c 33 ho base 3 i0 (.int .i64 0) 1 Try.underlying33 hi hz0 hz1 .i64 .i64 C n hl hc hC (by rw [hz2]; omega) (by unfold maxLen; omega) hbase (fun w' h1 h2 => hK w' (Own.of_row h1) h2)
end
def upkOk (okb : Bool) (v : Nat) (L : List UInt8) (j : Nat) (l : List Int) (m : Nat) : Prop := (okb = true → rdRel v L j l m) ∧ (okb = false → rdI v L = none)
theorem Own.fitU {w : World} {base n : Nat} {v : Value} {l : List Int} (h : Own w base 1 v n (l.map (Value.int .i64))) : Own w base 1 v l.length (l.map (Value.int .i64)) := by
  have e := h.len
  rw [List.length_map, Nat.mul_one] at e
  rw [e]; exact h
theorem Own.fitI2 {w : World} {base n : Nat} {v : Value} {l : List Int} {x : Int} (h : Own w base 1 v n (l.map (Value.int .i64) ++ [Value.int .i64 x])) : Own w base 1 v (l ++ [x]).length ((l ++ [x]).map (Value.int .i64)) := by
  have h' : Own w base 1 v n ((l ++ [x]).map (Value.int .i64)) := by simpa using h
  exact h'.fitU

set_option maxRecDepth 100000 in
set_option maxHeartbeats 4000000 in
theorem upk_impl (s : ByteArray) (p : Int) (w : World) (hs : s.size ≤ 1099511627775) :
    Calls Try.prog 92 #[.string s, .int .i64 p] w fun e w' => ∃ u, e = .returned (.tuple #[u, .int .i64 (unpI s p).2.1, .bool (unpI s p).2.2]) ∧ Own w' w.heap.size 1 u (unpI s p).1.length ((unpI s p).1.map (Value.int .i64)) ∧ Below w.heap.size w w' := by
  have hs' : s.size ≤ 1099511627776 := by omega
  rcases decA_cases s p with h | ⟨q, v, k, rfl, h, h1, h2, h3, h4, _⟩
  · have HN := Lib.hid (unpI_no h)
    have HD := Lib.hid h; clear h
    go_enter Try.func92, Try.ntmps92
    go_wp2_with fail
    refine (decv_impl_at _ hs' HD.out).mono ?_
    rintro e w1 ⟨rfl, rfl⟩
    go_wp2_with fail
    go_ret3
    exact ⟨_, by rw [HN.out]; rfl, by rw [HN.out]; exact Own.nil _ _ _, Below.refl _ _⟩
  · by_cases hb : (v : Int) ≤ (s.size : Int) - (q : Int) - (k : Int)
    · have HD := Lib.hid h
      have HU := fun l m hr => unpI_some (m := m) (l := l) h hr
      have HB := fun hr => unpI_none h hr
      clear h
      go_enter Try.func92, Try.ntmps92
      go_wp2_with fail
      refine (decv_impl_at _ hs' HD.out).mono ?_
      rintro e w1 ⟨rfl, rfl⟩
      go_wp2_with (with_reducible refine make0_int (o := ⟨some 35, _, _, _, _, _⟩) w rfl _ _ rfl w.heap.size v _ rfl rfl rfl (by omega) (Nat.le_refl _) ?_)
      intro w1 hown hg
      have hbl : Below w.heap.size w w1 := (Below.refl _ _).grown hg (Nat.le_refl _) (fun k h => by cases h)
      clear hg
      go_wp2_with fail
      go_loopw [8, 10, 11] (fun ps u i wr => ∃ (j m pn : Nat) (l : List Int), j ≤ v ∧ i = .int .i64 j ∧ ps = .int .i64 pn ∧ pn = k + m ∧ q + pn ≤ s.size ∧ l.length = j ∧ Own wr w.heap.size 1 u l.length (l.map (Value.int .i64)) ∧ Hid (rdRel v (s.data.toList.drop (q + k)) j l m) ∧ Below w.heap.size w wr) (fun _ _ i _ => v - (intOf i).toNat)
      case atStart => exact ⟨0, 0, k, [], Nat.zero_le _, rfl, rfl, rfl, h4, rfl, hown, Lib.hid (rdRel_0 _ _), hbl⟩
      case round =>
        clear hown hbl
        obtain ⟨j, m, pn, l, hj, rfl, rfl, hpn, hq, hlj, hown, HR, hbl⟩ := hrel
        have hsz := hbl.size
        by_cases hlt : j < v
        · rcases decA_cases s ((q + pn : Nat) : Int) with g | ⟨q2, v2, k2, hq2, g, g1, g2, g3, g4, _⟩
          · have hd : decV ((s.data.toList.drop (q + k)).drop m) = (0, 0, false) := by
              rw [List.drop_drop, show q + k + m = q + pn by omega]; exact S_dec0 s g
            have HN := Lib.hid (HB (rdRel_fail HR.out hlt hd))
            rw [Int.natCast_add] at g
            have HG := Lib.hid g; clear g hd hpn
            go_wp2_with fail
            refine (decv_impl_at _ hs' HG.out).mono ?_
            rintro e w1 ⟨rfl, rfl⟩
            go_wp2_with fail
            go_ret3
            exact ⟨_, by rw [HN.out]; rfl, by rw [HN.out]; exact Own.nil _ _ _, hbl⟩
          · obtain rfl : q2 = q + pn := by omega
            have hd : decV ((s.data.toList.drop (q + k)).drop m) = ((v2 : Int), (k2 : Int), true) := by
              rw [List.drop_drop, show q + k + m = q + pn by omega]; exact S_dec s g
            have HR' := Lib.hid (rdRel_more HR.out hlt hd)
            rw [Int.natCast_add] at g
            have HG := Lib.hid g
            have HC : Hid ((#[Value.int .i64 (signed (v2 : Int))] : Array Value).toList = [signed (v2 : Int)].map (Value.int .i64)) := Lib.hid rfl
            have HP := Lib.hid hpn
            have HL := Lib.hid hlj
            clear g hd hpn hlj hq2
            go_wp2_with fail
            refine (decv_impl_at _ hs' HG.out).mono ?_
            rintro e w1 ⟨rfl, rfl⟩
            go_wp2_with fail
            refine (signed_impl _ _).mono ?_
            rintro e w1 ⟨rfl, rfl⟩
            go_wp2_with (with_reducible refine app_int (o := ⟨some 56, _, _, _, _, _⟩) wr _ rfl _ _ rfl w.heap.size hown rfl 1 1 [signed (v2 : Int)] rfl HC rfl (by have := HL.out; omega) hsz ?_)
            intro v' w' hown' hg'
            have hbl' := hbl.trans (hown.below_of hg' (Nat.le_refl _) hsz)
            clear hg'
            have hlj' : (l ++ [signed (v2 : Int)]).length = j + 1 := by rw [List.length_append, HL.out]; rfl
            go_wp2_with fail
            go_roundw
            case rel => exact ⟨j + 1, m + k2, pn + k2, _, by omega, by go_num, by go_num, by have := HP.out; omega, by omega, hlj', hown'.fitI2, HR', hbl'⟩
            case measure => simp [intOf]; omega
        · obtain rfl : j = v := by omega
          have HN := Lib.hid (HU l m (rdRel_end HR.out))
          have HP := Lib.hid hpn
          clear hpn hlj
          go_wp2_with fail
          go_ret3
          refine ⟨_, ?_, by rw [HN.out]; exact hown, hbl⟩
          rw [HN.out, HP.out]
          simp
    · have HN := Lib.hid (unpI_none h (rdI_big (by rw [List.length_drop, S_len]; omega)))
      have HD := Lib.hid h; clear h
      go_enter Try.func92, Try.ntmps92
      go_wp2_with fail
      refine (decv_impl_at _ hs' HD.out).mono ?_
      rintro e w1 ⟨rfl, rfl⟩
      go_wp2_with fail
      go_ret3
      exact ⟨_, by rw [HN.out]; rfl, by rw [HN.out]; exact Own.nil _ _ _, Below.refl _ _⟩
set_option maxRecDepth 100000 in
set_option maxHeartbeats 4000000 in
theorem upk_spec (s : ByteArray) (p : Int) (w : World) (hs : s.size ≤ 1099511627775) :
    Calls Try.prog 89 #[.string s, .int .i64 p] w fun e w' => ∃ u, e = .returned (.tuple #[u, .int .i64 (unpI s p).2.1, .bool (unpI s p).2.2]) ∧ Own w' w.heap.size 1 u (unpI s p).1.length ((unpI s p).1.map (Value.int .i64)) ∧ Below w.heap.size w w' := by
  have hs' : s.size ≤ 1099511627776 := by omega
  rcases decA_cases s p with h | ⟨q, v, k, rfl, h, h1, h2, h3, h4, _⟩
  · have HN := Lib.hid (unpI_no h)
    have HD := Lib.hid h; clear h
    go_enter Try.func89, Try.ntmps89
    go_wp2_with fail
    refine (decv_spec_at _ hs' HD.out).mono ?_
    rintro e wa ⟨rfl, ha⟩
    have hsa := ha.size
    go_wp2_with fail
    go_loopw [8, 9, 10, 11] (fun ps ok u i wr => ps = .int .i64 0 ∧ ok = .bool false ∧ i = .int .i64 0 ∧ Below w.heap.size w wr) (fun _ _ _ _ _ => 0)
    case atStart => exact ⟨rfl, rfl, rfl, ha.alloc hsa _⟩
    case round =>
      obtain ⟨rfl, rfl, rfl, hbl⟩ := hrel
      have hsz := hbl.size
      go_wp2_with fail
      go_ret3
      exact ⟨_, by rw [HN.out]; rfl, by rw [HN.out]; exact Own.lit _ rfl rfl hsz (Nat.zero_le _), hbl.alloc hsz _⟩
  · have HD := Lib.hid h
    have HU := fun l m hr => unpI_some (m := m) (l := l) h hr
    have HB := fun hr => unpI_none h hr
    clear h
    go_enter Try.func89, Try.ntmps89
    go_wp2_with fail
    refine (decv_spec_at _ hs' HD.out).mono ?_
    rintro e wa ⟨rfl, ha⟩
    have hsa := ha.size
    go_wp2_with fail
    go_loopw [8, 9, 10, 11] (fun ps ok u i wr => ∃ (j m pn : Nat) (l : List Int) (okb : Bool), j ≤ v ∧ i = .int .i64 j ∧ ps = .int .i64 pn ∧ ok = .bool okb ∧ pn = k + m ∧ q + pn ≤ s.size ∧ l.length = j ∧ Own wr w.heap.size 1 u l.length (l.map (Value.int .i64)) ∧ Hid (upkOk okb v (s.data.toList.drop (q + k)) j l m) ∧ Below w.heap.size w wr) (fun _ _ _ i _ => v - (intOf i).toNat)
    case atStart => exact ⟨0, 0, k, [], true, Nat.zero_le _, rfl, rfl, rfl, rfl, h4, rfl, Own.lit _ rfl rfl hsa (Nat.zero_le _), Lib.hid ⟨fun _ => rdRel_0 _ _, fun h => by cases h⟩, ha.alloc hsa _⟩
    case round =>
      obtain ⟨j, m, pn, l, okb, hj, rfl, rfl, rfl, hpn, hq, hlj, hown, HR, hbl⟩ := hrel
      have hsz := hbl.size
      cases okb with
      | false =>
        have HN := Lib.hid (HB (HR.out.2 rfl))
        have HP := Lib.hid hpn
        clear hpn hlj
        by_cases hlt : j < v
        all_goals
          go_wp2_with fail
          go_ret3
          exact ⟨_, by rw [HN.out]; rfl, by rw [HN.out]; exact Own.lit _ rfl rfl hsz (Nat.zero_le _), hbl.alloc hsz _⟩
      | true =>
        by_cases hlt : j < v
        · rcases decA_cases s ((q + pn : Nat) : Int) with g | ⟨q2, v2, k2, hq2, g, g1, g2, g3, g4, _⟩
          · have hd : decV ((s.data.toList.drop (q + k)).drop m) = (0, 0, false) := by
              rw [List.drop_drop, show q + k + m = q + pn by omega]; exact S_dec0 s g
            have HR' : Hid (upkOk false v (s.data.toList.drop (q + k)) (j + 1) (l ++ [signed 0]) m) := Lib.hid ⟨(fun h => by cases h), fun _ => rdRel_fail (HR.out.1 rfl) hlt hd⟩
            rw [Int.natCast_add] at g
            have HG := Lib.hid g
            have HC : Hid ((#[Value.int .i64 (signed 0)] : Array Value).toList = [signed 0].map (Value.int .i64)) := Lib.hid rfl
            have HP := Lib.hid hpn
            have HL := Lib.hid hlj
            clear g hd hpn hlj
            go_wp2_with fail
            refine (decv_spec_at _ hs' HG.out).mono ?_
            rintro e wb ⟨rfl, hb⟩
            have hown1 : Own wb w.heap.size 1 _ _ _ := hown.below hb (fun g hg => (hown.ge g hg).2)
            have hbl1 := hbl.trans (hb.mono hsz)
            have hsz1 := hbl1.size
            go_wp2_with fail
            refine (signed_spec _ _).mono ?_
            rintro e w1 ⟨rfl, rfl⟩
            go_wp2_with (with_reducible refine app_int (o := ⟨some 48, _, _, _, _, _⟩) wb _ rfl _ _ rfl w.heap.size hown1 rfl 1 1 [signed 0] rfl HC rfl (by have := HL.out; omega) hsz1 ?_)
            intro v' w' hown' hg'
            have hbl' := hbl1.trans (hown1.below_of hg' (Nat.le_refl _) hsz1)
            clear hg'
            have hlj' : (l ++ [signed 0]).length = j + 1 := by rw [List.length_append, HL.out]; rfl
            go_wp2_with fail
            go_roundw
            case rel => exact ⟨j + 1, m, pn, _, false, by omega, by go_num, by go_num, rfl, HP.out, by omega, hlj', hown'.fitI2, HR', hbl'⟩
            case measure => simp [intOf]; omega
          · obtain rfl : q2 = q + pn := by omega
            have hd : decV ((s.data.toList.drop (q + k)).drop m) = ((v2 : Int), (k2 : Int), true) := by
              rw [List.drop_drop, show q + k + m = q + pn by omega]; exact S_dec s g
            have HR' : Hid (upkOk true v (s.data.toList.drop (q + k)) (j + 1) (l ++ [signed (v2 : Int)]) (m + k2)) := Lib.hid ⟨fun _ => rdRel_more (HR.out.1 rfl) hlt hd, fun h => by cases h⟩
            rw [Int.natCast_add] at g
            have HG := Lib.hid g
            have HC : Hid ((#[Value.int .i64 (signed (v2 : Int))] : Array Value).toList = [signed (v2 : Int)].map (Value.int .i64)) := Lib.hid rfl
            have HP := Lib.hid hpn
            have HL := Lib.hid hlj
            clear g hd hpn hlj hq2
            go_wp2_with fail
            refine (decv_spec_at _ hs' HG.out).mono ?_
            rintro e wb ⟨rfl, hb⟩
            have hown1 : Own wb w.heap.size 1 _ _ _ := hown.below hb (fun g hg => (hown.ge g hg).2)
            have hbl1 := hbl.trans (hb.mono hsz)
            have hsz1 := hbl1.size
            go_wp2_with fail
            refine (signed_spec _ _).mono ?_
            rintro e w1 ⟨rfl, rfl⟩
            go_wp2_with (with_reducible refine app_int (o := ⟨some 48, _, _, _, _, _⟩) wb _ rfl _ _ rfl w.heap.size hown1 rfl 1 1 [signed (v2 : Int)] rfl HC rfl (by have := HL.out; omega) hsz1 ?_)
            intro v' w' hown' hg'
            have hbl' := hbl1.trans (hown1.below_of hg' (Nat.le_refl _) hsz1)
            clear hg'
            have hlj' : (l ++ [signed (v2 : Int)]).length = j + 1 := by rw [List.length_append, HL.out]; rfl
            go_wp2_with fail
            go_roundw
            case rel => exact ⟨j + 1, m + k2, pn + k2, _, true, by omega, by go_num, by go_num, rfl, by have := HP.out; omega, by omega, hlj', hown'.fitI2, HR', hbl'⟩
            case measure => simp [intOf]; omega
        · obtain rfl : j = v := by omega
          have HN := Lib.hid (HU l m (rdRel_end (HR.out.1 rfl)))
          have HP := Lib.hid hpn
          clear hpn hlj
          go_wp2_with fail
          go_ret3
          refine ⟨_, ?_, by rw [HN.out]; exact hown, hbl⟩
          rw [HN.out, HP.out]
          simp
end Go.Proofs.Ytmamihkcikgmcaa
