/- Lists of whole numbers as bytes, and runs of equal inputs: the plain functions. No program. -/
import Derived.Test.YtiopbdodegopdaaDoorNum
import Derived.Test.YtiopbdodegopdaaDoorUnp
namespace Go.Proofs.YtiopbdodegopdaaDoor
open Go.RowKit

def encsL : List Int → List UInt8
  | [] => []
  | x :: r => encV (signless x) ++ encsL r
theorem encsL_append (l r : List Int) : encsL (l ++ r) = encsL l ++ encsL r := by
  induction l with
  | nil => rfl
  | cons x l ih => simp only [List.cons_append, encsL, ih, List.append_assoc]
theorem encsL_len (l : List Int) : (encsL l).length ≤ 6 * l.length := by
  induction l with
  | nil => simp [encsL]
  | cons x l ih =>
    have := encV_len (signless x)
    simp only [encsL, List.length_append, List.length_cons]
    omega
theorem encsL_succ {l : List Int} {k : Nat} (h : k < l.length) : encsL (l.take (k + 1)) = encsL (l.take k) ++ encV (signless (l[k]'h)) := by
  rw [List.take_add_one, List.getElem?_eq_getElem h, encsL_append]
  simp [encsL]
def okS (l : List Int) : Bool := l.all fun x => decide (0 ≤ signless x)
theorem okS_no {l : List Int} {k : Nat} {h : k < l.length} (hx : signless (l[k]'h) < 0) : okS l = false := by
  refine List.all_eq_false.2 ⟨l[k]'h, List.getElem_mem h, ?_⟩
  simp
  omega
theorem okS_yes {l : List Int} (h : ∀ j (hj : j < l.length), 0 ≤ signless (l[j]'hj)) : okS l = true := by
  refine List.all_eq_true.2 fun x hx => ?_
  obtain ⟨j, hj, rfl⟩ := List.getElem_of_mem hx
  simpa using h j hj
def pkI (l : List Int) : List UInt8 := if okS l = true then encV (l.length : Nat) ++ encsL l else []
def packI (l : List Int) : ByteArray := ⟨(pkI l).toArray⟩
theorem packI_no {l : List Int} (h : okS l = false) : packI l = ⟨#[]⟩ := by unfold packI pkI; rw [h]; rfl
theorem packI_yes {l : List Int} (h : okS l = true) : packI l = ⟨(encV (l.length : Nat) ++ encsL l).toArray⟩ := by unfold packI pkI; rw [h]; rfl

theorem signed_signless {x : Int} (h : 0 ≤ signless x) : signed (signless x) = x := by
  unfold signless at h ⊢
  split at h
  · omega
  · rename_i h1
    rw [if_neg h1]
    by_cases h2 : 0 ≤ x
    · rw [if_pos h2, signed_even (by omega) (by omega) (by omega)]; omega
    · rw [if_neg h2, signed_odd (by omega) (by omega) (by omega)]; omega

/-- n numbers, read one behind the other: the list, and how many bytes it took -/
def rdI : Nat → List UInt8 → Option (List Int × Nat)
  | 0, _ => some ([], 0)
  | n + 1, L => if (decV L).2.2 = true then (rdI n (L.drop (decV L).2.1.toNat)).map fun x => (signed (decV L).1 :: x.1, (decV L).2.1.toNat + x.2) else none
theorem rdI_no {n : Nat} {L : List UInt8} (h : decV L = (0, 0, false)) : rdI (n + 1) L = none := by
  rw [rdI, h]; rfl
theorem rdI_yes {n v k : Nat} {L : List UInt8} (h : decV L = ((v : Int), (k : Int), true)) : rdI (n + 1) L = (rdI n (L.drop k)).map fun x => (signed (v : Int) :: x.1, k + x.2) := by
  rw [rdI, h]; simp
theorem rdI_len : ∀ {n : Nat} {L : List UInt8} {x : List Int × Nat}, rdI n L = some x → n ≤ x.2 ∧ x.2 ≤ L.length ∧ x.1.length = n
  | 0, L, x, h => by simp only [rdI, Option.some.injEq] at h; subst h; simp
  | n + 1, L, x, h => by
    rcases decV_cases L with hd | ⟨v, k, hd, _, h1, _, h2, _⟩
    · rw [rdI_no hd] at h; simp at h
    · rw [rdI_yes hd] at h
      cases hr : rdI n (L.drop k) with
      | none => rw [hr] at h; simp at h
      | some y =>
        rw [hr] at h
        simp only [Option.map_some, Option.some.injEq] at h
        subst h
        obtain ⟨a1, a2, a3⟩ := rdI_len hr
        rw [List.length_drop] at a2
        simp only [List.length_cons]
        omega
theorem rdI_big {n : Nat} {L : List UInt8} (h : L.length < n) : rdI n L = none := by
  cases hr : rdI n L with
  | none => rfl
  | some x => have := rdI_len hr; omega
/-- after k numbers of c, p bytes, the list so far being l -/
def rdRel (c : Nat) (L : List UInt8) (k : Nat) (l : List Int) (p : Nat) : Prop := rdI c L = (rdI (c - k) (L.drop p)).map fun x => (l ++ x.1, p + x.2)
theorem rdRel_0 (c : Nat) (L : List UInt8) : rdRel c L 0 [] 0 := by
  unfold rdRel
  simp only [Nat.sub_zero, List.drop_zero, List.nil_append, Nat.zero_add]
  cases rdI c L <;> rfl
theorem rdRel_more {c : Nat} {L : List UInt8} {k p v m : Nat} {l : List Int} (h : rdRel c L k l p) (hk : k < c) (hd : decV (L.drop p) = ((v : Int), (m : Int), true)) : rdRel c L (k + 1) (l ++ [signed (v : Int)]) (p + m) := by
  unfold rdRel at *
  rw [h, show c - k = (c - (k + 1)) + 1 by omega, rdI_yes hd, Option.map_map, List.drop_drop]
  congr 1
  funext x
  simp [Nat.add_assoc]
theorem rdRel_fail {c : Nat} {L : List UInt8} {k p : Nat} {l : List Int} (h : rdRel c L k l p) (hk : k < c) (hd : decV (L.drop p) = (0, 0, false)) : rdI c L = none := by
  unfold rdRel at h
  rw [h, show c - k = (c - (k + 1)) + 1 by omega, rdI_no hd]
  rfl
theorem rdRel_end {c : Nat} {L : List UInt8} {p : Nat} {l : List Int} (h : rdRel c L c l p) : rdI c L = some (l, p) := by
  unfold rdRel at h
  rw [h, Nat.sub_self]
  simp [rdI]
theorem rdI_encs : ∀ (l : List Int) (r : List UInt8), okS l = true → rdI l.length (encsL l ++ r) = some (l, (encsL l).length)
  | [], r, _ => rfl
  | x :: l, r, h => by
    simp only [okS, List.all_cons, Bool.and_eq_true, decide_eq_true_eq] at h
    obtain ⟨h1, h2⟩ := h
    have hb := signless_bd x
    obtain ⟨v, hv⟩ := Int.eq_ofNat_of_zero_le h1
    have hd := decV_enc h1 hb.2 (encsL l ++ r)
    rw [hv] at hd
    simp only [encsL, List.length_cons, List.append_assoc]
    rw [hv, rdI_yes hd, List.drop_left, rdI_encs l r h2, ← hv, signed_signless h1]
    simp

def unpI (s : ByteArray) (p : Int) : List Int × Int × Bool :=
  if (decA s p).2.2 = true then (match rdI (decA s p).1.toNat (s.data.toList.drop (p + (decA s p).2.1).toNat) with
    | none => ([], 0, false)
    | some x => (x.1, (decA s p).2.1 + x.2, true)) else ([], 0, false)
theorem unpI_no {s : ByteArray} {p : Int} (h : decA s p = (0, 0, false)) : unpI s p = ([], 0, false) := by unfold unpI; rw [h]; rfl
theorem unpI_at {s : ByteArray} {q v k : Nat} (h : decA s (q : Int) = ((v : Int), (k : Int), true)) : unpI s (q : Int) = (match rdI v (s.data.toList.drop (q + k)) with
    | none => ([], 0, false)
    | some x => (x.1, (k : Int) + x.2, true)) := by
  unfold unpI
  rw [h]
  simp only [if_true]
  rw [Int.toNat_natCast, show ((q : Int) + (k : Int)).toNat = q + k by omega]
theorem unpI_none {s : ByteArray} {q v k : Nat} (h : decA s (q : Int) = ((v : Int), (k : Int), true)) (hr : rdI v (s.data.toList.drop (q + k)) = none) : unpI s (q : Int) = ([], 0, false) := by rw [unpI_at h, hr]
theorem unpI_some {s : ByteArray} {q v k m : Nat} {l : List Int} (h : decA s (q : Int) = ((v : Int), (k : Int), true)) (hr : rdI v (s.data.toList.drop (q + k)) = some (l, m)) : unpI s (q : Int) = (l, (k : Int) + m, true) := by rw [unpI_at h, hr]

/-! inputs -/
def okIn (l : List Int) : Bool := l.all fun x => inB x 0 15
theorem okIn_no {l : List Int} {k : Nat} {h : k < l.length} (hx : inB (l[k]'h) 0 15 = false) : okIn l = false := List.all_eq_false.2 ⟨l[k]'h, List.getElem_mem h, by simpa using hx⟩
theorem okIn_yes {l : List Int} (h : ∀ j (hj : j < l.length), inB (l[j]'hj) 0 15 = true) : okIn l = true := by
  refine List.all_eq_true.2 fun x hx => ?_
  obtain ⟨j, hj, rfl⟩ := List.getElem_of_mem hx
  exact h j hj
theorem okIn_at {l : List Int} (h : okIn l = true) {k : Nat} (hk : k < l.length) : 0 ≤ l[k]'hk ∧ l[k]'hk ≤ 15 := inB_iff.1 (List.all_eq_true.1 h _ (List.getElem_mem hk))

/-- how many of the list's first elements equal its first -/
def rn : List Int → Nat
  | [] => 0
  | x :: r => 1 + (r.takeWhile (fun y => y == x)).length
theorem tw_le (p : Int → Bool) (L : List Int) : (L.takeWhile p).length ≤ L.length := (List.takeWhile_sublist p).length_le
theorem tw_more {p : Int → Bool} : ∀ {L : List Int} {j : Nat} {c : Int}, j ≤ (L.takeWhile p).length → L[j]? = some c → p c = true → j + 1 ≤ (L.takeWhile p).length
  | [], j, c, _, h, _ => by simp at h
  | a :: r, 0, c, _, h, hp => by
    simp only [List.getElem?_cons_zero, Option.some.injEq] at h
    subst h
    rw [List.takeWhile_cons_of_pos hp]
    simp
  | a :: r, j + 1, c, hj, h, hp => by
    by_cases ha : p a = true
    · rw [List.takeWhile_cons_of_pos ha, List.length_cons] at hj ⊢
      have := tw_more (L := r) (j := j) (c := c) (by omega) (by simpa using h) hp
      omega
    · rw [List.takeWhile_cons_of_neg ha] at hj
      simp at hj
theorem tw_stop {p : Int → Bool} : ∀ {L : List Int} {j : Nat}, j ≤ (L.takeWhile p).length → (∀ c, L[j]? = some c → p c = false) → j = (L.takeWhile p).length
  | [], j, hj, _ => by simp at hj ⊢; exact hj
  | a :: r, 0, _, h => by
    have ha := h a rfl
    rw [List.takeWhile_cons_of_neg (by simp [ha])]
    rfl
  | a :: r, j + 1, hj, h => by
    by_cases ha : p a = true
    · rw [List.takeWhile_cons_of_pos ha, List.length_cons] at hj ⊢
      have := tw_stop (p := p) (L := r) (j := j) (by omega) (fun c hc => h c (by simpa using hc))
      omega
    · rw [List.takeWhile_cons_of_neg ha] at hj
      simp at hj
theorem rn_le (L : List Int) : rn L ≤ L.length := by
  cases L with
  | nil => exact Nat.le_refl _
  | cons x r =>
    have := tw_le (fun y => y == x) r
    simp only [rn, List.length_cons]
    omega
theorem rn_one {L : List Int} (h : L ≠ []) : 1 ≤ rn L := by
  cases L with
  | nil => exact absurd rfl h
  | cons x r => simp only [rn]; omega
theorem rn_more {L : List Int} {j : Nat} {h0 : 0 < L.length} {hj : j < L.length} (h : j ≤ rn L) (h1 : 1 ≤ j) (he : L[j]'hj = L[0]'h0) : j + 1 ≤ rn L := by
  cases L with
  | nil => simp at h0
  | cons x r =>
    obtain ⟨i, rfl⟩ : ∃ i, j = i + 1 := ⟨j - 1, by omega⟩
    simp only [List.getElem_cons_succ, List.getElem_cons_zero] at he
    simp only [rn, List.length_cons] at h hj ⊢
    have := tw_more (p := fun y => y == x) (L := r) (j := i) (c := r[i]'(by omega)) (by omega) (List.getElem?_eq_getElem (by omega)) (by simp [he])
    omega
theorem rn_stop {L : List Int} {j : Nat} {h0 : 0 < L.length} (h : j ≤ rn L) (h1 : 1 ≤ j) (he : ∀ hj : j < L.length, ¬ L[j]'hj = L[0]'h0) : j = rn L := by
  cases L with
  | nil => simp at h0
  | cons x r =>
    obtain ⟨i, rfl⟩ : ∃ i, j = i + 1 := ⟨j - 1, by omega⟩
    simp only [List.getElem_cons_succ, List.getElem_cons_zero] at he
    simp only [rn, List.length_cons] at h he ⊢
    have := tw_stop (p := fun y => y == x) (L := r) (j := i) (by omega) (fun c hc => by
      obtain ⟨hi, rfl⟩ := List.getElem?_eq_some_iff.1 hc
      simpa using he (by omega))
    omega
def tkF : Nat → List Int → List UInt8
  | 0, _ => []
  | _ + 1, [] => []
  | f + 1, x :: r => encV (x + 16 * (rn (x :: r) : Nat)) ++ tkF f ((x :: r).drop (rn (x :: r)))
def tk (L : List Int) : List UInt8 := tkF L.length L
theorem tkF_nil (f : Nat) : tkF f [] = [] := by cases f <;> rfl
theorem tkF_fuel : ∀ (f g : Nat) (L : List Int), L.length ≤ f → L.length ≤ g → tkF f L = tkF g L
  | f, g, [], _, _ => by rw [tkF_nil, tkF_nil]
  | 0, _, _ :: _, h, _ => by simp at h
  | _ + 1, 0, _ :: _, _, h => by simp at h
  | f + 1, g + 1, x :: r, hf, hg => by
    have h1 := rn_one (L := x :: r) (by simp)
    simp only [List.length_cons] at hf hg
    simp only [tkF]
    rw [tkF_fuel f g _ (by rw [List.length_drop, List.length_cons]; omega) (by rw [List.length_drop, List.length_cons]; omega)]
theorem tk_nil : tk [] = [] := rfl
theorem tk_step {L : List Int} (h : 0 < L.length) : tk L = encV (L[0]'h + 16 * (rn L : Nat)) ++ tk (L.drop (rn L)) := by
  cases L with
  | nil => simp at h
  | cons x r =>
    have h1 := rn_one (L := x :: r) (by simp)
    unfold tk
    rw [List.length_cons]
    simp only [tkF, List.getElem_cons_zero]
    rw [tkF_fuel r.length ((x :: r).drop (rn (x :: r))).length _ (by rw [List.length_drop, List.length_cons]; omega) (Nat.le_refl _)]
theorem tk_next {l : List Int} {k : Nat} {t : List UInt8} (h : tk l = t ++ tk (l.drop k)) (hk : k < l.length) : tk l = (t ++ encV (l[k]'hk + 16 * (rn (l.drop k) : Nat))) ++ tk (l.drop (k + rn (l.drop k))) := by
  rw [h, tk_step (L := l.drop k) (by rw [List.length_drop]; omega), List.drop_drop, List.append_assoc]
  simp
def okT (l : List Int) : Bool := decide (l.length ≤ 400) && okIn l
def trkT (l : List Int) : ByteArray := if okT l = true then ⟨(tk l).toArray⟩ else ⟨#[]⟩
def scrT (l : List Int) (d t : Int) : Int :=
  if 1 ≤ l.length ∧ okT l = true ∧ 0 ≤ d ∧ d ≤ 5 ∧ 0 ≤ t then (if t < d then 0 else l.getD ((t - d) % (l.length : Int)).toNat 0) else -1
end Go.Proofs.YtiopbdodegopdaaDoor
