/- Plain: the fields of a line, each followed by a space, are the fields of what they make. -/
import Derived.Test.YtiopbdodegopdaaDoorSpl
namespace Go.Proofs.YtiopbdodegopdaaDoor
open Go.RowKit

def spB : ByteArray := ⟨#[32]⟩
def joinF : List ByteArray → ByteArray
  | [] => ⟨#[]⟩
  | f :: r => f ++ spB ++ joinF r
theorem byteAt_append_l {a b : ByteArray} {k : Nat} (h : k < a.size) : byteAt (a ++ b) k = byteAt a k := by
  rw [byteAt_eq (by rw [ByteArray.size_append]; omega), byteAt_eq h, ByteArray.getElem_append_left h]
theorem byteAt_append_r {a b : ByteArray} {k : Nat} (h : a.size ≤ k) : byteAt (a ++ b) k = byteAt b (k - a.size) := by
  by_cases h2 : k - a.size < b.size
  · rw [byteAt_eq (by rw [ByteArray.size_append]; omega), byteAt_eq h2, ByteArray.getElem_append_right h]
  · unfold byteAt
    rw [dif_neg (by rw [ByteArray.size_append]; omega), dif_neg h2]
theorem byteAt_extract {a : ByteArray} {i j k : Nat} (h : i + k < j) (hj : j ≤ a.size) : byteAt (a.extract i j) k = byteAt a (i + k) := by
  have hs : (a.extract i j).size = j - i := by rw [ByteArray.size_extract]; omega
  rw [byteAt_eq (by omega), byteAt_eq (by omega), ByteArray.getElem_extract]
/-- a field: not empty, its bytes from 33 to 126 -/
def fieldOk (f : ByteArray) : Prop := 0 < f.size ∧ ∀ j, j < f.size → 33 ≤ byteAt f j ∧ byteAt f j ≤ 126
theorem scan_fields (s : ByteArray) (hv : ∀ j, j < s.size → 32 ≤ byteAt s j ∧ byteAt s j ≤ 126) : ∀ k, k ≤ s.size → (∀ f ∈ (scanF s k).1, fieldOk f) ∧ (scanF s k).2 ≤ k ∧ ∀ j, (scanF s k).2 ≤ j → j < k → 33 ≤ byteAt s j ∧ byteAt s j ≤ 126
  | 0, _ => ⟨fun f h => by simp [scanF] at h, Nat.le_refl _, fun j h1 h2 => by omega⟩
  | k + 1, hk => by
    obtain ⟨h1, h2, h3⟩ := scan_fields s hv k (by omega)
    obtain ⟨out, b, hE⟩ : ∃ out b, scanF s k = (out, b) := ⟨_, _, rfl⟩
    rw [hE] at h1 h2 h3
    simp only at h1 h2 h3
    by_cases hc : byteAt s k = 32
    · by_cases hb : b < k
      · rw [scan_sp1 hE hc hb]
        refine ⟨fun f hf => ?_, Nat.le_refl _, fun j h4 h5 => by simp only at h4; omega⟩
        rcases List.mem_append.1 hf with hf | hf
        · exact h1 f hf
        · obtain rfl := List.mem_singleton.1 hf
          have hs : (s.extract b k).size = k - b := by rw [ByteArray.size_extract]; omega
          refine ⟨by omega, fun j hj => ?_⟩
          rw [byteAt_extract (by omega) (by omega)]
          exact h3 _ (by omega) (by omega)
      · rw [scan_sp2 hE hc hb]
        exact ⟨h1, Nat.le_refl _, fun j h4 h5 => by simp only at h4; omega⟩
    · rw [scan_no hE hc]
      refine ⟨h1, by simp only; omega, fun j h4 h5 => ?_⟩
      by_cases e : j = k
      · subst e
        have := hv j (by omega)
        omega
      · exact h3 j h4 (by omega)
theorem fins_fields {s : ByteArray} (hv : ∀ j, j < s.size → 32 ≤ byteAt s j ∧ byteAt s j ≤ 126) : ∀ f ∈ fins s, fieldOk f := by
  obtain ⟨h1, h2, h3⟩ := scan_fields s hv s.size (Nat.le_refl _)
  obtain ⟨out, b, hE⟩ : ∃ out b, scanF s s.size = (out, b) := ⟨_, _, rfl⟩
  rw [hE] at h1 h2 h3
  simp only at h1 h2 h3
  by_cases hb : b < s.size
  · rw [fins_1 hE rfl hb]
    intro f hf
    rcases List.mem_append.1 hf with hf | hf
    · exact h1 f hf
    · obtain rfl := List.mem_singleton.1 hf
      have hs : (s.extract b s.size).size = s.size - b := by rw [ByteArray.size_extract]; omega
      refine ⟨by omega, fun j hj => ?_⟩
      rw [byteAt_extract (by omega) (by omega)]
      exact h3 _ (by omega) (by omega)
  · rw [fins_2 hE rfl hb]
    exact h1
/-- the fields a line of such pieces: behind a stand at 'a' with the fields 'out' -/
theorem scan_join (u : ByteArray) : ∀ (p out : List ByteArray) (a : Nat), (∀ f ∈ p, fieldOk f) → scanF u a = (out, a) → a + (joinF p).size ≤ u.size → (∀ j, j < (joinF p).size → byteAt u (a + j) = byteAt (joinF p) j) →
    (∀ i j, i ≤ j → j ≤ (joinF p).size → u.extract (a + i) (a + j) = (joinF p).extract i j) → scanF u (a + (joinF p).size) = (out ++ p, a + (joinF p).size)
  | [], out, a, _, h, _, _, _ => by
    show scanF u (a + 0) = (out ++ [], a + 0)
    rw [List.append_nil]; exact h
  | f :: r, out, a, hp, h, hl, hb, hx => by
    have hf := hp f (List.mem_cons_self ..)
    have hz : (joinF (f :: r)).size = f.size + 1 + (joinF r).size := by
      show (f ++ spB ++ joinF r).size = _
      rw [ByteArray.size_append, ByteArray.size_append]; rfl
    have hbf : ∀ j, j < f.size → byteAt u (a + j) = byteAt f j := fun j hj => by
      rw [hb j (by omega)]
      show byteAt (f ++ spB ++ joinF r) j = _
      rw [byteAt_append_l (by rw [ByteArray.size_append]; omega), byteAt_append_l hj]
    have hbs : byteAt u (a + f.size) = 32 := by
      rw [hb _ (by omega)]
      show byteAt (f ++ spB ++ joinF r) f.size = _
      rw [byteAt_append_l (by rw [ByteArray.size_append]; show f.size < f.size + 1; omega), byteAt_append_r (Nat.le_refl _), Nat.sub_self]
      rfl
    have s1 : ∀ j, j ≤ f.size → scanF u (a + j) = (out, a) := by
      intro j
      induction j with
      | zero => intro _; exact h
      | succ j ih =>
        intro hj
        have h1 := ih (by omega)
        have h2 := hf.2 j (by omega)
        have h3 := hbf j (by omega)
        have h4 : byteAt u (a + j) ≠ 32 := by omega
        exact scan_no h1 h4
    have s2 := scan_sp1 (s1 f.size (Nat.le_refl _)) hbs (by have := hf.1; omega)
    have ex : u.extract a (a + f.size) = f := by
      have := hx 0 f.size (Nat.zero_le _) (by omega)
      rw [Nat.add_zero] at this
      rw [this]
      show (f ++ spB ++ joinF r).extract 0 f.size = f
      apply ByteArray.ext
      rw [ByteArray.data_extract, ByteArray.data_append, ByteArray.data_append, Array.append_assoc]
      apply Array.ext'
      simp
      exact List.take_of_length_le (by show f.data.toList.length ≤ f.data.size; simp)
    rw [ex] at s2
    have e2 : a + (f.size + 1) = a + f.size + 1 := by omega
    have := scan_join u r (out ++ [f]) (a + f.size + 1) (fun g hg => hp g (List.mem_cons_of_mem _ hg)) s2 (by omega)
      (fun j hj => by
        rw [show a + f.size + 1 + j = a + (f.size + 1 + j) by omega, hb _ (by omega)]
        show byteAt (f ++ spB ++ joinF r) _ = _
        rw [byteAt_append_r (by rw [ByteArray.size_append]; show f.size + 1 ≤ _; omega), ByteArray.size_append]
        congr 1
        show f.size + 1 + j - (f.size + 1) = j
        omega)
      (fun i j hi hj => by
        rw [show a + f.size + 1 + i = a + (f.size + 1 + i) by omega, show a + f.size + 1 + j = a + (f.size + 1 + j) by omega, hx _ _ (by omega) (by omega)]
        show (f ++ spB ++ joinF r).extract _ _ = _
        have hzz : (f ++ spB).data.size = f.size + 1 := by show (f ++ spB).size = _; rw [ByteArray.size_append]; rfl
        apply ByteArray.ext
        rw [ByteArray.data_extract, ByteArray.data_append, ByteArray.data_extract, Array.extract_append, hzz]
        apply Array.ext'
        simp only [Array.toList_append, Array.toList_extract, List.extract_eq_take_drop]
        rw [List.drop_of_length_le (by simp only [Array.length_toList]; omega), List.take_nil, List.nil_append]
        congr 2 <;> omega)
    rw [hz, show a + (f.size + 1 + (joinF r).size) = a + f.size + 1 + (joinF r).size by omega, this, List.append_assoc]
    rfl
theorem joinF_bytes : ∀ (p : List ByteArray), (∀ f ∈ p, fieldOk f) → ∀ j, j < (joinF p).size → 32 ≤ byteAt (joinF p) j ∧ byteAt (joinF p) j ≤ 126
  | [], _, j, h => absurd h (Nat.not_lt_zero _)
  | f :: r, hp, j, h => by
    have hf := hp f (List.mem_cons_self ..)
    have hz : (joinF (f :: r)).size = f.size + 1 + (joinF r).size := by
      show (f ++ spB ++ joinF r).size = _
      rw [ByteArray.size_append, ByteArray.size_append]; rfl
    have hz2 : (f ++ spB).size = f.size + 1 := by rw [ByteArray.size_append]; rfl
    show 32 ≤ byteAt (f ++ spB ++ joinF r) j ∧ byteAt (f ++ spB ++ joinF r) j ≤ 126
    by_cases h1 : j < f.size
    · rw [byteAt_append_l (by omega), byteAt_append_l h1]
      have := hf.2 j h1
      omega
    · by_cases h2 : j = f.size
      · rw [byteAt_append_l (by omega), byteAt_append_r (by omega), h2, Nat.sub_self]
        exact ⟨by decide, by decide⟩
      · rw [byteAt_append_r (by omega)]
        exact joinF_bytes r (fun g hg => hp g (List.mem_cons_of_mem _ hg)) _ (by omega)
theorem spl_valid {s : ByteArray} (h : validC s = true) : ∀ j, j < s.size → 32 ≤ byteAt s j ∧ byteAt s j ≤ 126 := fun j hj => by
  have := List.all_eq_true.1 h j (List.mem_range.2 hj)
  simpa using this
theorem scan_size (s : ByteArray) : ∀ k, k ≤ s.size → ∀ f ∈ (scanF s k).1, f.size ≤ s.size
  | 0, _, f, h => by simp [scanF] at h
  | k + 1, hk, f, h => by
    have ih := scan_size s k (by omega)
    simp only [scanF] at h
    split at h
    · split at h
      · rcases List.mem_append.1 h with h | h
        · exact ih f h
        · obtain rfl := List.mem_singleton.1 h
          rw [ByteArray.size_extract]; omega
      · exact ih f h
    · exact ih f h
theorem fins_size (s : ByteArray) : ∀ f ∈ fins s, f.size ≤ s.size := by
  intro f hf
  unfold fins at hf
  split at hf
  · rcases List.mem_append.1 hf with h | h
    · exact scan_size s s.size (Nat.le_refl _) f h
    · obtain rfl := List.mem_singleton.1 h
      rw [ByteArray.size_extract]; omega
  · exact scan_size s s.size (Nat.le_refl _) f hf
theorem spl_sizes {s : ByteArray} {p : List ByteArray} {b : Bool} (h : splT s = (p, b)) : ∀ f ∈ p, f.size ≤ s.size := by
  unfold splT at h
  split at h
  · obtain rfl : fins s = p := by simpa using (Prod.mk.inj h).1
    exact fins_size s
  · obtain rfl : [] = p := (Prod.mk.inj h).1
    intro f hf; simp at hf
theorem spl_none {s : ByteArray} {p : List ByteArray} (h : splT s = (p, false)) : p = [] := by
  unfold splT at h
  split at h
  · simp at h
  · exact (Prod.mk.inj h).1.symm
theorem joinF_size : ∀ (p : List ByteArray) (B : Nat), (∀ f ∈ p, f.size ≤ B) → (joinF p).size ≤ p.length * (B + 1)
  | [], B, _ => Nat.zero_le _
  | f :: r, B, h => by
    have h1 := h f (List.mem_cons_self ..)
    have h2 := joinF_size r B (fun g hg => h g (List.mem_cons_of_mem _ hg))
    show (f ++ spB ++ joinF r).size ≤ _
    rw [ByteArray.size_append, ByteArray.size_append, List.length_cons, Nat.succ_mul]
    show f.size + 1 + (joinF r).size ≤ _
    omega
theorem joinF_snoc (p : List ByteArray) (f : ByteArray) : joinF (p ++ [f]) = joinF p ++ f ++ spB := by
  induction p with
  | nil =>
    show f ++ spB ++ ⟨#[]⟩ = ⟨#[]⟩ ++ f ++ spB
    apply ByteArray.ext
    simp [ByteArray.data_append]
  | cons g r ih =>
    show g ++ spB ++ joinF (r ++ [f]) = g ++ spB ++ joinF r ++ f ++ spB
    rw [ih]
    simp [ByteArray.append_assoc]
theorem joinF_take {p : List ByteArray} {k : Nat} (h : k < p.length) : joinF (p.take (k + 1)) = joinF (p.take k) ++ p[k]'h ++ spB := by
  rw [List.take_add_one, List.getElem?_eq_getElem h]
  exact joinF_snoc _ _
theorem spl_fields {s : ByteArray} {p : List ByteArray} (h : splT s = (p, true)) : (∀ f ∈ p, fieldOk f) ∧ p.length ≤ 24 := by
  unfold splT at h
  split at h
  · rename_i h1
    unfold splOk at h1
    simp only [Bool.and_eq_true, decide_eq_true_eq] at h1
    obtain rfl : fins s = p := by simpa using h
    exact ⟨fins_fields (spl_valid h1.1.2), h1.2⟩
  · simp at h
theorem spl_join {p : List ByteArray} (hp : ∀ f ∈ p, fieldOk f) (hl : p.length ≤ 24) (h6 : (joinF p).size ≤ 600) : splT (joinF p) = (p, true) := by
  have h1 := scan_join (joinF p) p [] 0 hp rfl (by omega) (fun j _ => by rw [Nat.zero_add]) (fun i j _ _ => by rw [Nat.zero_add, Nat.zero_add])
  rw [Nat.zero_add, List.nil_append] at h1
  exact spl_yes (fins_2 h1 rfl (by omega)) hl h6 (joinF_bytes p hp)
end Go.Proofs.YtiopbdodegopdaaDoor
