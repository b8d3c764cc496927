/- Walls, plain: when a place is free; smaller places inside a free one; a tile that is no wall. -/
import Derived.Test.YtiopbdodegopdaaDoorLvLaw
import Derived.Test.YtiopbdodegopdaaDoorMvLaw
import Derived.Test.YtiopbdodegopdaaDoorStaLaw
namespace Go.Proofs.YtiopbdodegopdaaDoor
open Go.RowKit

theorem solC_free {l : List ByteArray} {r : Nat} : ∀ {n c0 : Nat}, solC l r n c0 = false → ∀ c, c0 ≤ c → c < c0 + n → bad l r c = false
  | 0, _, _, c, h1, h2 => by omega
  | n + 1, c0, h, c, h1, h2 => by
    simp only [solC] at h
    split at h
    · cases h
    · rename_i hb
      by_cases e : c = c0
      · subst e; simpa using hb
      · exact solC_free h c (by omega) (by omega)
theorem solR_free {l : List ByteArray} {c0 nc : Nat} : ∀ {n r0 : Nat}, solR l c0 nc n r0 = false → ∀ r c, r0 ≤ r → r < r0 + n → c0 ≤ c → c < c0 + nc → bad l r c = false
  | 0, _, _, r, c, h1, h2, _, _ => by omega
  | n + 1, r0, h, r, c, h1, h2, h3, h4 => by
    simp only [solR] at h
    split at h
    · cases h
    · rename_i hb
      by_cases e : r = r0
      · subst e; exact solC_free (by simpa using hb) c h3 h4
      · exact solR_free h r c (by omega) (by omega) h3 h4
theorem solC_mk {l : List ByteArray} {r : Nat} : ∀ {n c0 : Nat}, (∀ c, c0 ≤ c → c < c0 + n → bad l r c = false) → solC l r n c0 = false
  | 0, _, _ => rfl
  | n + 1, c0, h => by
    simp only [solC]
    rw [if_neg (by rw [h c0 (Nat.le_refl _) (by omega)]; simp)]
    exact solC_mk fun c h1 h2 => h c (by omega) (by omega)
theorem solR_mk {l : List ByteArray} {c0 nc : Nat} : ∀ {n r0 : Nat}, (∀ r c, r0 ≤ r → r < r0 + n → c0 ≤ c → c < c0 + nc → bad l r c = false) → solR l c0 nc n r0 = false
  | 0, _, _ => rfl
  | n + 1, r0, h => by
    simp only [solR]
    rw [if_neg (by rw [solC_mk fun c h1 h2 => h r0 c (Nat.le_refl _) (by omega) h1 h2]; simp)]
    exact solR_mk fun r c h1 h2 h3 h4 => h r c (by omega) (by omega) h3 h4
/-- a place is free: inside the bounds, and no wall among its tiles -/
def FreeAt (l : List ByteArray) (x y size : Int) : Prop :=
  0 ≤ x ∧ x ≤ 1000 ∧ 0 ≤ y ∧ y ≤ 1000 ∧ ∀ r c : Nat, y / 16 ≤ r → (r : Int) ≤ (y + size - 1) / 16 → x / 16 ≤ c → (c : Int) ≤ (x + size - 1) / 16 → bad l r c = false
theorem free_of {l : List ByteArray} {x y size : Int} (h : solT l x y size = false) : FreeAt l x y size := by
  unfold solT at h
  split at h
  · cases h
  · rename_i h0
    refine ⟨by omega, by omega, by omega, by omega, fun r c h1 h2 h3 h4 => ?_⟩
    unfold solI at h
    exact solR_free h r c (by omega) (by unfold spanN; omega) (by omega) (by unfold spanN; omega)
theorem free_mk {l : List ByteArray} {x y size : Int} (h : FreeAt l x y size) : solT l x y size = false := by
  obtain ⟨h1, h2, h3, h4, h5⟩ := h
  rw [solT_in h1 h2 h3 h4]
  exact solR_mk fun r c a1 a2 a3 a4 => h5 r c (by omega) (by unfold spanN at a2; omega) (by omega) (by unfold spanN at a4; omega)
/-- what is free lies inside the level -/
theorem free_in {l : List ByteArray} {w : Nat} {x y size : Int} (hl : Lv l w) (hs : 1 ≤ size) (hs2 : size ≤ 16) (h : solT l x y size = false) : 0 ≤ x ∧ x ≤ 16 * (w : Int) - size ∧ 0 ≤ y ∧ y ≤ 16 * (l.length : Int) - size := by
  by_cases h0 : x < 0 ∨ y < 0 ∨ 16 * (w : Int) - size < x ∨ 16 * (l.length : Int) - size < y
  · rw [solT_out hl hs hs2 h0] at h; cases h
  · omega
theorem free_bd {l : List ByteArray} {w : Nat} {x y size : Int} (hl : Lv l w) (hs : 1 ≤ size) (hs2 : size ≤ 16) (h : solT l x y size = false) : 0 ≤ x ∧ x + size ≤ 320 ∧ 0 ≤ y ∧ y + size ≤ 192 := by
  have h1 := free_in hl hs hs2 h
  have h2 := hl.w20
  have h3 := hl.n12
  omega
/-- a smaller place inside a free one -/
theorem free_sub {l : List ByteArray} {w : Nat} {x y size dx dy s : Int} (hl : Lv l w) (hs : 1 ≤ size) (hs2 : size ≤ 16) (h : solT l x y size = false) (h1 : 0 ≤ dx) (h2 : 0 ≤ dy) (h3 : 1 ≤ s) (h4 : dx + s ≤ size) (h5 : dy + s ≤ size) : solT l (x + dx) (y + dy) s = false := by
  have hb := free_bd hl hs hs2 h
  obtain ⟨_, _, _, _, hf⟩ := free_of h
  exact free_mk ⟨by omega, by omega, by omega, by omega, fun r c a1 a2 a3 a4 => hf r c (by omega) (by omega) (by omega) (by omega)⟩
/-- inside one tile that is no wall -/
theorem free_tile {l : List ByteArray} {r c : Nat} {d s : Int} (hb : bad l r c = false) (hr : r < 60) (hc : c < 60) (h1 : 0 ≤ d) (h2 : 1 ≤ s) (h3 : d + s ≤ 16) : solT l (16 * (c : Int) + d) (16 * (r : Int) + d) s = false := by
  refine free_mk ⟨by omega, by omega, by omega, by omega, fun r' c' a1 a2 a3 a4 => ?_⟩
  obtain rfl : r' = r := by omega
  obtain rfl : c' = c := by omega
  exact hb
theorem bad_no {l : List ByteArray} {w r c : Nat} (hl : Lv l w) (hr : r < l.length) (hc : c < w) (h : byteAt (rowAt l r) c ≠ 35) : bad l r c = false := by
  unfold bad
  rw [hl.rows r hr, decide_eq_false (show ¬ l.length ≤ r by omega), decide_eq_false (show ¬ w ≤ c by omega), decide_eq_false h]
  rfl
/-- a valid level has a tile that is no wall -/
theorem goC_op {row : ByteArray} {w : Nat} {e0 : Bool} {K : List Bool → Bool → Bool} : ∀ n sn op, n ≤ w → goC row w e0 K n sn op = true → (∃ k, k < w ∧ byteAt row k ≠ 35) ∨ ∃ sn', K sn' op = true
  | 0, sn, op, _, h => .inr ⟨sn, h⟩
  | n + 1, sn, op, hn, h => by
    by_cases hw : byteAt row (w - (n + 1)) = 35
    · simp only [goC] at h
      rw [if_pos hw] at h
      exact goC_op n sn op (by omega) h
    · exact .inl ⟨w - (n + 1), by omega, hw⟩
theorem goR_op {l : List ByteArray} {w : Nat} : ∀ m sn, m ≤ l.length → goR l w m sn false = true → ∃ r k, r < l.length ∧ k < w ∧ byteAt (rowAt l r) k ≠ 35
  | 0, sn, _, h => by simp [goR] at h
  | m + 1, sn, hm, h => by
    simp only [goR] at h
    split at h
    · rcases goC_op w _ _ (Nat.le_refl _) h with ⟨k, hk, hb⟩ | ⟨sn', h'⟩
      · exact ⟨_, k, by omega, hk, hb⟩
      · exact goR_op m sn' (by omega) h'
    · cases h
theorem lv_open {l : List ByteArray} (h : lvT l = true) : ∃ r k, r < l.length ∧ k < (rowAt l 0).size ∧ byteAt (rowAt l r) k ≠ 35 := by
  by_cases h0 : 3 ≤ l.length ∧ l.length ≤ 12 ∧ 4 ≤ (rowAt l 0).size ∧ (rowAt l 0).size ≤ 20
  · obtain ⟨h1, h2, h3, h4⟩ := h0
    rw [lvT_in h1 h2 h3 h4] at h
    exact goR_op _ _ (by omega) h
  · rw [lvT_out h0] at h; cases h
/-- where a player starts -/
def okP (l : List ByteArray) (w : Nat) (z : Int × Int) : Prop := ∃ r c : Nat, r < l.length ∧ c < w ∧ byteAt (rowAt l r) c ≠ 35 ∧ z = (16 * (c : Int) + 2, 16 * (r : Int) + 2)
theorem staC_ok {l : List ByteArray} {w r : Nat} {p : Int} {K : Int → Int → Int × Int} (hr : r < l.length) (hp : p ≠ 35) (hK : ∀ x y, okP l w (x, y) → okP l w (K x y)) :
    ∀ n x y, n ≤ w → ((okP l w (x, y)) ∨ (x < 0 ∧ ((∃ k, w - n ≤ k ∧ k < w ∧ byteAt (rowAt l r) k ≠ 35) ∨ (∀ x y, x < 0 → okP l w (K x y))))) → okP l w (staC (rowAt l r) w r p K n x y)
  | 0, x, y, _, h => by
    simp only [staC]
    rcases h with h | ⟨hx, ⟨k, h1, h2, _⟩ | h⟩
    · exact hK x y h
    · omega
    · exact h x y hx
  | n + 1, x, y, hn, h => by
    simp only [staC]
    by_cases h1 : byteAt (rowAt l r) (w - (n + 1)) = p
    · rw [if_pos h1]
      exact ⟨r, w - (n + 1), hr, by omega, by omega, rfl⟩
    · rw [if_neg h1]
      by_cases h2 : byteAt (rowAt l r) (w - (n + 1)) ≠ 35 ∧ x < 0
      · rw [if_pos h2]
        exact staC_ok hr hp hK n _ _ (by omega) (.inl ⟨r, w - (n + 1), hr, by omega, h2.1, rfl⟩)
      · rw [if_neg h2]
        refine staC_ok hr hp hK n _ _ (by omega) ?_
        rcases h with h | ⟨hx, ⟨k, h3, h4, h5⟩ | h⟩
        · exact .inl h
        · refine .inr ⟨hx, .inl ⟨k, ?_, h4, h5⟩⟩
          have : k ≠ w - (n + 1) := fun e => h2 ⟨by rw [← e]; exact h5, hx⟩
          omega
        · exact .inr ⟨hx, .inr h⟩
theorem staR_ok {l : List ByteArray} {w : Nat} {p : Int} (hp : p ≠ 35) : ∀ m x y, m ≤ l.length → (okP l w (x, y) ∨ (x < 0 ∧ ∃ r k, l.length - m ≤ r ∧ r < l.length ∧ k < w ∧ byteAt (rowAt l r) k ≠ 35)) → okP l w (staR l w p m x y)
  | 0, x, y, _, h => by
    simp only [staR]
    rcases h with h | ⟨_, r, k, h1, h2, _⟩
    · exact h
    · omega
  | m + 1, x, y, hm, h => by
    simp only [staR]
    refine staC_ok (by omega) hp (fun x y h => staR_ok hp m x y (by omega) (.inl h)) w x y (Nat.le_refl _) ?_
    rcases h with h | ⟨hx, r, k, h1, h2, h3, h4⟩
    · exact .inl h
    · refine .inr ⟨hx, ?_⟩
      by_cases e : r = l.length - (m + 1)
      · exact .inl ⟨k, by omega, h3, by rw [← e]; exact h4⟩
      · exact .inr fun x y hx => staR_ok hp m x y (by omega) (.inr ⟨hx, r, k, by omega, h2, h3, h4⟩)
theorem start_ok {l : List ByteArray} {p : Int} (h : lvT l = true) (h0 : 0 ≤ p) (h1 : p ≤ 3) : okP l (rowAt l 0).size (startT l p) := by
  rw [startT_yes h0 h1 h]
  obtain ⟨r, k, h2, h3, h4⟩ := lv_open h
  exact staR_ok (by omega) _ _ _ (by omega) (.inr ⟨by omega, r, k, by omega, h2, h3, h4⟩)
theorem start_free {l : List ByteArray} {p : Int} (h : lvT l = true) (h0 : 0 ≤ p) (h1 : p ≤ 3) : solT l (startT l p).1 (startT l p).2 12 = false := by
  obtain ⟨r, c, hr, hc, hb, e⟩ := start_ok h h0 h1
  have hl := lvT_lv h
  have h2 := hl.n12
  have h3 := hl.w20
  rw [e]
  exact free_tile (bad_no hl hr hc hb) (by omega) (by omega) (by omega) (by omega) (by omega)
end Go.Proofs.YtiopbdodegopdaaDoor
