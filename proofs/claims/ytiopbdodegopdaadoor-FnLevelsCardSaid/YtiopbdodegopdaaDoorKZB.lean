/- Texts Lvp in one. -/
import Derived.Test.YtiopbdodegopdaaDoorKE
import Derived.Test.YtiopbdodegopdaaDoorKE1
import Derived.Test.YtiopbdodegopdaaDoorKK
import Derived.Test.YtiopbdodegopdaaDoorKX
import Derived.Test.YtiopbdodegopdaaDoorKZA
/- For FnLevels: the drawn levels are formatted and parsed again; their starts and spots are free; sameTexts and get of the laws. -/
namespace Go.Proofs.YtiopbdodegopdaaDoor
open Go.RowKit

theorem lvQ_text : ∀ r ∈ lvQ, parT (fmlT r) = (r, true) := by
  intro r hr
  have hok := lvQ_ok r hr
  have e : rowsL (fmlT r) = r := by
    rw [fmlT_yes hok]
    clear hok
    simp only [lvQ, List.mem_cons, List.not_mem_nil, or_false] at hr
    rcases hr with rfl | rfl | rfl | rfl | rfl <;> decide +kernel
  rw [parT_yes (by rw [e]; exact hok), e]
theorem lvQ_len : ∀ r ∈ lvQ, (fmlT r).size ≤ 300 := by
  intro r hr
  obtain ⟨h1, h2⟩ := lv_sz (lvQ_ok r hr)
  rw [fmlT_yes (lvQ_ok r hr)]
  exact PJ_le h1 h2 _
theorem lvQ_corner : ∀ r ∈ lvQ, solA r 0 0 1 = true := by
  intro r hr
  rw [solA_yes (by omega) (by omega) (lvQ_ok r hr)]
  simp only [lvQ, List.mem_cons, List.not_mem_nil, or_false] at hr
  rcases hr with rfl | rfl | rfl | rfl | rfl <;> decide +kernel
theorem spC_mem {row : ByteArray} {r : Nat} {p : Int × Int} : ∀ {n}, p ∈ spC row r n → ∃ c, c < n ∧ byteAt row c = 111 ∧ p = (16 * (c : Int) + 4, 16 * (r : Int) + 4)
  | 0, h => by simp [spC] at h
  | n + 1, h => by
    simp only [spC] at h
    rcases List.mem_append.1 h with h | h
    · obtain ⟨c, h1, h2⟩ := spC_mem h
      exact ⟨c, by omega, h2⟩
    · split at h
      · rename_i h1
        exact ⟨n, by omega, h1, by simpa using h⟩
      · simp at h
theorem spR_mem {l : List ByteArray} {p : Int × Int} : ∀ {n}, p ∈ spR l n → ∃ r c, r < n ∧ c < (rowAt l r).size ∧ byteAt (rowAt l r) c = 111 ∧ p = (16 * (c : Int) + 4, 16 * (r : Int) + 4)
  | 0, h => by simp [spR] at h
  | n + 1, h => by
    simp only [spR] at h
    rcases List.mem_append.1 h with h | h
    · obtain ⟨r, c, h1, h2⟩ := spR_mem h
      exact ⟨r, c, by omega, h2⟩
    · obtain ⟨c, h1, h2⟩ := spC_mem h
      exact ⟨n, c, by omega, h1, h2⟩
theorem spots_free {l : List ByteArray} (h : lvT l = true) {p : Int × Int} (hp : p ∈ spotsT l) : solT l p.1 p.2 8 = false := by
  unfold spotsT at hp
  rw [if_pos h] at hp
  obtain ⟨r, c, h1, h2, h3, rfl⟩ := spR_mem hp
  have hl := lvT_lv h
  have h4 := hl.rows r h1
  have h5 := hl.n12
  have h6 := hl.w20
  exact free_tile (bad_no hl h1 (by omega) (by omega)) (by omega) (by omega) (by omega) (by omega) (by omega)
/-- a spot of a level: its two numbers, and that they are free -/
theorem spL_at {l : List ByteArray} (h : lvT l = true) {k : Nat} (hk : k < (spL (spotsT l)).length) : ∃ x y : Int, lAt (spL (spotsT l)) k = [x, y] ∧ solA l x y 8 = false ∧ (0 ≤ x ∧ x ≤ 320) ∧ (0 ≤ y ∧ y ≤ 320) := by
  rw [spL_len] at hk
  have hm := List.getElem_mem hk
  have hf := spots_free h hm
  have hb := free_bd (lvT_lv h) (by omega) (by omega) hf
  refine ⟨(spotsT l)[k].1, (spotsT l)[k].2, ?_, by rw [solA_yes (by omega) (by omega) h]; exact hf, by omega, by omega⟩
  unfold lAt spL List.getD
  rw [List.getElem?_map, List.getElem?_eq_getElem hk]
  rfl
theorem start_at {l : List ByteArray} (h : lvT l = true) {k : Nat} (hk : k < 4) : ∃ x y : Int, startT l (k : Int) = (x, y) ∧ solA l x y 12 = false ∧ (0 ≤ x ∧ x ≤ 320) ∧ (0 ≤ y ∧ y ≤ 320) := by
  have hf := start_free h (p := (k : Int)) (by omega) (by omega)
  have hb := free_bd (lvT_lv h) (by omega) (by omega) hf
  exact ⟨(startT l (k : Int)).1, (startT l (k : Int)).2, rfl, by rw [solA_yes (by omega) (by omega) h]; exact hf, by omega, by omega⟩
set_option maxHeartbeats 400000 in
theorem same_ret {va vb : Value} {l : List ByteArray} (w : World) (ha : At w 1 va l.length (l.map Value.string)) (hb : At w 1 vb l.length (l.map Value.string)) (hm : l.length ≤ 1099511627776) :
    Calls Tryd.prog 11 #[va, vb] w fun e w' => e = .returned (.bool true) ∧ ∃ k, w' = w.drewN k := by
  obtain ⟨ao, cap, rfl, hca⟩ := ha.cellS
  obtain ⟨bo, cap2, rfl, hcb⟩ := hb.cellS
  go_enter Tryd.func11, Tryd.ntmps11
  go_wp2
  go_loopw [5] (fun i wr => ∃ k : Nat, k ≤ l.length ∧ i = .int .i64 k ∧ ∃ d, wr = w.drewN d) (fun i _ => l.length - (intOf i).toNat)
  case atStart => exact ⟨0, Nat.zero_le _, rfl, 0, rfl⟩
  case round =>
    obtain ⟨k, hk, rfl, d, rfl⟩ := hrel
    by_cases hlt : k < l.length
    · obtain ⟨g, off, rfl, hg, hcell⟩ := hca (by omega)
      obtain ⟨g2, off2, rfl, hg2, hcell2⟩ := hcb (by omega)
      clear hca hcb
      have c1 := hcell k hlt
      have c2 := hcell2 k hlt
      clear hcell hcell2
      go_wp2
      go_region
      go_wp2
      go_roundw
      case rel => exact ⟨k + 1, by omega, by go_num, d + 1, rfl⟩
      case measure => simp [intOf]; omega
    · go_wp2
      go_ret
      exact ⟨rfl, d, rfl⟩
theorem get_ret {v : Value} {l : List Int} (k : Nat) (w : World) (h : At w 1 v l.length (ints l)) (hk : k < l.length) (hm : l.length ≤ 1000000) :
    Calls Tryd.prog 24 #[v, .int .i64 (k : Int)] w fun e w' => e = .returned (.int .i64 (l[k]'hk)) ∧ w = w' := by
  obtain ⟨_, ao, cap, rfl, hn, hc1, hc⟩ := h
  obtain ⟨g, off, rfl, hg, hcell⟩ := hc (by omega)
  have c0 : w.cell? ⟨g, off + k, none⟩ = some (.int .i64 (l[k]'hk)) := by
    rw [hcell k (by omega)]
    unfold ints
    rw [List.getElem?_map, List.getElem?_eq_getElem hk]
    rfl
  generalize l[k]'hk = z at *
  have x1 : decide ((k : Int) < 0) = false := decide_eq_false (by omega)
  have x2 : decide ((k : Int) ≥ (l.length : Int)) = false := decide_eq_false (by omega)
  clear hc hcell hc1
  go_enter Tryd.func24, Tryd.ntmps24
  go_wp2
  go_ret
  exact ⟨rfl, rfl⟩
end Go.Proofs.YtiopbdodegopdaaDoor
