/- Texts Fml in one. -/
import Derived.Test.YtiopbdodegopdaaDoorKE
import Derived.Test.YtiopbdodegopdaaDoorShelf
import Derived.Deep.RegionWith
import Derived.Deep.DeepCutAuto
import Derived.Deep.CutRange
/- FormatLevel: the program's (strings.Join) and the reference's (row by row). -/
namespace Go.Proofs.YtiopbdodegopdaaDoor
open Go.RowKit

theorem ba_ext {a b : ByteArray} (h : a.data.toList = b.data.toList) : a = b := by
  cases a; cases b
  simp only [ByteArray.mk.injEq]
  exact Array.toList_inj.1 h
def PJ (l : List ByteArray) (k : Nat) : ByteArray := ⟨(Lib.join ((l.take k).map (·.data.toList)) [47]).toArray⟩
def fmlT (l : List ByteArray) : ByteArray := if lvT l = true then PJ l l.length else ⟨#[]⟩
theorem fmlT_no {l : List ByteArray} (h : lvT l = false) : fmlT l = ⟨#[]⟩ := if_neg (by rw [h]; simp)
theorem fmlT_yes {l : List ByteArray} (h : lvT l = true) : fmlT l = PJ l l.length := if_pos h
theorem PJ_full (l : List ByteArray) : PJ l l.length = ⟨(Lib.join (l.map (·.data.toList)) [47]).toArray⟩ := by unfold PJ; rw [List.take_length]
theorem join_snoc {xs : List (List UInt8)} {y sep : List UInt8} (h : xs ≠ []) : Lib.join (xs ++ [y]) sep = Lib.join xs sep ++ sep ++ y := by
  cases xs with
  | nil => exact absurd rfl h
  | cons x r => rw [List.cons_append, Lib.join_cons, Lib.join_cons]; simp [Lib.joinTail]
theorem PJ_0 (l : List ByteArray) : PJ l 0 = ⟨#[]⟩ := rfl
theorem PJ_1 {l : List ByteArray} (h : 0 < l.length) : PJ l 1 = (⟨#[]⟩ : ByteArray) ++ rowAt l 0 := by
  cases l with
  | nil => simp at h
  | cons x r =>
    refine ba_ext ?_
    unfold PJ
    simp [Lib.join_one, rowAt, List.getD]
theorem PJ_succ {l : List ByteArray} {k : Nat} (h0 : 0 < k) (h : k < l.length) : PJ l (k + 1) = (PJ l k ++ (⟨#[47]⟩ : ByteArray)) ++ rowAt l k := by
  refine ba_ext ?_
  unfold PJ
  rw [List.take_add_one, List.getElem?_eq_getElem h, Option.toList_some, List.map_append, List.map_cons, List.map_nil, join_snoc (by
    intro e
    have := congrArg List.length e
    simp at this
    rcases this with h1 | h1
    · omega
    · rw [h1] at h; simp at h), rowAt_eq h]
  simp
theorem lens_le : ∀ (l : List ByteArray) (m : Nat), (∀ s ∈ l, s.size ≤ m) → Lib.lens (l.map (·.data.toList)) ≤ m * l.length
  | [], _, _ => by simp [Lib.lens]
  | x :: r, m, h => by
    have h1 := lens_le r m fun s hs => h s (List.mem_cons_of_mem _ hs)
    have h2 := h x (List.mem_cons_self ..)
    have h3 : x.data.toList.length = x.size := by rw [Array.length_toList]; rfl
    have h4 : Lib.lens ((x :: r).map (·.data.toList)) = x.data.toList.length + Lib.lens (r.map (·.data.toList)) := by simp [Lib.lens]
    rw [h4, h3, List.length_cons, Nat.mul_add, Nat.mul_one]
    omega
theorem join_le {l : List ByteArray} (hl : l.length ≤ 12) (hs : ∀ s ∈ l, s.size ≤ 20) : (Lib.join (l.map (·.data.toList)) [47]).length ≤ 300 := by
  cases l with
  | nil => simp [Lib.join_nil]
  | cons x r =>
    have h := lens_le (x :: r) 20 hs
    rw [List.map_cons] at h ⊢
    rw [Lib.join_length]
    simp only [List.length_cons, List.length_map, List.length_nil] at h hl ⊢
    omega
theorem lv_sz {l : List ByteArray} (h : lvT l = true) : l.length ≤ 12 ∧ ∀ s ∈ l, s.size ≤ 20 := by
  have hl := lvT_lv h
  refine ⟨hl.n12, fun s hs => ?_⟩
  obtain ⟨j, hj, rfl⟩ := List.mem_iff_getElem.1 hs
  have h1 := hl.rows j hj
  have h2 := hl.w20
  rw [← rowAt_eq hj]
  omega
theorem lv_pos {l : List ByteArray} (h : lvT l = true) : 0 < l.length := by
  have hl := lvT_lv h
  have := hl.n3
  omega
theorem PJ_le {l : List ByteArray} (hl : l.length ≤ 12) (hs : ∀ s ∈ l, s.size ≤ 20) (k : Nat) : (PJ l k).size ≤ 300 := by
  have := join_le (l := l.take k) (by rw [List.length_take]; omega) (fun s h => hs s (List.mem_of_mem_take h))
  unfold PJ
  simpa [ByteArray.size] using this
set_option maxRecDepth 100000 in
set_option maxHeartbeats 8000000 in
theorem fml_impl {u : Value} {l : List ByteArray} (w : World) (h : At w 1 u l.length (l.map Value.string)) (hm : l.length ≤ 1048576) (hz : ∀ s ∈ l, s.size ≤ 1048576) :
    Calls Tryd.prog 18 #[.agg #[u]] w fun e w' => e = .returned (.string (fmlT l)) ∧ Below w.heap.size w w' := by
  have HL : ∀ wx, Below w.heap.size w wx → Calls Tryd.prog 19 #[.agg #[u]] wx fun e w' => e = .returned (.bool (lvT l)) ∧ Below wx.heap.size wx w' := fun wx hx => lvok_impl wx (h.below hx) hm hz
  have hb1 : ∀ A : Obj, Below w.heap.size w (w.alloc A) := fun A => (Below.refl _ _).alloc (Nat.le_refl _) _
  obtain ⟨ao, cap, rfl, hc⟩ := h.cellS
  go_enter Tryd.func18, Tryd.ntmps18
  go_upto_region 1 with (fail)
  generalize hw1 : w.alloc _ = w1
  have hb1 : Below w.heap.size w w1 := by rw [← hw1]; exact (Below.refl _ _).alloc (Nat.le_refl _) _
  have c1 : w1.cell? ⟨w.heap.size, 0, none⟩ = some (.slice ao l.length cap) := by rw [← hw1]; exact World.cell?_alloc_new _ _ _ 0
  have s1 : w.heap.size < w1.heap.size := by rw [← hw1]; simp
  clear hw1
  go_wp2_with fail
  refine (HL _ hb1).mono ?_
  rintro e wa ⟨rfl, ha⟩
  have hba := hb1.trans (ha.mono hb1.size)
  have ca : wa.cell? ⟨w.heap.size, 0, none⟩ = some (.slice ao l.length cap) := (ha.cell s1).trans c1
  clear ha c1 s1 hb1 HL
  cases hlv : lvT l with
  | false =>
    have HN := Lib.hid (fmlT_no hlv)
    clear hlv
    go_wp2_with fail
    go_ret
    exact ⟨by rw [HN.out]; rfl, hba⟩
  | true =>
  have HN := Lib.hid (fmlT_yes hlv)
  obtain ⟨hl12, hl20⟩ := lv_sz hlv
  have hl0 := lv_pos hlv
  obtain ⟨g, off, rfl, hg, hcell⟩ := hc hl0
  have hcap : l.length ≤ cap := by
    obtain ⟨_, ao', cap', he, hnc, _⟩ := h
    simp only [Value.slice.injEq] at he
    omega
  have HJ := Tryd.strings_Join g off cap l ⟨#[47]⟩ wa (fun j x hx => by
    obtain ⟨hj, rfl⟩ := List.getElem?_eq_some_iff.1 hx
    exact (hba.cell hg).trans (hcell j hj)) (Nat.lt_of_lt_of_le hg hba.size) (by omega) hcap (by have := join_le hl12 hl20; show (Lib.join (l.map (·.data.toList)) [47]).length ≤ _; omega)
  clear hcell hlv hc h hz
  go_wp2_with fail
  refine HJ.mono ?_
  rintro e wb ⟨rfl, hb⟩
  have hbb := hba.trans (hb.mono hba.size)
  go_wp2_with fail
  go_ret
  exact ⟨by rw [HN.out, PJ_full]; rfl, hbb⟩
end Go.Proofs.YtiopbdodegopdaaDoor
