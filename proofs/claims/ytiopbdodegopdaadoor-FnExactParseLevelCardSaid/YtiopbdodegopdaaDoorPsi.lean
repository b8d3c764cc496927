/- The program's ParseLevel: strings.Split by the shelf's contract, then LevelOk. -/
import Derived.Test.YtiopbdodegopdaaDoorSpLaw
import Derived.Test.YtiopbdodegopdaaDoorShelf
import Derived.Test.YtiopbdodegopdaaDoorLvo
namespace Go.Proofs.YtiopbdodegopdaaDoor
open Go.RowKit

/-- the library's variable that strings.Index reads holds some integer -/
def Mx (w : World) : Prop := ∃ m, w.cell? ⟨1, 0, none⟩ = some (.int .i64 m)
theorem Mx.lt {w : World} (h : Mx w) : 1 < w.heap.size := by
  obtain ⟨m, h⟩ := h
  rcases Nat.lt_or_ge 1 w.heap.size with h' | h'
  · exact h'
  · simp [World.cell?, Array.getElem?_eq_none h'] at h
theorem Mx.below {w w' : World} (h : Mx w) (hb : Below w.heap.size w w') : Mx w' := by
  have hl := h.lt
  obtain ⟨m, h⟩ := h
  exact ⟨m, (hb.cell hl).trans h⟩
set_option maxRecDepth 100000 in
theorem lvok_implL {u : Value} {l : List ByteArray} (w : World) (h : At w 1 u l.length (l.map Value.string)) (hm : l.length ≤ 2000000) (hz : ∀ s ∈ l, s.size ≤ 1048576) :
    Calls Tryd.prog 19 #[.agg #[u]] w fun e w' => e = .returned (.bool (lvT l)) ∧ Below w.heap.size w w' := by
  by_cases hn : l.length ≤ 1048576
  · exact lvok_impl w h hn hz
  · obtain ⟨ao, cap, rfl, hc⟩ := h.cellS
    have HN := Lib.hid (lvT_out (l := l) (by omega))
    clear hc
    go_enter Tryd.func19, Tryd.ntmps19
    go_wp2_with fail
    go_ret
    exact ⟨ret_bool (by rw [HN.out]), (Below.refl _ _).alloc (Nat.le_refl _) _⟩
theorem rows_sz (s : ByteArray) : ∀ r ∈ rowsL s, r.size ≤ s.size := scanL_sz s (s.size + 1)
theorem rows_le (s : ByteArray) : (rowsL s).length ≤ s.size + 1 := (scanL_le s (s.size + 1)).2
theorem split_ret (s : ByteArray) (w : World) (hx : Mx w) (hs : s.size ≤ 1048576) :
    Calls Tryd.prog 32 #[.string s, .string ⟨#[47]⟩] w fun e w' => ∃ u, e = .returned u ∧ Own w' w.heap.size 1 u (rowsL s).length ((rowsL s).map Value.string) ∧ Below w.heap.size w w' := by
  obtain ⟨m, hm⟩ := hx
  refine (Tryd.strings_Split s ⟨#[47]⟩ m w (by omega) hm (by decide)).mono ?_
  rintro e w' ⟨rfl, rfl⟩
  rw [← rows_len, ← rows_split]
  have hle := rows_le s
  exact ⟨_, rfl, Own.lit _ (by simp) (by simp) (Nat.le_refl _) (by unfold maxLen; omega), (Below.refl _ _).alloc (Nat.le_refl _) _⟩
set_option maxRecDepth 100000 in
set_option maxHeartbeats 8000000 in
theorem parse_impl (s : ByteArray) (w : World) (hx : Mx w) (hs : s.size ≤ 1048576) :
    Calls Tryd.prog 13 #[.string s] w fun e w' => ∃ u, e = .returned (.tuple #[.agg #[u], .bool (parT s).2]) ∧ Own w' w.heap.size 1 u (parT s).1.length ((parT s).1.map Value.string) ∧ Below w.heap.size w w' := by
  have HNO := Lib.hid (parT_no (s := s))
  have HYES := Lib.hid (parT_yes (s := s))
  have hrs := rows_sz s
  have hrl := rows_le s
  have HSP : ∀ wx, Below w.heap.size w wx → Calls Tryd.prog 32 #[.string s, .string ⟨#[47]⟩] wx fun e w' => ∃ u, e = .returned u ∧ Own w' wx.heap.size 1 u (rowsL s).length ((rowsL s).map Value.string) ∧ Below wx.heap.size wx w' := fun wx hb => split_ret s wx (hx.below hb) hs
  generalize rowsL s = L at *
  go_enter Tryd.func13, Tryd.ntmps13
  go_upto_region 1 with (fail)
  generalize hw1 : w.alloc _ = w1
  have hb1 : Below w.heap.size w w1 := by rw [← hw1]; exact (Below.refl _ _).alloc (Nat.le_refl _) _
  have c1 : w1.cell? ⟨w.heap.size, 0, none⟩ = some (.slice none 0 0) := by rw [← hw1]; exact World.cell?_alloc_new _ _ _ 0
  have s1 : w.heap.size < w1.heap.size := by rw [← hw1]; simp
  have f1 : w1.frozen? ⟨w.heap.size, 0, none⟩ = false := by rw [← hw1]; simp [World.frozen?_alloc_at]
  clear hw1
  go_wp2_with fail
  refine (HSP _ hb1).mono ?_
  rintro e wa ⟨u, rfl, hu, ha⟩
  obtain ⟨uo, uc, rfl⟩ := hu.slice_
  have hba := hb1.trans (ha.mono hb1.size)
  have ca : wa.cell? ⟨w.heap.size, 0, none⟩ = some (.slice none 0 0) := (ha.cell s1).trans c1
  have fa : wa.frozen? ⟨w.heap.size, 0, none⟩ = false := (ha.frozen s1).trans f1
  have sa : w.heap.size < wa.heap.size := Nat.lt_of_lt_of_le s1 ha.size
  have hu := hu.mono (show w.heap.size + 1 ≤ w1.heap.size by omega)
  clear ha c1 f1 hb1 HSP s1
  go_upto_region 2 with (fail)
  generalize hwb : wa.alloc _ = wb
  have hbb : Below w.heap.size w wb := by rw [← hwb]; exact hba.alloc (Nat.le_of_lt sa) _
  have cb : wb.cell? ⟨w.heap.size, 0, none⟩ = some (.slice none 0 0) := by rw [← hwb]; exact cell_alloc_lt ca _ (by exact sa)
  have fb : wb.frozen? ⟨w.heap.size, 0, none⟩ = false := by rw [← hwb, World.frozen?_alloc_past _ _ _ (by show w.heap.size < _; omega)]; exact fa
  have cl : wb.cell? ⟨wa.heap.size, 0, none⟩ = some (.slice uo L.length uc) := by rw [← hwb]; exact World.cell?_alloc_new _ _ _ 0
  have sb : wa.heap.size < wb.heap.size := by rw [← hwb]; simp
  have hub : Own wb (w.heap.size + 1) 1 (.slice uo L.length uc) L.length (L.map Value.string) := by rw [← hwb]; exact hu.alloc _
  clear hwb hu ca fa hba
  have HLV : Calls Tryd.prog 19 #[.agg #[.slice uo L.length uc]] wb fun e w' => e = .returned (.bool (lvT L)) ∧ Below wb.heap.size wb w' := lvok_implL wb hub.at_ (by omega) (fun r hr => by have := hrs r hr; omega)
  go_wp2_with fail
  refine HLV.mono ?_
  rintro e wx ⟨rfl, hk⟩
  have d0 : wx.cell? ⟨w.heap.size, 0, none⟩ = some (.slice none 0 0) := (hk.cell (p := ⟨w.heap.size, 0, none⟩) (by show w.heap.size < _; omega)).trans cb
  have g0 : wx.frozen? ⟨w.heap.size, 0, none⟩ = false := (hk.frozen (p := ⟨w.heap.size, 0, none⟩) (by show w.heap.size < _; omega)).trans fb
  have d1 : wx.cell? ⟨wa.heap.size, 0, none⟩ = some (.slice uo L.length uc) := (hk.cell (p := ⟨wa.heap.size, 0, none⟩) (by show wa.heap.size < _; omega)).trans cl
  have hbx := hbb.trans (hk.mono hbb.size)
  have hvx := hub.belowS hk
  clear HLV hk cb fb cl sb hub hbb
  cases hok : lvT L with
  | false =>
    have HN := Lib.hid (HNO.out hok)
    obtain ⟨wn, hwn⟩ : ∃ wn, wn = wx.setCell ⟨w.heap.size, 0, none⟩ (.slice none 0 0) := ⟨_, rfl⟩
    have r0 : wn.cell? ⟨w.heap.size, 0, none⟩ = some (.slice none 0 0) := by rw [hwn]; exact World.cell?_setCell_same' _ _ _ (by rw [d0]; rfl)
    have hbn : Below w.heap.size w wn := by rw [hwn]; exact hbx.setCell (Nat.le_refl _) _
    have hxn : Own wn w.heap.size 1 (.slice none 0 0) ([] : List ByteArray).length (([] : List ByteArray).map Value.string) := Own.nil _ _ _
    have HWN := Lib.hid hwn; clear hwn
    go_wp2_with fail
    rw [← HWN.out]
    (try simp only [Exit.inBlock, Exit.then])
    refine bodyPost_ret (by simp [results, Tryd.results13, go_sem, r0]; try rfl) rfl ?_
    exact ⟨_, by rw [HN.out], by rw [HN.out]; exact hxn, hbn⟩
  | true =>
    have HN := Lib.hid (HYES.out hok)
    obtain ⟨wn, hwn⟩ : ∃ wn, wn = wx.setCell ⟨w.heap.size, 0, none⟩ (.slice uo L.length uc) := ⟨_, rfl⟩
    have r0 : wn.cell? ⟨w.heap.size, 0, none⟩ = some (.slice uo L.length uc) := by rw [hwn]; exact World.cell?_setCell_same' _ _ _ (by rw [d0]; rfl)
    have hbn : Below w.heap.size w wn := by rw [hwn]; exact hbx.setCell (Nat.le_refl _) _
    have hxn : Own wn w.heap.size 1 (.slice uo L.length uc) L.length (L.map Value.string) := by rw [hwn]; exact (hvx.mono (by omega)).other (by intro g hg; have := (hvx.ge g hg).1; show g ≠ w.heap.size; omega) _
    have HWN := Lib.hid hwn; clear hwn
    go_wp2_with fail
    rw [← HWN.out]
    (try simp only [Exit.inBlock, Exit.then])
    refine bodyPost_ret (by simp [results, Tryd.results13, go_sem, r0]; try rfl) rfl ?_
    exact ⟨_, by rw [HN.out], by rw [HN.out]; exact hxn, hbn⟩
end Go.Proofs.YtiopbdodegopdaaDoor
