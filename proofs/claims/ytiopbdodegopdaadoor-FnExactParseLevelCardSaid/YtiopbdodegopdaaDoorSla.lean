/- SolidAt: the program's and the reference's. -/
import Derived.Test.YtiopbdodegopdaaDoorSol
import Derived.Test.YtiopbdodegopdaaDoorLvo
namespace Go.Proofs.YtiopbdodegopdaaDoor
open Go.RowKit

set_option maxHeartbeats 2000000 in
theorem solat_impl {u : Value} {l : List ByteArray} (x y size : Int) (w : World) (h : At w 1 u l.length (l.map Value.string)) (hm : l.length ≤ 1048576) (hz : ∀ s ∈ l, s.size ≤ 1048576) (hx : -9223372036854775808 ≤ x ∧ x ≤ 9223372036854775807) (hy : -9223372036854775808 ≤ y ∧ y ≤ 9223372036854775807) :
    Calls Tryd.prog 21 #[.agg #[u], .int .i64 x, .int .i64 y, .int .i64 size] w fun e w' => e = .returned (.bool (solA l x y size)) ∧ Below w.heap.size w w' := by
  have hb1 : ∀ A : Obj, Below w.heap.size w (w.alloc A) := fun A => (Below.refl _ _).alloc (Nat.le_refl _) _
  have hs1 : ∀ A : Obj, (w.alloc A).heap.size = w.heap.size + 1 := fun A => by simp
  by_cases hsz : size < 1 ∨ 16 < size
  · have HN := Lib.hid (solA_no (l := l) (x := x) (y := y) (size := size) (by omega))
    rcases (show size < 1 ∨ (1 ≤ size ∧ 16 < size) by omega) with h1 | ⟨h1, h2⟩
    all_goals
      clear hsz
      go_enter Tryd.func21, Tryd.ntmps21
      go_wp2_with fail
      go_ret
      exact ⟨ret_bool (by rw [HN.out]), hb1 _⟩
  have h1 : 1 ≤ size := by omega
  have h2 : size ≤ 16 := by omega
  clear hsz
  have HL : ∀ wx, Below w.heap.size w wx → Calls Tryd.prog 19 #[.agg #[u]] wx fun e w' => e = .returned (.bool (lvT l)) ∧ Below wx.heap.size wx w' := fun wx hx => lvok_impl wx (h.below hx) hm hz
  cases hv : lvT l with
  | false =>
    rw [hv] at HL
    have HN := Lib.hid (solA_no (l := l) (x := x) (y := y) (size := size) (by rw [hv]; simp))
    clear hv
    go_enter Tryd.func21, Tryd.ntmps21
    go_wp2_with fail
    refine (HL _ (hb1 _)).mono ?_
    rintro e wa ⟨rfl, ha⟩
    go_wp2_with fail
    go_ret
    exact ⟨ret_bool (by rw [HN.out]), (hb1 _).trans (ha.mono (by simp))⟩
  | true =>
    rw [hv] at HL
    have HN := Lib.hid (solA_yes (x := x) (y := y) h1 h2 hv)
    have HS : ∀ wx, Below w.heap.size w wx → Calls Tryd.prog 40 #[.agg #[u], .int .i64 x, .int .i64 y, .int .i64 size] wx fun e w' => e = .returned (.bool (solT l x y size)) ∧ Below wx.heap.size wx w' := fun wx hbx => solid_impl x y size wx (h.below hbx) hv h1 h2 hx.1 hx.2 hy.1 hy.2
    clear hv
    go_enter Tryd.func21, Tryd.ntmps21
    go_wp2_with fail
    refine (HL _ (hb1 _)).mono ?_
    rintro e wa ⟨rfl, ha⟩
    have hba : Below w.heap.size w wa := (hb1 _).trans (ha.mono (by simp))
    have ca : wa.cell? ⟨w.heap.size, 0, none⟩ = some u := (ha.cell (by simp)).trans (World.cell?_alloc_new w _ _ 0)
    go_wp2_with fail
    refine (HS _ hba).mono ?_
    rintro e wb ⟨rfl, hb⟩
    go_wp2_with fail
    go_ret
    exact ⟨ret_bool (by rw [HN.out]), hba.trans (hb.mono hba.size)⟩
end Go.Proofs.YtiopbdodegopdaaDoor
