/- Texts Spt in one. -/
import Derived.Test.YtiopbdodegopdaaDoorKB
import Derived.Test.YtiopbdodegopdaaDoorKE
import Derived.Test.YtiopbdodegopdaaDoorKG
import Derived.Deep.DeepCutAuto
import Derived.Deep.CutRange
/- SpotsOf, the program's and the reference's. -/
namespace Go.Proofs.YtiopbdodegopdaaDoor
open Go.RowKit

def spL (l : List (Int × Int)) : List (List Int) := l.map fun p => [p.1, p.2]
theorem spL_len (l : List (Int × Int)) : (spL l).length = l.length := by simp [spL]
theorem spL_app (l r : List (Int × Int)) : spL (l ++ r) = spL l ++ spL r := by simp [spL]
/-- the spots ahead of column c of row r -/
def spUp (l : List ByteArray) (r c : Nat) : List (List Int) := spL (spR l r ++ spC (rowAt l r) r c)
theorem spUp_0 (l : List ByteArray) : spUp l 0 0 = [] := rfl
theorem spUp_next (l : List ByteArray) (r : Nat) : spUp l r (rowAt l r).size = spUp l (r + 1) 0 := by
  unfold spUp
  simp only [spR, spC, List.append_nil]
theorem spUp_yes {l : List ByteArray} {r c : Nat} (h : byteAt (rowAt l r) c = 111) : spUp l r (c + 1) = spUp l r c ++ [[16 * (c : Int) + 4, 16 * (r : Int) + 4]] := by
  unfold spUp
  simp only [spC, if_pos h, spL_app, List.append_assoc]
  rfl
theorem spUp_no {l : List ByteArray} {r c : Nat} (h : byteAt (rowAt l r) c ≠ 111) : spUp l r (c + 1) = spUp l r c := by
  unfold spUp
  simp only [spC, if_neg h, List.append_nil]
theorem spUp_end {l : List ByteArray} (h : lvT l = true) : spUp l l.length 0 = spL (spotsT l) := by
  unfold spUp spotsT
  rw [if_pos h]
  simp only [spC, List.append_nil]
theorem spUp_len {l : List ByteArray} {w : Nat} (hl : Lv l w) {r c : Nat} (hr : r < l.length) (hc : c ≤ w) : (spUp l r c).length ≤ 300 := by
  unfold spUp
  rw [spL_len, List.length_append]
  have h1 := spR_len hl r (by omega)
  have h2 := spC_len (rowAt l r) r c
  have h3 := hl.n12
  have h4 := hl.w20
  have : r * w ≤ 12 * 20 := Nat.mul_le_mul (by omega) (by omega)
  omega
set_option maxRecDepth 100000 in
set_option maxHeartbeats 8000000 in
theorem spots_impl {u : Value} {l : List ByteArray} (w : World) (h : At w 1 u l.length (l.map Value.string)) (hm : l.length ≤ 1048576) (hz : ∀ s ∈ l, s.size ≤ 1048576) :
    Calls Tryd.prog 23 #[.agg #[u]] w fun e w' => ∃ v us, e = .returned v ∧ OwnSS w' w.heap.size v us (spL (spotsT l)) ∧ Below w.heap.size w w' := by
  have HL : ∀ wx, Below w.heap.size w wx → Calls Tryd.prog 19 #[.agg #[u]] wx fun e w' => e = .returned (.bool (lvT l)) ∧ Below wx.heap.size wx w' := fun wx hx => lvok_impl wx (h.below hx) hm hz
  obtain ⟨ao, cap, rfl, hc⟩ := h.cellS
  go_enter Tryd.func23, Tryd.ntmps23
  go_wp2_with fail
  generalize hw1 : w.alloc _ = w1
  have hb1 : Below w.heap.size w w1 := by rw [← hw1]; exact (Below.refl _ _).alloc (Nat.le_refl _) _
  have c1 : w1.cell? ⟨w.heap.size, 0, none⟩ = some (.slice ao l.length cap) := by rw [← hw1]; exact World.cell?_alloc_new _ _ _ 0
  have s1 : w.heap.size < w1.heap.size := by rw [← hw1]; simp
  clear hw1
  refine (HL _ hb1).mono ?_
  rintro e wa ⟨rfl, ha⟩
  have hba := hb1.trans (ha.mono hb1.size)
  have ca : wa.cell? ⟨w.heap.size, 0, none⟩ = some (.slice ao l.length cap) := (ha.cell (by show w.heap.size < _; omega)).trans c1
  have sa : w.heap.size < wa.heap.size := by have := ha.size; omega
  clear ha hb1 c1 s1 HL
  cases hlv : lvT l with
  | false =>
    have HN : Hid (spotsT l = []) := Lib.hid (if_neg (by rw [hlv]; simp))
    clear hlv
    go_wp2_with fail
    go_ret
    exact ⟨nilV, [], rfl, by rw [HN.out]; exact OwnSS.nil _ _, hba⟩
  | true =>
  have HLV := Lib.hid (lvT_lv hlv)
  have HE := Lib.hid (spUp_end hlv)
  clear hlv
  go_wp2_with fail
  go_loopw [3, 13] (fun v i wx => ∃ (r : Nat) (us : List Value), r ≤ l.length ∧ i = .int .i64 r ∧ OwnSS wx w.heap.size v us (spUp l r 0) ∧ Below w.heap.size w wx ∧ w.heap.size < wx.heap.size) (fun _ i _ => l.length - (intOf i).toNat)
  case atStart => exact ⟨0, [], Nat.zero_le _, rfl, OwnSS.nil _ _, hba, sa⟩
  case round =>
    obtain ⟨r, us, hr, rfl, hO, hbl, hsz⟩ := hrel
    by_cases hr0 : ¬ r < l.length
    · obtain rfl : r = l.length := by omega
      rw [HE.out] at hO
      obtain ⟨vo, vc, rfl⟩ := hO.o.slice_
      go_wp2_with fail
      go_ret
      exact ⟨_, us, rfl, hO, hbl⟩
    have hr1 : r < l.length := by omega
    clear hr0
    obtain ⟨g, off, rfl, hg, hcell⟩ := hc (by omega)
    have cr : wr.cell? ⟨g, off + r, none⟩ = some (.string (rowAt l r)) := (hbl.cell hg).trans (by rw [rowAt_eq hr1]; exact hcell r hr1)
    have HNX := Lib.hid (spUp_next l r)
    have HY := Lib.hid (fun c => spUp_yes (l := l) (r := r) (c := c))
    have HNN := Lib.hid (fun c => spUp_no (l := l) (r := r) (c := c))
    have hrs := HLV.out.rows r hr1
    have HLEN := Lib.hid (fun c (hc : c ≤ (rowAt l r).size) => spUp_len HLV.out (c := c) hr1 (by omega))
    have hw20 : (rowAt l r).size ≤ 20 := by have := HLV.out.w20; omega
    have hr12 : r ≤ 12 := by have := HLV.out.n12; omega
    generalize hsp : spUp l r = sp at *
    obtain ⟨row, hrw⟩ : ∃ x, rowAt l r = x := ⟨_, rfl⟩
    rw [hrw] at cr HNX HY HNN HLEN hw20
    clear hrw hrs hcell hsp

    go_wp2_with fail
    go_loopw [3, 6] (fun v i wx => ∃ (k : Nat) (us : List Value), k ≤ row.size ∧ i = .int .i64 k ∧ OwnSS wx w.heap.size v us (sp k) ∧ Below w.heap.size w wx ∧ w.heap.size < wx.heap.size) (fun _ i _ => row.size - (intOf i).toNat)
    case atStart => exact ⟨0, us, Nat.zero_le _, rfl, hO, hbl, hsz⟩
    case round =>
      clear hO hbl hsz cr us
      obtain ⟨k, us, hk, rfl, hO, hbl, hsz⟩ := hrel

      by_cases hk0 : ¬ k < row.size
      · obtain rfl : k = row.size := by omega
        rw [HNX.out] at hO
        go_wp2_with fail
        go_roundw
        case rel => exact ⟨r + 1, us, by omega, by go_num, hO, hbl, hsz⟩
        case measure => simp [intOf]; omega
      have hk1 : k < row.size := by omega
      clear hk0
      have HB := Lib.hid (byteAt_eq hk1)
      by_cases h1 : byteAt row k = 111
      · have HN := Lib.hid (HY.out k h1)
        have e1 : ((row[k]'hk1).toNat : Int) = 111 := by rw [← HB.out]; exact h1
        have x1 : (((row[k]'hk1).toNat : Int) == 111) = true := beq_iff_eq.2 e1
        have hul : us.length ≤ 300 := by rw [hO.n]; exact HLEN.out k hk
        clear h1 e1
        go_upto_region 11 with (fail)
        have hus := hO.o
        obtain ⟨vo, vc, rfl⟩ := hus.slice_
        have hW : Below wr.heap.size wr (wr.alloc (.cells #[.int .i64 ((k : Int) * 16 + 4), .int .i64 ((r : Int) * 16 + 4)] 3)) := (Below.refl _ _).alloc (Nat.le_refl _) _
        have hX : Own (wr.alloc (.cells #[.int .i64 ((k : Int) * 16 + 4), .int .i64 ((r : Int) * 16 + 4)] 3)) w.heap.size 1 (.slice (some ⟨wr.heap.size, 0, none⟩) 2 2) 2 (ints [(k : Int) * 16 + 4, (r : Int) * 16 + 4]) := Own.lit 3 rfl rfl (by omega) (by unfold maxLen; omega)
        go_wp2_with (with_reducible refine app_ss (o := ⟨some 37, _, _, _, _, _⟩) _ _ rfl rfl _ _ rfl w.heap.size (hus.alloc _) rfl (wr.heap.size + 1) (by simp) rfl (by omega) (by simp; omega) ?_)
        intro v' w' h1 h2 h3
        have hO' := hO.snoc (l := [(k : Int) * 16 + 4, (r : Int) * 16 + 4]) hW hX (fun g hg => by simp only [Value.ownBlock, Option.some.injEq] at hg; omega) h1 h2 (by simpa using h3)
        have hb' := (hbl.trans (hW.mono (by omega))).trans ((Below.refl w.heap.size _).grown h2 (by simp; omega) (fun k hk => (hus.ge k hk).1))
        have hs' := h2.size
        rw [World.size_alloc] at hs'
        have hE : sp (k + 1) = sp k ++ [[(k : Int) * 16 + 4, (r : Int) * 16 + 4]] := by rw [HN.out, show 16 * (k : Int) = (k : Int) * 16 by omega, show 16 * (r : Int) = (r : Int) * 16 by omega]
        have HEE := Lib.hid hE
        clear hE h1 h2 h3 hO hbl hX hW hus
        go_wp2_with fail
        go_roundw
        case rel => exact ⟨k + 1, _, by omega, by go_num, by rw [HEE.out]; exact hO', hb', by omega⟩
        case measure => simp [intOf]; omega
      · have HN := Lib.hid (HNN.out k h1)
        have e1 : ((row[k]'hk1).toNat : Int) ≠ 111 := fun e => h1 (by rw [HB.out]; exact e)
        have x1 : (((row[k]'hk1).toNat : Int) == 111) = false := beq_eq_false_iff_ne.2 e1
        clear h1 e1
        go_wp2_with fail
        go_roundw
        case rel => exact ⟨k + 1, us, by omega, by go_num, by rw [HN.out]; exact hO, hbl, hsz⟩
        case measure => simp [intOf]; omega
end Go.Proofs.YtiopbdodegopdaaDoor
