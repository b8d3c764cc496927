/- SpotsOf, the reference's. -/
import Derived.Test.YtkcknikaidbeoaaSpt
namespace Go.Proofs.Ytkcknikaidbeoaa
open Go.RowKit

/-- the value's own block is not block b -/
def SafeA (_ : World) (v : Value) (b : Nat) : Prop := v.ownBlock ≠ some b
set_option maxRecDepth 100000 in
set_option maxHeartbeats 8000000 in
theorem spots_spec {u : Value} {l : List ByteArray} (w : World) (h : At w 1 u l.length (l.map Value.string)) (hm : l.length ≤ 1048576) (hz : ∀ s ∈ l, s.size ≤ 1048576) :
    Calls Try.prog 35 #[.agg #[u]] w fun e w' => ∃ v us, e = .returned v ∧ OwnSS w' w.heap.size v us (spL (spotsT l)) ∧ Below w.heap.size w w' := by
  have HL : ∀ wx, Below w.heap.size w wx → Calls Try.prog 25 #[.agg #[u]] wx fun e w' => e = .returned (.bool (lvT l)) ∧ Below wx.heap.size wx w' := fun wx hx => lvok_spec wx (h.below hx) hm hz
  obtain ⟨ao, cap, rfl, hc⟩ := h.cellS
  go_enter Try.func35, Try.ntmps35
  go_upto_region 2 with (fail)
  generalize hw1 : (w.alloc _).alloc _ = w1
  have hb1 : Below w.heap.size w w1 := by rw [← hw1]; exact ((Below.refl _ _).alloc (Nat.le_refl _) _).alloc (by simp) _
  have c1 : w1.cell? ⟨w.heap.size, 0, none⟩ = some (.slice ao l.length cap) := by rw [← hw1]; exact cell_alloc_lt (World.cell?_alloc_new _ _ _ 0) _ (by simp)
  have s1 : w.heap.size < w1.heap.size := by rw [← hw1]; simp; omega
  have o1 : Own w1 w.heap.size 1 (.slice (some ⟨w.heap.size + 1, 0, none⟩) 0 0) 0 [] := by
    rw [← hw1]
    have := Own.lit (w := w.alloc (.cells #[.slice ao l.length cap] 27)) (base := w.heap.size) (sz := 1) (n := 0) (C := #[]) (cs := []) 42 rfl rfl (by simp) (by unfold maxLen; omega)
    rwa [show (w.alloc (.cells #[.slice ao l.length cap] 27)).heap.size = w.heap.size + 1 by simp] at this
  have hO1 : OwnSS w1 w.heap.size (.slice (some ⟨w.heap.size + 1, 0, none⟩) 0 0) [] (spUp l 0 0) := ⟨o1, rfl, fun _ h => absurd h (Nat.not_lt_zero _), fun _ _ h => absurd h (Nat.not_lt_zero _), fun _ h => absurd h (Nat.not_lt_zero _)⟩
  clear hw1 o1
  cases hlv : lvT l with
  | false =>
    have HN : Hid (spotsT l = []) := Lib.hid (if_neg (by rw [hlv]; simp))
    by_cases h0 : 0 < l.length
    · go_wp2_with fail
      go_loopw [3, 4] (fun v i wx => i = .int .i64 0 ∧ wx = w1 ∧ v = .slice (some ⟨w.heap.size + 1, 0, none⟩) 0 0) (fun _ _ _ => 0)
      case atStart => exact ⟨rfl, rfl, rfl⟩
      case round =>
        obtain ⟨rfl, rfl, rfl⟩ := hrel
        go_wp2_with fail
        refine (HL _ hb1).mono ?_
        rintro e wa ⟨rfl, ha⟩
        have hba := hb1.trans (ha.mono hb1.size)
        have hOa := hO1.belowS ha
        rw [hlv]
        clear hlv
        go_wp2_with fail
        go_ret
        exact ⟨_, [], rfl, by rw [HN.out]; exact hOa, hba⟩
    · have h00 : l.length = 0 := by omega
      rw [h00] at c1
      clear hlv
      go_wp2_with fail
      go_loopw [3, 4] (fun v i wx => i = .int .i64 0 ∧ wx = w1 ∧ v = .slice (some ⟨w.heap.size + 1, 0, none⟩) 0 0) (fun _ _ _ => 0)
      case atStart => exact ⟨rfl, rfl, rfl⟩
      case round =>
        obtain ⟨rfl, rfl, rfl⟩ := hrel
        go_wp2_with fail
        go_ret
        exact ⟨_, [], rfl, by rw [HN.out]; exact hO1, hb1⟩
  | true =>
  have HLV := Lib.hid (lvT_lv hlv)
  have HE := Lib.hid (spUp_end hlv)
  rw [hlv] at HL
  clear hlv
  go_wp2_with fail
  go_loopw [3, 4] (fun v i wx => ∃ (r : Nat) (us : List Value), r ≤ l.length ∧ i = .int .i64 r ∧ OwnSS wx w.heap.size v us (spUp l r 0) ∧ Below w.heap.size w wx ∧ w.heap.size < wx.heap.size ∧ wx.cell? ⟨w.heap.size, 0, none⟩ = some (.slice ao l.length cap) ∧ SafeA wx v w.heap.size) (fun _ i _ => l.length - (intOf i).toNat)
  case atStart => exact ⟨0, [], Nat.zero_le _, rfl, hO1, hb1, s1, c1, by unfold SafeA; simp [Value.ownBlock]⟩
  case round =>
    clear c1 hO1 hb1 s1
    obtain ⟨r, us, hr, rfl, hO, hbl, hsz, cL, hsf⟩ := hrel
    by_cases hr0 : ¬ r < l.length
    · obtain rfl : r = l.length := by omega
      rw [HE.out] at hO
      obtain ⟨vo, vc, rfl⟩ := hO.o.slice_
      go_wp2_with fail
      go_ret
      exact ⟨_, us, rfl, hO, hbl⟩
    have hr1 : r < l.length := by omega
    clear hr0
    go_wp2_with fail
    refine (HL _ hbl).mono ?_
    rintro e wz ⟨rfl, ha⟩
    have hO2 := hO.belowS ha
    have hbl2 := hbl.trans (ha.mono hbl.size)
    have cL2 : wz.cell? ⟨w.heap.size, 0, none⟩ = some (.slice ao l.length cap) := (ha.cell hsz).trans cL
    have hsz2 : w.heap.size < wz.heap.size := by have := ha.size; omega
    clear hO hbl cL hsz ha
    obtain ⟨g, off, rfl, hg, hcell⟩ := hc (by omega)
    have HCR := Lib.hid (show w.cell? ⟨g, off + r, none⟩ = some (.string (rowAt l r)) by rw [rowAt_eq hr1]; exact hcell r hr1)
    have HNX := Lib.hid (spUp_next l r)
    have HY := Lib.hid (fun c => spUp_yes (l := l) (r := r) (c := c))
    have HNN := Lib.hid (fun c => spUp_no (l := l) (r := r) (c := c))
    have hrs := HLV.out.rows r hr1
    have HLEN := Lib.hid (fun c (hc : c ≤ (rowAt l r).size) => spUp_len HLV.out (c := c) hr1 (by omega))
    have hw20 : (rowAt l r).size ≤ 20 := by have := HLV.out.w20; omega
    have hr12 : r ≤ 12 := by have := HLV.out.n12; omega
    generalize hsp : spUp l r = sp at *
    obtain ⟨row, hrw⟩ : ∃ x, rowAt l r = x := ⟨_, rfl⟩
    rw [hrw] at HCR HNX HY HNN HLEN hw20
    clear hrw hrs hcell hsp
    go_wp2_with fail
    go_loopw [3, 5] (fun v i wx => ∃ (k : Nat) (us : List Value), k ≤ row.size ∧ i = .int .i64 k ∧ OwnSS wx w.heap.size v us (sp k) ∧ Below w.heap.size w wx ∧ w.heap.size < wx.heap.size ∧ wx.cell? ⟨w.heap.size, 0, none⟩ = some (.slice (some ⟨g, off, none⟩) l.length cap) ∧ SafeA wx v w.heap.size) (fun _ i _ => row.size - (intOf i).toNat)
    case atStart => exact ⟨0, us, Nat.zero_le _, rfl, hO2, hbl2, hsz2, cL2, hsf⟩
    case round =>
      clear hO2 hbl2 hsz2 cL2 hsf us
      obtain ⟨k, us, hk, rfl, hO, hbl, hsz, cL, hsf⟩ := hrel
      have cr := (hbl.cell hg).trans HCR.out
      by_cases hk0 : ¬ k < row.size
      · obtain rfl : k = row.size := by omega
        rw [HNX.out] at hO
        go_wp2_with fail
        go_roundw
        case rel => exact ⟨r + 1, us, by omega, by go_num, hO, hbl, hsz, cL, hsf⟩
        case measure => simp [intOf]; omega
      have hk1 : k < row.size := by omega
      clear hk0
      have HB := Lib.hid (byteAt_eq hk1)
      by_cases h1 : byteAt row k = 111
      · have HN := Lib.hid (HY.out k h1)
        have e1 : ((row[k]'hk1).toNat : Int) = 111 := by rw [← HB.out]; exact h1
        have x1 : (((row[k]'hk1).toNat : Int) == 111) = true := beq_iff_eq.2 e1
        have hul : us.length ≤ 300 := by rw [hO.n]; exact HLEN.out k hk
        clear h1 e1
        go_upto_region 9 with (fail)
        have hus := hO.o
        obtain ⟨vo, vc, rfl⟩ := hus.slice_
        clear cr
        have hW : Below wr.heap.size wr (wr.alloc (.cells #[.int .i64 (16 * (k : Int) + 4), .int .i64 (16 * (r : Int) + 4)] 3)) := (Below.refl _ _).alloc (Nat.le_refl _) _
        have hX : Own (wr.alloc (.cells #[.int .i64 (16 * (k : Int) + 4), .int .i64 (16 * (r : Int) + 4)] 3)) w.heap.size 1 (.slice (some ⟨wr.heap.size, 0, none⟩) 2 2) 2 (ints [16 * (k : Int) + 4, 16 * (r : Int) + 4]) := Own.lit 3 rfl rfl (by omega) (by unfold maxLen; omega)
        go_wp2_with (with_reducible refine app_ss (o := ⟨some 45, _, _, _, _, _⟩) _ _ rfl rfl _ _ rfl w.heap.size (hus.alloc _) rfl (wr.heap.size + 1) (by simp) rfl (by omega) (by simp; omega) ?_)
        intro v' w' h1 h2 h3
        have hO' := hO.snoc (l := [16 * (k : Int) + 4, 16 * (r : Int) + 4]) hW hX (fun g hg => by simp only [Value.ownBlock, Option.some.injEq] at hg; omega) h1 h2 (by simpa using h3)
        have hb' := (hbl.trans (hW.mono (by omega))).trans ((Below.refl w.heap.size _).grown h2 (by simp; omega) (fun k hk => (hus.ge k hk).1))
        have hs' := h2.size
        rw [World.size_alloc] at hs'
        have cL' : w'.cell? ⟨w.heap.size, 0, none⟩ = some (.slice (some ⟨g, off, none⟩) l.length cap) := by
          rw [World.cell?_of_block (h2.block w.heap.size (by simp; omega) (fun e => hsf e.symm))]
          exact cell_alloc_lt cL _ hsz
        have hsf' : SafeA w' v' w.heap.size := by
          rcases h3 with h3 | ⟨q, h3, hq⟩
          · unfold SafeA; rw [h3]; exact hsf
          · unfold SafeA; rw [h3]; simp only [ne_eq, Option.some.injEq]; omega
        have HEE := Lib.hid HN.out
        clear h1 h2 h3 hO hbl hX hW hus cL hsf
        go_wp2_with fail
        go_roundw
        case rel => exact ⟨k + 1, _, by omega, by go_num, by rw [HEE.out]; exact hO', hb', by omega, cL', hsf'⟩
        case measure => simp [intOf]; omega
      · have HN := Lib.hid (HNN.out k h1)
        have e1 : ((row[k]'hk1).toNat : Int) ≠ 111 := fun e => h1 (by rw [HB.out]; exact e)
        have x1 : (((row[k]'hk1).toNat : Int) == 111) = false := beq_eq_false_iff_ne.2 e1
        clear h1 e1
        go_wp2_with fail
        go_roundw
        case rel => exact ⟨k + 1, us, by omega, by go_num, by rw [HN.out]; exact hO, hbl, hsz, cL, hsf⟩
        case measure => simp [intOf]; omega
end Go.Proofs.Ytkcknikaidbeoaa
