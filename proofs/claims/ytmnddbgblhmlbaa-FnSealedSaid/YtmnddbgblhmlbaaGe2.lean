/- The draws' texts: l01Text, l01Holes, l01Twins, as far as bounds go. -/
import Derived.Test.YtmnddbgblhmlbaaGen
import Derived.Deep.RegionWith
import Derived.Deep.RegionLaw
namespace Go.Proofs.Ytmnddbgblhmlbaa
open Go.RowKit

def zeroB (n : Nat) : ByteArray := ⟨(List.replicate n (0 : UInt8)).toArray⟩
theorem zeroB_size (n : Nat) : (zeroB n).size = n := by show (List.replicate n (0 : UInt8)).toArray.size = n; simp
theorem make_run (n : Nat) (h : n ≤ 1099511627776) (w : World) : (Instr.makeSlice 22 (.int .i64 (n : Int)) (.int .i64 (n : Int))).run Try.prog w = .ok (.slice (some ⟨w.heap.size, 0, none⟩) n n) (w.alloc (.cells (madeCells #[.int .u8 0] n) 5)) :=
  run_make_row' (P := Try.prog) 22 5 (.int .u8 0) 1 Try.underlying22 info_u8 rfl .i64 .i64 n (by omega) (by omega) w
theorem conv_run {w : World} {v : Value} {n : Nat} (h : At w 1 v n (u8s (List.replicate n (0 : UInt8)))) : (convert 22 9 v).run Try.prog w = .ok (.string (zeroB n)) w :=
  run_string_at (P := Try.prog) w 22 9 5 Try.underlying22 Try.underlying5 Try.underlying9 v n _ h
theorem Cur.ge_of {W0 w : World} {g : Nat} {v : Value} {n : Nat} (h : Cur W0 w g v n) {k : Nat} (hk : w.heap.size ≤ k) : W0.heap.size ≤ k ∧ k ≠ g := by
  have := h.lt
  have := h.ge
  omega
set_option maxRecDepth 100000 in
set_option maxHeartbeats 1000000 in
theorem text_ret {v : Value} {l : List Int} {g : Nat} {W0 : World} (n : Nat) (w : World) (hd : Code8 W0 v l) (hc : Cur W0 w g v l.length) (hn : n ≤ 5000) :
    Calls Try.prog 86 #[.pointer (some ⟨g, 0, none⟩), .int .i64 (n : Int)] w fun e w' => ∃ s : ByteArray, e = .returned (.string s) ∧ s.size = n ∧ Cur W0 w' g v l.length ∧ w.grownBy w' (some g) := by
  have hlt0 := hc.lt
  have hge0 := hc.ge
  have hn' : ¬ (5000 : Int) < (n : Int) := by omega
  go_enter Try.func86, Try.ntmps86
  go_wp2_with fail
  go_loopw [5, 6] (fun u i wr => ∃ (k : Nat) (t : List UInt8), k ≤ n ∧ i = .int .i64 k ∧ t.length = k ∧ Own wr w.heap.size 1 u t.length (u8s t) ∧ Cur W0 wr g v l.length ∧ w.grownBy wr (some g)) (fun _ i _ => n - (intOf i).toNat)
  case atStart => exact ⟨0, [], Nat.zero_le _, rfl, rfl, Own.lit _ rfl rfl (Nat.le_refl _) (Nat.zero_le _), hc.below ((Below.refl _ _).alloc (Nat.le_refl _) _), World.grownBy_alloc w _ _⟩
  case round =>
    obtain ⟨k, t, hk, rfl, ht, hown, hc1, hg1⟩ := hrel
    have HT := Lib.hid ht
    clear ht
    by_cases hlt : k < n
    · go_wp2_with fail
      refine (byte_ret _ hd hc1).mono ?_
      rintro e w1 ⟨x, rfl, hx0, hx1, hc2, hg2⟩
      have hown2 : Own w1 w.heap.size 1 _ t.length (u8s t) := hown.kept hg2 (.inr fun e => by
        have := (hown.ge g e).1
        omega)
      have HC := b8_one (n := x) hx0 (by omega)
      have hsz2 : w.heap.size ≤ w1.heap.size := Nat.le_trans hg1.size hg2.size
      go_wp2_with (with_reducible refine app_u8 (o := ⟨some 20, _, _, _, _, _⟩) w1 _ rfl _ _ rfl w.heap.size hown2 rfl 1 1 [b8 x] rfl HC rfl (by have := HT.out; omega) hsz2 ?_)
      intro v' w' hown' hg3 _
      have hrow : ∀ i, Value.ownBlock _ = some i → w.heap.size ≤ i := fun i hi => (hown2.ge i hi).1
      have hc3 := hc2.grown hg3 (fun i hi => by have := (hown2.ge i hi).1; omega)
      have hg4 := grown_new (grownBy_trans hg1 hg2) hg3 (fun i hi hlt => by have := (hown2.ge i hi).1; omega)
      clear hg3
      have ht' : (t ++ [b8 x]).length = k + 1 := by rw [List.length_append, HT.out]; rfl
      go_wp2_with fail
      go_roundw
      case rel => exact ⟨k + 1, _, by omega, by go_num, ht', hown'.fit, hc3, hg4⟩
      case measure => simp [intOf]; omega
    · obtain rfl : k = n := by omega
      go_wp2_with (with_reducible refine str_law (o := ⟨some 22, _, _, _, _, _⟩) _ rfl _ rfl hown.at_ rfl ?_)
      go_ret
      exact ⟨⟨t.toArray⟩, rfl, by show t.toArray.size = _; simp; exact HT.out, hc1, hg1⟩
theorem Cur.drew {W0 w : World} {g : Nat} {v : Value} {n : Nat} (h : Cur W0 w g v n) : Cur W0 w.drew g v n := h.below (Below.refl _ _).drew
theorem made_facts {W0 wr w : World} {g : Nat} {v : Value} {n m : Nat} (hc : Cur W0 w g v n) (hg : wr.grownBy w (some g)) (hm : m ≤ 1000) :
    Cur W0 (w.alloc (.cells (madeCells #[.int .u8 0] m) 5)) g v n ∧ wr.grownBy (w.alloc (.cells (madeCells #[.int .u8 0] m) 5)) (some g) ∧
      Own (w.alloc (.cells (madeCells #[.int .u8 0] m) 5)) wr.heap.size 1 (.slice (some ⟨w.heap.size, 0, none⟩) m m) m (u8s (List.replicate m (0 : UInt8))) ∧
      (convert 22 9 (.slice (some ⟨w.heap.size, 0, none⟩) m m)).run Try.prog (w.alloc (.cells (madeCells #[.int .u8 0] m) 5)) = .ok (.string (zeroB m)) (w.alloc (.cells (madeCells #[.int .u8 0] m) 5)) := by
  have ho : Own (w.alloc (.cells (madeCells #[.int .u8 0] m) 5)) wr.heap.size 1 (.slice (some ⟨w.heap.size, 0, none⟩) m m) m (u8s (List.replicate m (0 : UInt8))) :=
    Own.lit 5 ((toList_madeCells_one _ m).trans (by unfold u8s; rw [List.map_replicate]; rfl)) (by rw [u8s_len]; simp) hg.size (by unfold maxLen; omega)
  exact ⟨hc.below ((Below.refl _ _).alloc (Nat.le_refl _) _), grown_new hg (World.grownBy_alloc w _ none) (fun i h => by cases h), ho, conv_run ho.at_⟩
set_option maxRecDepth 100000 in
set_option maxHeartbeats 8000000 in
theorem holes_ret {v : Value} {l : List Int} {g : Nat} {W0 : World} (w : World) (hd : Code8 W0 v l) (hc : Cur W0 w g v l.length) :
    Calls Try.prog 85 #[.pointer (some ⟨g, 0, none⟩)] w fun e w' => ∃ s : ByteArray, e = .returned (.string s) ∧ s.size ≤ 28 ∧ Cur W0 w' g v l.length ∧ w.grownBy w' (some g) := by
  go_enter Try.func85, Try.ntmps85
  go_wp2_with fail
  refine (below_ret _ _ hd hc (by omega) (by omega)).mono ?_
  rintro e wa ⟨k0, rfl, hk0, hk1, hca, hga⟩
  obtain ⟨k0, rfl⟩ := Int.eq_ofNat_of_zero_le hk0
  go_wp2_with fail
  go_loopw [3, 4] (fun u i wr => ∃ (j : Nat) (t : ByteArray), i = .int .i64 j ∧ j ≤ 4 ∧ t.size + 7 * j ≤ 28 ∧ u = .string t ∧ Cur W0 wr g v l.length ∧ w.grownBy wr (some g)) (fun _ i _ => (intOf i).toNat)
  case atStart => exact ⟨k0, ⟨#[]⟩, rfl, by omega, by show 0 + 7 * k0 ≤ 28; omega, rfl, hca, hga⟩
  case round =>
    obtain ⟨j, t, rfl, hj, hts, rfl, hc1, hg1⟩ := hrel
    by_cases hlt : 0 < j
    · have hcur := hc1.drew
      have hgr : wr.grownBy wr.drew (some g) := ⟨rfl, rfl, rfl, Nat.le_refl _, fun _ _ _ => rfl⟩
      have hgl := hc1.lt
      have htsz : t.size ≤ 1000 := by omega
      clear hca hga hc
      go_wp2_with fail
      have HH := Lib.hid (And.intro hts (And.intro hj hg1))
      clear hk0 hk1 hts hj hc1 hg1
      go_region_with (first
        | (go_at_call 65; with_reducible refine (below_ret 5 _ hd hcur (by omega) (by omega)).mono ?_; rintro e wn ⟨x, rfl, hx0, hx1, hcn, hgn⟩; obtain ⟨xn, rfl⟩ := Int.eq_ofNat_of_zero_le hx0; replace hcur := hcn; replace hgr := grownBy_trans hgr hgn; have HM := make_run xn (by omega); obtain ⟨mA, mB, mC, mD⟩ := made_facts (m := xn) hcur hgr (by omega); have zs := zeroB_size xn; have hs1 : t.size + (zeroB xn).size ≤ 9223372036854775807 := by omega; (try have hs2 : (t ++ zeroB xn).size + T.size ≤ 9223372036854775807 := by rw [ByteArray.size_append, zeroB_size]; omega))
        | (go_at_call 65; with_reducible refine (below_ret 4 _ hd mA (by omega) (by omega)).mono ?_; rintro e wn ⟨y, rfl, hy0, hy1, hcn, hgn⟩; obtain ⟨yn, rfl⟩ := Int.eq_ofNat_of_zero_le hy0; replace mC := mC.kept hgn (.inr (fun e => by have := (mC.ge g e).1; omega)); replace mD := conv_run mC.at_; replace mA := hcn; replace mB := grownBy_trans mB hgn)
        | (go_at_call 65; with_reducible refine (below_ret 4 _ hd hcur (by omega) (by omega)).mono ?_; rintro e wn ⟨y, rfl, hy0, hy1, hcn, hgn⟩; obtain ⟨yn, rfl⟩ := Int.eq_ofNat_of_zero_le hy0; replace hcur := hcn; replace hgr := grownBy_trans hgr hgn; (try obtain ⟨mA, mB, mC, mD⟩ := made_facts (m := xn) hcur hgr (by omega)))
        | (go_at_call 86; with_reducible refine (text_ret yn _ hd mA (by omega)).mono ?_; rintro e wn ⟨T, rfl, hT, hcn, hgn⟩; (try have hs2 : (t ++ zeroB xn).size + T.size ≤ 9223372036854775807 := by rw [ByteArray.size_append, zeroB_size]; omega); replace mC := mC.kept hgn (.inr (fun e => by have := (mC.ge g e).1; omega)); replace mD := conv_run mC.at_; replace mA := hcn; replace mB := grownBy_trans mB hgn)
        | (go_at_call 86; with_reducible refine (text_ret yn _ hd hcur (by omega)).mono ?_; rintro e wn ⟨T, rfl, hT, hcn, hgn⟩; (try have hs2 : (t ++ zeroB xn).size + T.size ≤ 9223372036854775807 := by rw [ByteArray.size_append, zeroB_size]; omega); replace hcur := hcn; replace hgr := grownBy_trans hgr hgn; (try obtain ⟨mA, mB, mC, mD⟩ := made_facts (m := xn) hcur hgr (by omega))))
      all_goals
        obtain ⟨hts, hj, hg1⟩ := HH.out
        have hlen : ((t ++ zeroB xn) ++ T).size + 7 * (j - 1) ≤ 28 := by rw [ByteArray.size_append, ByteArray.size_append]; omega
        have hj1 : ((j - 1 : Nat) : Int) = (j : Int) - 1 := by omega
        have HJ := Lib.hid hj1
        clear hj1
        go_wp2
        go_simp
        go_roundw
        case rel => exact ⟨j - 1, HJ.out.symm, by omega, _, hlen, rfl, grownBy_trans hg1 mB⟩
        case measure => simp [intOf]; omega
    · obtain rfl : j = 0 := by omega
      go_wp2_with fail
      go_ret
      exact ⟨t, rfl, by omega, hc1, hg1⟩
end Go.Proofs.Ytmnddbgblhmlbaa
