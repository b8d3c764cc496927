/- The draws' texts: l01Text, l01Holes, l01Twins, as far as bounds go. -/
import Derived.Test.YtmnddbgblhmlbaaDoorGen
import Derived.Deep.RegionWith
import Derived.Deep.RegionLaw
namespace Go.Proofs.YtmnddbgblhmlbaaDoor
open Go.RowKit

def zeroB (n : Nat) : ByteArray := ⟨(List.replicate n (0 : UInt8)).toArray⟩
theorem zeroB_size (n : Nat) : (zeroB n).size = n := by show (List.replicate n (0 : UInt8)).toArray.size = n; simp
theorem make_run (n : Nat) (h : n ≤ 1099511627776) (w : World) : (Instr.makeSlice 24 (.int .i64 (n : Int)) (.int .i64 (n : Int))).run Tryd.prog w = .ok (.slice (some ⟨w.heap.size, 0, none⟩) n n) (w.alloc (.cells (madeCells #[.int .u8 0] n) 5)) :=
  run_make_row' (P := Tryd.prog) 24 5 (.int .u8 0) 1 Tryd.underlying24 info_u8 rfl .i64 .i64 n (by omega) (by omega) w
theorem conv_run {w : World} {v : Value} {n : Nat} (h : At w 1 v n (u8s (List.replicate n (0 : UInt8)))) : (convert 24 9 v).run Tryd.prog w = .ok (.string (zeroB n)) w :=
  run_string_at (P := Tryd.prog) w 24 9 5 Tryd.underlying24 Tryd.underlying5 Tryd.underlying9 v n _ h
theorem Cur.ge_of {W0 w : World} {g : Nat} {v : Value} {n : Nat} (h : Cur W0 w g v n) {k : Nat} (hk : w.heap.size ≤ k) : W0.heap.size ≤ k ∧ k ≠ g := by
  have := h.lt
  have := h.ge
  omega
set_option maxRecDepth 100000 in
set_option maxHeartbeats 1000000 in
theorem text_ret {v : Value} {l : List Int} {g : Nat} {W0 : World} (n : Nat) (w : World) (hd : Code8 W0 v l) (hc : Cur W0 w g v l.length) (hn : n ≤ 5000) :
    Calls Tryd.prog 22 #[.pointer (some ⟨g, 0, none⟩), .int .i64 (n : Int)] w fun e w' => ∃ s : ByteArray, e = .returned (.string s) ∧ s.size = n ∧ Cur W0 w' g v l.length ∧ w.grownBy w' (some g) := by
  have hlt0 := hc.lt
  have hge0 := hc.ge
  have hn' : ¬ (5000 : Int) < (n : Int) := by omega
  go_enter Tryd.func22, Tryd.ntmps22
  go_wp2_with fail
  go_loopw [5, 6] (fun u i wr => ∃ (k : Nat) (t : List UInt8), k ≤ n ∧ i = .int .i64 k ∧ t.length = k ∧ Own wr w.heap.size 1 u t.length (u8s t) ∧ Cur W0 wr g v l.length ∧ w.grownBy wr (some g)) (fun _ i _ => n - (intOf i).toNat)
  case atStart => exact ⟨0, [], Nat.zero_le _, rfl, rfl, Own.lit _ rfl rfl (Nat.le_refl _) (Nat.zero_le _), hc.below ((Below.refl _ _).alloc (Nat.le_refl _) _), World.grownBy_alloc w _ _⟩
  case round =>
    obtain ⟨k, t, hk, rfl, ht, hown, hc1, hg1⟩ := hrel
    have HT := Lib.hid ht
    clear ht
    by_cases hlt : k < n
    · go_wp2_with fail
      refine (byte_ret _ hd hc1).mono ?_
      rintro e w1 ⟨x, rfl, hx0, hx1, hc2, hg2⟩
      have hown2 : Own w1 w.heap.size 1 _ t.length (u8s t) := hown.kept hg2 (.inr fun e => by
        have := (hown.ge g e).1
        omega)
      have HC := b8_one (n := x) hx0 (by omega)
      have hsz2 : w.heap.size ≤ w1.heap.size := Nat.le_trans hg1.size hg2.size
      go_wp2_with (with_reducible refine app_u8 (o := ⟨some 20, _, _, _, _, _⟩) w1 _ rfl _ _ rfl w.heap.size hown2 rfl 1 1 [b8 x] rfl HC rfl (by have := HT.out; omega) hsz2 ?_)
      intro v' w' hown' hg3 _
      have hrow : ∀ i, Value.ownBlock _ = some i → w.heap.size ≤ i := fun i hi => (hown2.ge i hi).1
      have hc3 := hc2.grown hg3 (fun i hi => by have := (hown2.ge i hi).1; omega)
      have hg4 := grown_new (grownBy_trans hg1 hg2) hg3 (fun i hi hlt => by have := (hown2.ge i hi).1; omega)
      clear hg3
      have ht' : (t ++ [b8 x]).length = k + 1 := by rw [List.length_append, HT.out]; rfl
      go_wp2_with fail
      go_roundw
      case rel => exact ⟨k + 1, _, by omega, by go_num, ht', hown'.fit, hc3, hg4⟩
      case measure => simp [intOf]; omega
    · obtain rfl : k = n := by omega
      go_wp2_with (with_reducible refine str_law (o := ⟨some 22, _, _, _, _, _⟩) _ rfl _ rfl hown.at_ rfl ?_)
      go_ret
      exact ⟨⟨t.toArray⟩, rfl, by show t.toArray.size = _; simp; exact HT.out, hc1, hg1⟩
theorem Cur.drew {W0 w : World} {g : Nat} {v : Value} {n : Nat} (h : Cur W0 w g v n) : Cur W0 w.drew g v n := h.below (Below.refl _ _).drew
theorem made_facts {W0 wr w : World} {g : Nat} {v : Value} {n m : Nat} (hc : Cur W0 w g v n) (hg : wr.grownBy w (some g)) (hm : m ≤ 1000) :
    Cur W0 (w.alloc (.cells (madeCells #[.int .u8 0] m) 5)) g v n ∧ wr.grownBy (w.alloc (.cells (madeCells #[.int .u8 0] m) 5)) (some g) ∧
      Own (w.alloc (.cells (madeCells #[.int .u8 0] m) 5)) wr.heap.size 1 (.slice (some ⟨w.heap.size, 0, none⟩) m m) m (u8s (List.replicate m (0 : UInt8))) ∧
      (convert 24 9 (.slice (some ⟨w.heap.size, 0, none⟩) m m)).run Tryd.prog (w.alloc (.cells (madeCells #[.int .u8 0] m) 5)) = .ok (.string (zeroB m)) (w.alloc (.cells (madeCells #[.int .u8 0] m) 5)) := by
  have ho : Own (w.alloc (.cells (madeCells #[.int .u8 0] m) 5)) wr.heap.size 1 (.slice (some ⟨w.heap.size, 0, none⟩) m m) m (u8s (List.replicate m (0 : UInt8))) :=
    Own.lit 5 ((toList_madeCells_one _ m).trans (by unfold u8s; rw [List.map_replicate]; rfl)) (by rw [u8s_len]; simp) hg.size (by unfold maxLen; omega)
  exact ⟨hc.below ((Below.refl _ _).alloc (Nat.le_refl _) _), grown_new hg (World.grownBy_alloc w _ none) (fun i h => by cases h), ho, conv_run ho.at_⟩
end Go.Proofs.YtmnddbgblhmlbaaDoor
