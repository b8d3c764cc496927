/- EncodeHex -/
import Derived.Test.YtmnddbgblhmlbaaDoorNum
import Derived.Test.YtmnddbgblhmlbaaDoorLaws
import Derived.Test.YtmnddbgblhmlbaaDoorCk
import Derived.Deep.RegionLaw
import Derived.Outline
namespace Go.Proofs.YtmnddbgblhmlbaaDoor
open Go.RowKit

/-- a figure of the base 16 -/
def fig (x : Int) : Int := if x < 10 then 48 + x else 87 + x
theorem fig_bd {x : Int} (h0 : 0 ≤ x) (h : x < 16) : 0 ≤ fig x ∧ fig x < 256 := by unfold fig; split <;> omega
def hexTo (s : ByteArray) : Nat → List UInt8
  | 0 => []
  | k + 1 => hexTo s k ++ [b8 (fig (byteAt s k / 16)), b8 (fig (byteAt s k % 16))]
theorem hexTo_len (s : ByteArray) (k : Nat) : (hexTo s k).length = 2 * k := by
  induction k with
  | zero => rfl
  | succ k ih => simp only [hexTo, List.length_append, ih]; simp; omega
def hexT (s : ByteArray) : ByteArray := if s.size ≤ 20000 then ⟨(hexTo s s.size).toArray⟩ else ⟨#[]⟩

theorem digit_at (d : Int) (h0 : 0 ≤ d) (h : d < 16) (w : World) :
    (Instr.index 9 (.string { data := #[48, 49, 50, 51, 52, 53, 54, 55, 56, 57, 97, 98, 99, 100, 101, 102] }) (.int .u8 d)).run Tryd.prog w = .ok (.int .u8 (fig d)) w := by
  rcases (show d = 0 ∨ d = 1 ∨ d = 2 ∨ d = 3 ∨ d = 4 ∨ d = 5 ∨ d = 6 ∨ d = 7 ∨ d = 8 ∨ d = 9 ∨ d = 10 ∨ d = 11 ∨ d = 12 ∨ d = 13 ∨ d = 14 ∨ d = 15 by omega) with
    rfl | rfl | rfl | rfl | rfl | rfl | rfl | rfl | rfl | rfl | rfl | rfl | rfl | rfl | rfl | rfl <;> kernel_rfl

theorem hexTo_succ (s : ByteArray) (k : Nat) (h : k < s.size) : hexTo s (k + 1) = hexTo s k ++ [b8 (fig (((s[k]'h).toNat : Int) / 16)), b8 (fig (((s[k]'h).toNat : Int) % 16))] := by
  simp only [hexTo, byteAt_eq h]

set_option maxRecDepth 100000 in
set_option maxHeartbeats 1000000 in
theorem hex_impl (s : ByteArray) (w : World) :
    Calls Tryd.prog 10 #[.string s] w fun e w' => e = .returned (.tuple #[.string (hexT s), .bool (decide (s.size ≤ 20000))]) ∧ Below w.heap.size w w' := by
  by_cases hs : s.size ≤ 20000
  · have HT : Hid (hexT s = ⟨(hexTo s s.size).toArray⟩) := Lib.hid (if_pos hs)
    have HB : Hid (decide (s.size ≤ 20000) = true) := Lib.hid (decide_eq_true hs)
    go_enter Tryd.func10, Tryd.ntmps10
    go_wp2_with (with_reducible refine make0_u8 (o := ⟨some 12, _, _, _, _, _⟩) w rfl _ _ rfl w.heap.size (2 * s.size) _ rfl rfl (by omega) (by omega) (Nat.le_refl _) ?_)
    intro w1 hown hg
    have hbl : Below w.heap.size w w1 := (Below.refl _ _).grown hg (Nat.le_refl _) (fun k h => by cases h)
    go_wp2
    go_loopw [4, 5] (fun v i wr => ∃ k : Nat, k ≤ s.size ∧ i = .int .i64 k ∧ Own wr w.heap.size 1 v (2 * k) (u8s (hexTo s k)) ∧ Below w.heap.size w wr) (fun _ i _ => s.size - (intOf i).toNat)
    case atStart => exact ⟨0, Nat.zero_le _, rfl, hown, hbl⟩
    case round =>
      obtain ⟨k, hk, rfl, hown, hbl⟩ := hrel
      have hsz := hbl.size
      by_cases hlt : k < s.size
      · have hb := (s[k]'hlt).toNat_lt
        have e1 : ((s[k]'hlt).toNat : Int) / 16 < 16 := by omega
        have e2 := and_u8_15 (s[k]'hlt).toNat hb
        have e3 : 0 ≤ ((s[k]'hlt).toNat : Int) / 16 := by omega
        have d1 := digit_at (((s[k]'hlt).toNat : Int) / 16) e3 e1
        have d2 := digit_at (((s[k]'hlt).toNat : Int) % 16) (by omega) (by omega)
        have k0 : (0 : Int) ≤ (k : Int) := by omega
        have k1 : (k : Int) < (s.size : Int) := by omega
        have f1 := fig_bd e3 e1
        have f2 := fig_bd (x := ((s[k]'hlt).toNat : Int) % 16) (by omega) (by omega)
        have HC := b8_two f1.1 f1.2 f2.1 f2.2
        have HS := Lib.hid (hexTo_succ s k hlt)
        go_wp2_with fail
        go_region_law ((refine step_u8 (W := (wr.alloc _).drew) (H := wr.heap.size) (heap_alloc_new wr _) w.heap.size ((hown.alloc _).drew) _ HC (by rfl) _ _ (by rfl) (by rfl) 2 2 (by rfl) (by rfl) (by omega) (by simp; omega) ?_; intro v' w' hown' hg' hv'))
        all_goals
          have hbl' := (hbl.alloc hsz (.cells #[.int .u8 (fig (((s[k]'hlt).toNat : Int) / 16)), .int .u8 (fig (((s[k]'hlt).toNat : Int) % 16))] 5)).drew.trans (((hown.alloc _).drew).below_of hg' (Nat.le_refl _) (by simp; omega))
          clear d1 d2 hg' hv'
          go_wp2
          go_roundw
          case rel => exact ⟨k + 1, by omega, by go_num, by rw [HS.out]; exact hown', hbl'⟩
          case measure => simp [intOf]; omega
      · go_wp2_with (with_reducible refine str_law (o := ⟨some 33, _, _, _, _, _⟩) _ rfl _ rfl hown.at_ rfl ?_)
        go_ret2
        exact ⟨by rw [HT.out, HB.out, show s.size = k by omega]; rfl, hbl⟩
  · have HT : Hid (hexT s = ⟨#[]⟩) := Lib.hid (if_neg hs)
    have HB : Hid (decide (s.size ≤ 20000) = false) := Lib.hid (decide_eq_false hs)
    go_enter Tryd.func10, Tryd.ntmps10
    go_wp2_with fail
    go_ret2
    exact ⟨by rw [HT.out, HB.out]; rfl, Below.refl _ _⟩

theorem figure_any (x : Int) (w : World) (h0 : 0 ≤ x) (h : x < 16) :
    Calls Tryd.prog 16 #[.int .i64 x] w fun e w' => e = .returned (.int .u8 (fig x)) ∧ w = w' := by
  by_cases h1 : x < 10
  · have HF : Hid (fig x = 48 + x) := Lib.hid (if_pos h1)
    go_enter Tryd.func16, Tryd.ntmps16
    go_wp2_with fail
    go_ret
    exact ⟨ret_int (by rw [HF.out]), rfl⟩
  · have HF : Hid (fig x = 87 + x) := Lib.hid (if_neg h1)
    go_enter Tryd.func16, Tryd.ntmps16
    go_wp2_with fail
    go_ret
    exact ⟨ret_int (by rw [HF.out]; omega), rfl⟩

end Go.Proofs.YtmnddbgblhmlbaaDoor
