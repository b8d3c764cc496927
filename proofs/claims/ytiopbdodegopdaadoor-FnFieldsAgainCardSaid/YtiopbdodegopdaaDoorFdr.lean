/- What is drawn for SplitFields, as far as its size goes; sameTexts. -/
import Derived.Test.YtiopbdodegopdaaDoorLng
import Derived.Test.YtiopbdodegopdaaDoorStr
import Derived.Test.YtiopbdodegopdaaDoorFldLaw
import Derived.Deep.CutRange
import Derived.Deep.DeepCutAuto
namespace Go.Proofs.YtiopbdodegopdaaDoor
open Go.RowKit

theorem pick_ret {v lv : Value} {l : List Int} {ll : List ByteArray} {g : Nat} {W0 : World} (w : World) (hd : Code8 W0 v l) (hc : Cur W0 w g v l.length) (ho : Own w 0 1 lv ll.length (ll.map Value.string)) (hne : lv.ownBlock ≠ some g) (h1 : 1 ≤ ll.length) (h2 : ll.length ≤ 1000) :
    Calls Tryd.prog 29 #[.pointer (some ⟨g, 0, none⟩), lv] w fun e w' => ∃ x : ByteArray, e = .returned (.string x) ∧ x ∈ ll ∧ Cur W0 w' g v l.length ∧ w.grownBy w' (some g) := by
  rcases ho.val with ⟨rfl, h0⟩ | ⟨gl, cap, rfl, _, hgl, _, _, hcl, _⟩
  · omega
  have hne' : gl ≠ g := fun e => hne (by simp [Value.ownBlock, e])
  go_enter Tryd.func29, Tryd.ntmps29
  go_wp2_with fail
  refine (below_ret _ _ hd hc (by omega) (by omega)).mono ?_
  rintro e w1 ⟨x, rfl, hx0, hx1, hc1, hg1⟩
  obtain ⟨k, rfl⟩ := Int.eq_ofNat_of_zero_le hx0
  have hk : k < ll.length := by omega
  have c1 : w1.cell? ⟨gl, k, none⟩ = some (.string (ll[k]'hk)) := by
    rw [World.cell?_of_block (w := w) (w' := w1) (a := ⟨gl, k, none⟩) (hg1.block gl hgl (fun e => hne' (by simpa using e))), hcl k (by omega), List.getElem?_map, List.getElem?_eq_getElem hk]
    rfl
  clear hcl
  go_wp2_with fail
  go_ret
  exact ⟨_, rfl, List.getElem_mem hk, hc1, hg1⟩
def pickL : List ByteArray := [⟨#[32]⟩, ⟨#[32, 32]⟩, ⟨#[9]⟩, ⟨#[10]⟩, ⟨#[127]⟩, ⟨#[233]⟩]
theorem pickL_size {x : ByteArray} (h : x ∈ pickL) : x.size ≤ 2 := by
  simp only [pickL, List.mem_cons, List.not_mem_nil, or_false] at h
  rcases h with rfl | rfl | rfl | rfl | rfl | rfl <;> decide
set_option maxRecDepth 100000 in
set_option maxHeartbeats 8000000 in
theorem drawfld_ret {v : Value} {l : List Int} (w : World) (hd : Code8 w v l) :
    Calls Tryd.prog 7 #[v] w fun e w' => ∃ s : ByteArray, e = .returned (.string s) ∧ s.size ≤ 2000 ∧ Below w.heap.size w w' := by
  go_enter Tryd.func7, Tryd.ntmps7
  go_wp2_with fail
  refine (new_ret _ hd).mono ?_
  rintro e w1 ⟨g, rfl, hc1⟩
  go_wp2_with fail
  refine (below_ret _ _ hd hc1 (by omega) (by omega)).mono ?_
  rintro e w2 ⟨n1, rfl, hn0, hn1, hc2, hg2⟩
  go_wp2_with fail
  refine (once_ret _ _ hd hc2 (by omega) (by omega)).mono ?_
  rintro e w3 ⟨b, rfl, hc3, hg3⟩
  clear hg2 hg3 hc1 hc2
  go_upto_if 13 with (fail)
  go_cut [4] (fun n wx => ∃ N : Int, 0 ≤ N ∧ N ≤ 25 ∧ n = .int .i64 N ∧ Cur w wx g v l.length)
  case first =>
    cases b with
    | true =>
      go_wp2_with fail
      refine (below_ret _ _ hd hc3 (by omega) (by omega)).mono ?_
      rintro e w4 ⟨n2, rfl, hm0, hm1, hc4, hg4⟩
      go_wp2_with fail
      go_meet
      exact ⟨24 + n2, by omega, by omega, rfl, hc4⟩
    | false =>
      go_wp2_with fail
      go_meet
      exact ⟨n1, by omega, by omega, rfl, hc3⟩
  case rest =>
    clear hc3 hn0 hn1
    obtain ⟨N, hN0, hN1, rfl, hcS⟩ := hcut
    go_wp2_with fail
    go_loopw [5, 6] (fun u j wr => ∃ (i : Nat) (t : ByteArray), (i : Int) ≤ N ∧ j = .int .i64 i ∧ u = .string t ∧ t.size ≤ 10 * i ∧ Cur w wr g v l.length) (fun _ j _ => N.toNat - (intOf j).toNat)
    case atStart => exact ⟨0, _, by omega, rfl, rfl, Nat.le_refl _, hcS⟩
    case round =>
      clear hcS
      obtain ⟨i, t, hi, rfl, rfl, ht, hcA⟩ := hrel
      by_cases hlt : (i : Int) < N
      · have y1 : decide ((i : Int) < N) = true := decide_eq_true hlt
        go_upto_region 9 with (fail)
        go_cut [27] (fun c wx => ∃ b : Bool, c = .bool b ∧ Cur w wx g v l.length)
        case first =>
          by_cases hi0 : 0 < i
          · have y2 : decide (0 < (i : Int)) = true := decide_eq_true (by omega)
            go_wp2_with fail
            go_meet
            exact ⟨true, rfl, hcA⟩
          · obtain rfl : i = 0 := by omega
            go_wp2_with fail
            refine (once_ret _ _ hd hcA (by omega) (by omega)).mono ?_
            rintro e wo ⟨b2, rfl, hcO, _⟩
            go_wp2_with fail
            go_meet
            exact ⟨b2, rfl, hcO⟩
        case rest =>
          clear hcA
          obtain ⟨b2, rfl, hcB⟩ := hcut
          go_upto_if 27 with (fail)
          go_cut [5] (fun u wx => ∃ t2 : ByteArray, u = .string t2 ∧ t2.size ≤ 10 * i + 3 ∧ Cur w wx g v l.length)
          case first =>
            cases b2 with
            | true =>
              go_wp2_with fail
              refine (below_ret _ _ hd hcB (by omega) (by omega)).mono ?_
              rintro e wx ⟨x, rfl, hx0, hx1, hcX, _⟩
              go_wp2_with fail
              refine (below_ret _ _ hd hcX (by omega) (by omega)).mono ?_
              rintro e wy ⟨y, rfl, hy0, hy1, hcY, _⟩
              obtain ⟨m, hm, hm3, hxy⟩ : ∃ m : Nat, 1 + x * y = (m : Int) ∧ m ≤ 3 ∧ 0 ≤ x * y ∧ x * y ≤ 2 := by
                rcases (show x = 0 ∨ x = 1 by omega) with rfl | rfl
                · exact ⟨1, by simp, by omega, by simp, by simp⟩
                · obtain ⟨k, rfl⟩ := Int.eq_ofNat_of_zero_le hy0
                  rw [Int.one_mul]
                  exact ⟨1 + k, by simp, by omega, by omega, by omega⟩
              go_wp2_with fail
              refine (long_ret _ m _ _ (by omega) (by omega) (by omega) (by omega)).mono ?_
              rintro e wz ⟨rfl, hbz⟩
              have hss : t.size + (repB m 32).size ≤ 9223372036854775807 := by rw [repB_size]; omega
              have hcZ := hcY.below hbz
              go_wp2_with fail
              go_meet
              exact ⟨_, rfl, by rw [ByteArray.size_append, repB_size]; omega, hcZ⟩
            | false =>
              go_wp2_with fail
              go_meet
              exact ⟨t, rfl, by omega, hcB⟩
          case rest =>
            clear hcB ht
            obtain ⟨t, rfl, ht, hcS⟩ := hcut
            go_wp2_with fail
            go_loopw [5, 7] (fun u j wr => ∃ (k : Nat) (t2 : ByteArray), k ≤ 5 ∧ j = .int .i64 k ∧ u = .string t2 ∧ t2.size ≤ 10 * i + 3 + k ∧ Cur w wr g v l.length) (fun _ j _ => 5 - (intOf j).toNat)
            case atStart => exact ⟨0, _, Nat.zero_le _, rfl, rfl, by omega, hcS⟩
            case round =>
              clear hcS
              obtain ⟨k, t2, hk, rfl, rfl, ht2, hcB⟩ := hrel
              go_wp2_with fail
              refine (below_ret _ _ hd hcB (by omega) (by omega)).mono ?_
              rintro e wk ⟨z, rfl, hz0, hz1, hcC, _⟩
              by_cases hkz : (k : Int) ≤ z
              · go_wp2_with fail
                refine (below_ret _ _ hd hcC (by omega) (by omega)).mono ?_
                rintro e wd ⟨q, rfl, hq0, hq1, hcD, _⟩
                have HA := lit1' wd (33 + q) (by omega)
                have hss : t2.size + (⟨[b8 (33 + q)].toArray⟩ : ByteArray).size ≤ 9223372036854775807 := by show t2.size + 1 ≤ _; omega
                have hsz : (t2 ++ (⟨[b8 (33 + q)].toArray⟩ : ByteArray)).size ≤ 10 * i + 3 + (k + 1) := by rw [ByteArray.size_append]; show t2.size + 1 ≤ _; omega
                have hcE := hcD.below ((Below.refl _ _).alloc (Nat.le_refl _) (.cells #[.int .u8 (33 + q)] 5))
                go_wp2_with (with_reducible refine str_law (o := ⟨some 49, _, _, _, _, _⟩) _ rfl _ rfl HA rfl ?_)
                go_wp2_with fail
                go_roundw
                case rel => exact ⟨k + 1, _, by omega, by go_num, rfl, hsz, hcE⟩
                case measure => simp [intOf]; omega
              · go_wp2_with fail
                go_roundw
                case rel => exact ⟨i + 1, _, by omega, by go_num, rfl, by omega, hcC⟩
                case measure => simp [intOf]; omega
      · have y1 : decide ((i : Int) < N) = false := decide_eq_false hlt
        go_wp2_with fail
        refine (below_ret _ _ hd hcA (by omega) (by omega)).mono ?_
        rintro e wp ⟨x, rfl, hx0, hx1, hcP, _⟩
        by_cases e0 : x = 0
        · subst e0
          go_wp2_with fail
          have hlit : Own (wp.alloc (.cells #[.string ⟨#[32]⟩, .string ⟨#[32, 32]⟩, .string ⟨#[9]⟩, .string ⟨#[10]⟩, .string ⟨#[127]⟩, .string ⟨#[233]⟩] 9)) 0 1 (.slice (some ⟨wp.heap.size, 0, none⟩) 6 6) 6 (pickL.map Value.string) := Own.lit 9 rfl rfl (Nat.zero_le _) (by unfold maxLen; omega)
          have hcL := hcP.below ((Below.refl _ _).alloc (Nat.le_refl _) (.cells #[.string ⟨#[32]⟩, .string ⟨#[32, 32]⟩, .string ⟨#[9]⟩, .string ⟨#[10]⟩, .string ⟨#[127]⟩, .string ⟨#[233]⟩] 9))
          have hltP := hcP.lt
          refine (pick_ret (ll := pickL) _ hd hcL hlit (by simp [Value.ownBlock]; omega) (by show 1 ≤ 6; omega) (by show 6 ≤ 1000; omega)).mono ?_
          rintro e wq ⟨y, rfl, hy, hcQ, _⟩
          have hyz := pickL_size hy
          have hss : t.size + y.size ≤ 9223372036854775807 := by omega
          go_wp2_with fail
          go_ret
          exact ⟨_, rfl, by rw [ByteArray.size_append]; omega, hcQ.bl⟩
        · have b0 : (x == 0) = false := beq_eq_false_iff_ne.2 e0
          by_cases e1 : x = 1
          · subst e1
            by_cases h6 : t.size < 600
            · go_wp2_with fail
              refine (below_ret _ _ hd hcP (by omega) (by omega)).mono ?_
              rintro e wq ⟨y, rfl, hy0, hy1, hcQ, _⟩
              obtain ⟨yn, rfl⟩ := Int.eq_ofNat_of_zero_le hy0
              go_wp2_with fail
              refine (long_ret _ (600 - t.size + yn) _ _ (by omega) (by omega) (by omega) (by omega)).mono ?_
              rintro e wz ⟨rfl, hbz⟩
              have hss : t.size + (repB (600 - t.size + yn) 32).size ≤ 9223372036854775807 := by rw [repB_size]; omega
              go_wp2_with fail
              go_ret
              exact ⟨_, rfl, by rw [ByteArray.size_append, repB_size]; omega, (hcQ.below hbz).bl⟩
            · omega
          · have b1 : (x == 1) = false := beq_eq_false_iff_ne.2 e1
            go_wp2_with fail
            go_ret
            exact ⟨t, rfl, by omega, hcP.bl⟩
end Go.Proofs.YtiopbdodegopdaaDoor
