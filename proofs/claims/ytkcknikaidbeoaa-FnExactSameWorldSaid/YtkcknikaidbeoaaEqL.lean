/- Two slices of whole numbers compared (slices.Equal, l02Ints), and SameTrack. -/
import Derived.Test.YtkcknikaidbeoaaTra
namespace Go.Proofs.Ytkcknikaidbeoaa
open Go.RowKit

def sameL (a b : List Int) : Bool := a == b
theorem sameL_len {a b : List Int} (h : a.length ≠ b.length) : sameL a b = false := beq_eq_false_iff_ne.2 (fun e => h (by rw [e]))
theorem sameL_ne {a b : List Int} {k : Nat} {h1 : k < a.length} {h2 : k < b.length} (h : a[k]'h1 ≠ b[k]'h2) : sameL a b = false := beq_eq_false_iff_ne.2 (fun e => h (by subst e; rfl))
theorem sameL_yes {a b : List Int} (hl : a.length = b.length) (h : ∀ j (h1 : j < a.length) (h2 : j < b.length), a[j]'h1 = b[j]'h2) : sameL a b = true := beq_iff_eq.2 (List.ext_getElem hl h)

set_option maxHeartbeats 800000 in
theorem slequal_ret {va vb : Value} {la lb : List Int} (w : World) (ha : At w 1 va la.length (la.map (Value.int .i64))) (hb : At w 1 vb lb.length (lb.map (Value.int .i64))) (hm : la.length ≤ 1099511627776) :
    Calls Try.prog 98 #[va, vb] w fun e w' => e = .returned (.bool (sameL la lb)) ∧ ∃ k, w' = w.drewN k := by
  obtain ⟨ao, cap, rfl, hca⟩ := ha.cell
  obtain ⟨bo, cap2, rfl, hcb⟩ := hb.cell
  by_cases hl : la.length = lb.length
  · have HL := Lib.hid hl
    rw [← hl]
    go_enter Try.func98, Try.ntmps98
    go_wp2
    go_loopw [13] (fun i wr => ∃ k : Nat, k ≤ la.length ∧ i = .int .i64 k ∧ Hid (∀ j (h1 : j < la.length) (h2 : j < lb.length), j < k → la[j]'h1 = lb[j]'h2) ∧ ∃ d, wr = w.drewN d) (fun i _ => la.length - (intOf i).toNat)
    case atStart => exact ⟨0, Nat.zero_le _, rfl, Lib.hid fun j _ _ h => by omega, 0, rfl⟩
    case round =>
      obtain ⟨k, hk, rfl, HE, d, rfl⟩ := hrel
      by_cases hlt : k < la.length
      · have hlt2 : k < lb.length := by have := HL.out; omega
        obtain ⟨g, off, rfl, hg, hcell⟩ := hca (by omega)
        obtain ⟨g2, off2, rfl, hg2, hcell2⟩ := hcb (by omega)
        clear hca hcb
        have c1 := hcell k hlt
        have c2 := hcell2 k hlt2
        clear hcell hcell2
        by_cases he : la[k]'hlt = lb[k]'hlt2
        · have HE' : Hid (∀ j (h1 : j < la.length) (h2 : j < lb.length), j < k + 1 → la[j]'h1 = lb[j]'h2) := Lib.hid fun j h1 h2 h3 => by
            by_cases e : j = k
            · subst e; exact he
            · exact HE.out j h1 h2 (by omega)
          rw [← he] at c2
          clear he hl
          go_wp2
          go_region
          go_wp2
          go_roundw
          case rel => exact ⟨k + 1, by omega, by go_num, HE', d + 1, rfl⟩
          case measure => simp [intOf]; omega
        · have HN := Lib.hid (sameL_ne he)
          have hb' : (la[k]'hlt == lb[k]'hlt2) = false := beq_eq_false_iff_ne.2 he
          clear hl
          go_wp2
          go_region
          go_wp2
          go_ret
          exact ⟨ret_bool (by rw [HN.out]), d + 1, rfl⟩
      · have HN := Lib.hid (sameL_yes hl fun j h1 h2 => HE.out j h1 h2 (by omega))
        go_wp2
        go_ret
        exact ⟨ret_bool (by rw [HN.out]), d, rfl⟩
  · have HN := Lib.hid (sameL_len hl)
    have hb' : ((la.length : Int) == (lb.length : Int)) = false := beq_eq_false_iff_ne.2 (by omega)
    go_enter Try.func98, Try.ntmps98
    go_wp2
    go_ret
    exact ⟨ret_bool (by rw [HN.out]), 0, rfl⟩

set_option maxHeartbeats 800000 in
theorem l02ints_ret {va vb : Value} {la lb : List Int} (w : World) (ha : At w 1 va la.length (la.map (Value.int .i64))) (hb : At w 1 vb lb.length (lb.map (Value.int .i64))) (hm : la.length ≤ 1099511627776) :
    Calls Try.prog 94 #[va, vb] w fun e w' => e = .returned (.bool (sameL la lb)) ∧ ∃ k, w' = w.drewN k := by
  obtain ⟨ao, cap, rfl, hca⟩ := ha.cell
  obtain ⟨bo, cap2, rfl, hcb⟩ := hb.cell
  by_cases hl : la.length = lb.length
  · have HL := Lib.hid hl
    rw [← hl]
    go_enter Try.func94, Try.ntmps94
    go_wp2
    go_loopw [5] (fun i wr => ∃ k : Nat, k ≤ la.length ∧ i = .int .i64 k ∧ Hid (∀ j (h1 : j < la.length) (h2 : j < lb.length), j < k → la[j]'h1 = lb[j]'h2) ∧ ∃ d, wr = w.drewN d) (fun i _ => la.length - (intOf i).toNat)
    case atStart => exact ⟨0, Nat.zero_le _, rfl, Lib.hid fun j _ _ h => by omega, 0, rfl⟩
    case round =>
      obtain ⟨k, hk, rfl, HE, d, rfl⟩ := hrel
      by_cases hlt : k < la.length
      · have hlt2 : k < lb.length := by have := HL.out; omega
        obtain ⟨g, off, rfl, hg, hcell⟩ := hca (by omega)
        obtain ⟨g2, off2, rfl, hg2, hcell2⟩ := hcb (by omega)
        clear hca hcb
        have c1 := hcell k hlt
        have c2 := hcell2 k hlt2
        clear hcell hcell2
        by_cases he : la[k]'hlt = lb[k]'hlt2
        · have HE' : Hid (∀ j (h1 : j < la.length) (h2 : j < lb.length), j < k + 1 → la[j]'h1 = lb[j]'h2) := Lib.hid fun j h1 h2 h3 => by
            by_cases e : j = k
            · subst e; exact he
            · exact HE.out j h1 h2 (by omega)
          rw [← he] at c2
          clear he hl
          go_wp2
          go_region
          go_wp2
          go_roundw
          case rel => exact ⟨k + 1, by omega, by go_num, HE', d + 1, rfl⟩
          case measure => simp [intOf]; omega
        · have HN := Lib.hid (sameL_ne he)
          have hb' : (la[k]'hlt == lb[k]'hlt2) = false := beq_eq_false_iff_ne.2 he
          clear hl
          go_wp2
          go_region
          go_wp2
          go_ret
          exact ⟨ret_bool (by rw [HN.out]), d + 1, rfl⟩
      · have HN := Lib.hid (sameL_yes hl fun j h1 h2 => HE.out j h1 h2 (by omega))
        go_wp2
        go_ret
        exact ⟨ret_bool (by rw [HN.out]), d, rfl⟩
  · have HN := Lib.hid (sameL_len hl)
    have hb' : ((la.length : Int) == (lb.length : Int)) = false := beq_eq_false_iff_ne.2 (by omega)
    go_enter Try.func94, Try.ntmps94
    go_wp2
    go_ret
    exact ⟨ret_bool (by rw [HN.out]), 0, rfl⟩
end Go.Proofs.Ytkcknikaidbeoaa
