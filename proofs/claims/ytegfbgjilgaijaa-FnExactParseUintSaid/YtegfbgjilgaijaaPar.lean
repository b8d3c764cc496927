/- ParseUint and the reference's FormatInt from 0 on. -/
import Derived.Test.YtegfbgjilgaijaaHex
import Derived.Test.YtegfbgjilgaijaaDecLaw
import Derived.Lib.Strings
namespace Go.Proofs.Ytegfbgjilgaijaa
open Go.RowKit

def parOk (s : ByteArray) : Bool :=
  decide (1 ≤ s.size) && decide (s.size ≤ 10) && s.data.toList.all digOk && !(decide (byteAt s 0 = 48) && decide (1 < s.size)) && decide (numOf s.data.toList ≤ 1000000000)
def parT (s : ByteArray) : Int × Bool := if parOk s = true then (numOf s.data.toList, true) else (0, false)
theorem parT_no {s : ByteArray} (h : parOk s = false) : parT s = (0, false) := by unfold parT; rw [h]; rfl
theorem parT_yes {s : ByteArray} (h : parOk s = true) : parT s = (numOf s.data.toList, true) := if_pos h
theorem parOk_0 {s : ByteArray} (h : s.size = 0) : parOk s = false := by unfold parOk; rw [h]; rfl
theorem parOk_long {s : ByteArray} (h : 10 < s.size) : parOk s = false := by unfold parOk; rw [decide_eq_false (show ¬ s.size ≤ 10 by omega)]; simp
theorem parOk_lead {s : ByteArray} (h : byteAt s 0 = 48) (h1 : 1 < s.size) : parOk s = false := by unfold parOk; rw [decide_eq_true h, decide_eq_true h1]; simp
theorem parOk_fig {s : ByteArray} (h : s.data.toList.all digOk = false) : parOk s = false := by unfold parOk; rw [h]; simp
theorem parOk_great {s : ByteArray} (h : 1000000000 < numOf s.data.toList) : parOk s = false := by unfold parOk; rw [decide_eq_false (show ¬ numOf s.data.toList ≤ 1000000000 by omega)]; simp
theorem parOk_ok {s : ByteArray} (h0 : 1 ≤ s.size) (h1 : s.size ≤ 10) (h2 : s.data.toList.all digOk = true) (h3 : byteAt s 0 ≠ 48 ∨ s.size ≤ 1) (h4 : numOf s.data.toList ≤ 1000000000) : parOk s = true := by
  unfold parOk
  rw [decide_eq_true h0, decide_eq_true h1, h2, decide_eq_true h4]
  simp only [Bool.true_and, Bool.and_true, Bool.not_eq_true', Bool.and_eq_false_iff, decide_eq_false_iff_not]
  omega
theorem ret_slot {k : IntKind} {a b : Int} (h : a = b) : Value.int k a = Value.int k b := by rw [h]
theorem bytes_getD0 (a : ByteArray) (h : 0 < a.size) : a.data.toList.getD 0 0 = a[0]'h := by
  have h' : 0 < a.data.size := h
  simp only [List.getD, Array.getElem?_toList, Array.getElem?_eq_getElem h']
  rfl
theorem bytes_len (s : ByteArray) : s.data.toList.length = s.size := by simp
theorem take_next (s : ByteArray) (k : Nat) (h : k < s.size) : s.data.toList.take (k + 1) = s.data.toList.take k ++ [s[k]'h] := by
  rw [List.take_succ_eq_append_getElem (by simpa using h)]; rfl
theorem digOk_yes {c : UInt8} (h1 : 48 ≤ (c.toNat : Int)) (h2 : (c.toNat : Int) ≤ 57) : digOk c = true := by unfold digOk; rw [decide_eq_true h1, decide_eq_true h2]; rfl
theorem digOk_no {c : UInt8} (h : (c.toNat : Int) < 48 ∨ 57 < (c.toNat : Int)) : digOk c = false := by
  unfold digOk; simp only [Bool.and_eq_false_iff, decide_eq_false_iff_not]; omega
theorem all_no {s : ByteArray} {k : Nat} (hk : k < s.size) (h : digOk (s[k]'hk) = false) : s.data.toList.all digOk = false := by
  rw [List.all_eq_false]
  refine ⟨s[k]'hk, ?_, by simp [h]⟩
  show s.data[k]'hk ∈ s.data.toList
  simp
structure ParRel (s : ByteArray) (k : Nat) (m : Int) : Prop where
  num : m = numOf (s.data.toList.take k)
  ok : (s.data.toList.take k).all digOk = true
theorem ParRel.zero (s : ByteArray) : ParRel s 0 0 := ⟨rfl, rfl⟩
theorem ParRel.bd {s : ByteArray} {k : Nat} {m : Int} (h : ParRel s k m) (hk : k ≤ 10) : 0 ≤ m ∧ m < 10000000000 := by
  have hb := numOf_bd _ h.ok
  rw [← h.num] at hb
  have hl : (s.data.toList.take k).length ≤ 10 := by rw [List.length_take]; omega
  exact ⟨hb.1, Int.lt_of_lt_of_le hb.2 (pow10_mono hl)⟩
theorem ParRel.next {s : ByteArray} {k : Nat} {m : Int} (h : ParRel s k m) (hk : k < s.size) (h1 : 48 ≤ ((s[k]'hk).toNat : Int)) (h2 : ((s[k]'hk).toNat : Int) ≤ 57) : ParRel s (k + 1) (10 * m + (((s[k]'hk).toNat : Int) - 48)) := by
  refine ⟨?_, ?_⟩
  · rw [take_next s k hk, numOf_snoc, h.num]
  · rw [take_next s k hk, List.all_append, h.ok]; simp [digOk_yes h1 h2]
theorem ParRel.fin {s : ByteArray} {k : Nat} {m : Int} (h : ParRel s k m) (hk : s.size ≤ k) : m = numOf s.data.toList ∧ s.data.toList.all digOk = true := by
  have e : s.data.toList.take k = s.data.toList := List.take_of_length_le (by simpa using hk)
  have h1 := h.num
  have h2 := h.ok
  rw [e] at h1 h2
  exact ⟨h1, h2⟩

set_option maxRecDepth 100000 in
set_option maxHeartbeats 1000000 in
theorem par_impl (s : ByteArray) (w : World) (hsz : s.size ≤ 1099511627776) :
    Calls Try.prog 50 #[.string s] w fun e w' => e = .returned (.tuple #[.int .i64 (parT s).1, .bool (parT s).2]) ∧ w = w' := by
  by_cases h0 : s.size = 0
  · have HR := Lib.hid (parT_no (parOk_0 h0))
    have hz : ((s.size : Int) == 0) = true := by simp [h0]
    clear h0
    go_enter Try.func50, Try.ntmps50
    go_wp2_with fail
    go_ret2
    exact ⟨by rw [HR.out]; rfl, rfl⟩
  have hz : ((s.size : Int) == 0) = false := beq_eq_false_iff_ne.2 (by omega)
  have h0' : 0 < s.size := by omega
  clear h0
  by_cases h1 : 10 < s.size
  · have HR := Lib.hid (parT_no (parOk_long h1))
    go_enter Try.func50, Try.ntmps50
    go_wp2_with fail
    go_ret2
    exact ⟨by rw [HR.out]; rfl, rfl⟩
  have hb := (s[0]'h0').toNat_lt
  by_cases hl : ((((s[0]'h0').toNat : Int) == 48) = true ∧ 1 < s.size)
  · have HR := Lib.hid (parT_no (parOk_lead (by rw [byteAt_eq h0']; simpa using hl.1) hl.2))
    obtain ⟨l1, l2⟩ := hl
    go_enter Try.func50, Try.ntmps50
    go_wp2_with fail
    go_ret2
    exact ⟨by rw [HR.out]; rfl, rfl⟩
  have HN : Hid (byteAt s 0 ≠ 48 ∨ s.size ≤ 1) := by
    rw [byteAt_eq h0']
    refine Lib.hid ?_
    by_cases h2 : 1 < s.size
    · left; intro e; exact hl ⟨by simpa using e, h2⟩
    · right; omega
  have hl' : (((s[0]'h0').toNat : Int) == 48) = false ∨ ((((s[0]'h0').toNat : Int) == 48) = true ∧ s.size ≤ 1) := by
    cases h2 : (((s[0]'h0').toNat : Int) == 48)
    · exact .inl rfl
    · exact .inr ⟨rfl, by have : ¬ 1 < s.size := fun h => hl ⟨h2, h⟩
                          omega⟩
  clear hl
  rcases hl' with l1 | ⟨l1, l2⟩
  all_goals
    go_enter Try.func50, Try.ntmps50
    go_wp2_with fail
    go_loop [4, 5] (fun n i => ∃ (k : Nat) (m : Int), k ≤ s.size ∧ i = .int .i64 k ∧ n = .int .i64 m ∧ ParRel s k m) (fun _ i => s.size - (intOf i).toNat)
    case atStart => exact ⟨0, 0, Nat.zero_le _, rfl, rfl, ParRel.zero s⟩
    case round =>
      obtain ⟨k, m, hk, rfl, rfl, hR⟩ := hrel
      have hm := hR.bd (by omega)
      by_cases hlt : k < s.size
      · have hbk := (s[k]'hlt).toNat_lt
        rcases (show ((s[k]'hlt).toNat : Int) < 48 ∨ (48 ≤ ((s[k]'hlt).toNat : Int) ∧ 57 < ((s[k]'hlt).toNat : Int)) ∨ (48 ≤ ((s[k]'hlt).toNat : Int) ∧ ((s[k]'hlt).toNat : Int) ≤ 57) by omega) with hc | ⟨hc1, hc⟩ | ⟨hc1, hc⟩
        · have HR := Lib.hid (parT_no (parOk_fig (all_no hlt (digOk_no (.inl hc)))))
          clear hR l1
          go_wp2_with fail
          go_ret2
          exact ⟨by rw [HR.out]; rfl, rfl⟩
        · have HR := Lib.hid (parT_no (parOk_fig (all_no hlt (digOk_no (.inr hc)))))
          clear hR l1
          go_wp2_with fail
          go_ret2
          exact ⟨by rw [HR.out]; rfl, rfl⟩
        · have HR := Lib.hid (hR.next hlt hc1 hc)
          clear hR l1
          go_wp2_with fail
          go_round
          case rel => exact ⟨k + 1, _, by omega, by go_num, by go_num, HR.out⟩
          case measure => simp [intOf]; omega
      · obtain ⟨f1, f2⟩ := hR.fin (by omega)
        have F1 := Lib.hid f1
        clear f1
        by_cases hg : 1000000000 < m
        · have HR := Lib.hid (parT_no (parOk_great (by rw [← F1.out]; exact hg)))
          clear hR l1 f2
          go_wp2_with fail
          go_ret2
          exact ⟨by rw [HR.out]; rfl, rfl⟩
        · have HR := Lib.hid (parT_yes (parOk_ok h0' (by omega) f2 HN.out (by rw [← F1.out]; omega)))
          clear hR l1 f2
          go_wp2_with fail
          go_ret2
          exact ⟨by rw [HR.out, ← F1.out]; rfl, rfl⟩

/-! FormatInt from 0 on -/
def fmtG (n : Int) : List UInt8 := if n = 0 then [] else fmtU n
theorem fig_lt {x : Int} (h : x < 10) : fig x = 48 + x := if_pos h
theorem fmtG_step {n : Int} (h : 0 < n) (hm : n < 10000000000000000000) : fmtG n = fmtG (n / 10) ++ [b8 (fig (n % 10))] := by
  unfold fmtG
  rw [if_neg (by omega), fig_lt (by omega)]
  by_cases h1 : n < 10
  · rw [fmtU_lt h1, if_pos (by omega), show n % 10 = n by omega]; rfl
  · rw [fmtU_ge h1 hm, if_neg (by omega)]
/-- the string of a number from 0 on -/
def fmtS (n : Int) : ByteArray := ⟨(fmtU n).toArray⟩
structure FmtRel (n m : Int) (t : ByteArray) : Prop where
  eq : fmtG n = fmtG m ++ t.data.toList
  lo : 0 ≤ m
  hi : m < 10 ^ (19 - t.size)
  sz : t.size ≤ 19
theorem FmtRel.start {n : Int} (h0 : 0 ≤ n) (h : n < 10000000000000000000) : FmtRel n n ⟨#[]⟩ := ⟨by simp, h0, h, Nat.zero_le _⟩
theorem FmtRel.step {n m : Int} {t : ByteArray} (h : FmtRel n m t) (hm : 0 < m) : FmtRel n (m / 10) (⟨[b8 (fig (m % 10))].toArray⟩ ++ t) := by
  obtain ⟨h1, h2, h3, h4⟩ := h
  have hlt : t.size < 19 := by
    rcases Nat.lt_or_ge t.size 19 with h | h
    · exact h
    · rw [show 19 - t.size = 0 by omega] at h3; simp at h3; omega
  have hs : (⟨[b8 (fig (m % 10))].toArray⟩ ++ t : ByteArray).size = t.size + 1 := by
    rw [ByteArray.size_append]; show 1 + t.size = _; omega
  have hup : m < 10000000000000000000 := Int.lt_of_lt_of_le h3 (pow10_mono (by omega : 19 - t.size ≤ 19))
  refine ⟨?_, by omega, ?_, by omega⟩
  · rw [h1, fmtG_step hm hup, ByteArray.data_append, Array.toList_append, List.append_assoc]
  · rw [hs]
    rw [show 19 - t.size = (19 - (t.size + 1)) + 1 by omega, Int.pow_succ] at h3
    omega
theorem FmtRel.fin {n : Int} {t : ByteArray} (h : FmtRel n 0 t) (hn : 0 < n) : t = fmtS n := by
  have h1 := h.eq
  unfold fmtG at h1
  rw [if_neg (by omega), if_pos rfl, List.nil_append] at h1
  unfold fmtS
  rw [h1]
theorem FmtRel.bd {n m : Int} {t : ByteArray} (h : FmtRel n m t) : 0 ≤ m ∧ m < 10000000000000000000 ∧ t.size ≤ 19 :=
  ⟨h.lo, Int.lt_of_lt_of_le h.hi (pow10_mono (by omega : 19 - t.size ≤ 19)), h.sz⟩
theorem fmtS_0 : fmtS 0 = ⟨#[48]⟩ := by
  unfold fmtS
  rw [fmtU_lt (by omega)]
  rfl
/-- '[]byte{x}' -/
theorem lit1 (w : World) (x : Int) (hx : 0 ≤ x ∧ x < 256) :
    At (w.alloc (.cells #[.int .u8 x] 5)) 1 (.slice (some ⟨w.heap.size, 0, none⟩) 1 1) 1 (u8s [b8 x]) := by
  refine (Own.lit (w := w) (C := #[.int .u8 x]) (base := 0) (sz := 1) (n := 1) 5 ?_ rfl (Nat.zero_le _) (by unfold maxLen; omega)).at_
  simp only [u8s, List.map_cons, List.map_nil]
  rw [b8_nat hx.1 hx.2]

set_option maxRecDepth 100000 in
set_option maxHeartbeats 1000000 in
theorem fmt_spec (n : Int) (w : World) (h0 : 0 ≤ n) (hn : n < 9223372036854775808) :
    Calls Try.prog 98 #[.int .i64 n] w fun e w' => e = .returned (.string (fmtS n)) ∧ Below w.heap.size w w' := by
  by_cases hz : n = 0
  · subst hz
    have HR := Lib.hid fmtS_0
    go_enter Try.func98, Try.ntmps98
    go_wp2_with fail
    go_ret
    exact ⟨by rw [HR.out]; rfl, Below.refl _ _⟩
  · have hz' : (n == 0) = false := beq_eq_false_iff_ne.2 hz
    have hp : 0 < n := by omega
    have hn0 : ¬ n < 0 := by omega
    have hd : decide (n < 0) = false := decide_eq_false hn0
    have HS : Hid (FmtRel n n ⟨#[]⟩) := Lib.hid (FmtRel.start h0 (by omega))
    clear hz
    go_enter Try.func98, Try.ntmps98
    go_wp2_with fail
    go_loopw [0, 4] (fun x v wr => ∃ (m : Int) (t : ByteArray), x = .int .i64 m ∧ v = .string t ∧ m ≤ n ∧ Hid (FmtRel n m t) ∧ Below w.heap.size w wr) (fun x _ _ => (intOf x).toNat)
    case atStart => exact ⟨n, _, rfl, rfl, Int.le_refl _, HS, Below.refl _ _⟩
    case round =>
      obtain ⟨m, t, rfl, rfl, hmn, hR, hbl⟩ := hrel
      obtain ⟨b1, b2, b3⟩ := hR.out.bd
      have hsz := hbl.size
      by_cases hm : m = 0
      · have HF := Lib.hid ((hm ▸ hR.out : FmtRel n 0 t).fin hp)
        have hm' : (m == 0) = true := by simp [hm]
        have hm2 : (m != 0) = false := by simp [hm]
        clear hm hR
        go_wp2_with fail
        go_ret
        exact ⟨by rw [← HF.out]; rfl, hbl⟩
      · have HF := Lib.hid (hR.out.step (by omega))
        have hm' : (m == 0) = false := beq_eq_false_iff_ne.2 hm
        have hm2 : (m != 0) = true := by simp [hm]
        have hmp : 0 < m := by omega
        clear hm hR
        have hf := fig_bd (x := m % 10) (by omega) (by omega)
        have HA := lit1 wr (fig (m % 10)) hf
        go_wp2_with fail
        refine (figure_any _ _ (by omega) (by omega)).mono ?_
        rintro e wa ⟨rfl, rfl⟩
        go_wp2_with (with_reducible refine str_law (o := ⟨some 21, _, _, _, _, _⟩) _ rfl _ rfl HA rfl ?_)
        go_roundw
        case rel => exact ⟨m / 10, _, rfl, rfl, by omega, HF, hbl.alloc hsz _⟩
        case measure => simp [intOf]; omega

theorem par_test {s : ByteArray} (h1 : s.size ≤ 10) (h2 : s.data.toList.all digOk = true) (h4 : numOf s.data.toList ≤ 1000000000) : ((fmtS (numOf s.data.toList)).toList == s.toList) = parOk s := by
  rw [Lib.toList_data, Lib.toList_data]
  show (fmtU (numOf s.data.toList) == s.data.toList) = parOk s
  have hlen := bytes_len s
  cases hL : s.data.toList with
  | nil =>
    rw [hL] at hlen
    rw [parOk_0 (by simpa using hlen.symm)]
    rfl
  | cons c r =>
    rw [hL] at hlen
    have hs0 : 0 < s.size := by rw [← hlen]; simp
    have hb : byteAt s 0 = (c.toNat : Int) := by
      rw [byteAt_eq hs0]
      have := bytes_getD0 s hs0
      rw [hL] at this
      rw [← this]
      rfl
    rw [hL] at h2
    by_cases hc : c.toNat = 48 ∧ r ≠ []
    · rw [parOk_lead (by rw [hb]; omega) (by have := List.length_pos_iff.2 hc.2; rw [← hlen]; simp; omega)]
      exact beq_eq_false_iff_ne.2 (fmtU_zero (c :: r) h2 r c rfl hc.1 hc.2)
    · have hc' : c.toNat ≠ 48 ∨ r = [] := by
        by_cases h : c.toNat = 48
        · right
          by_cases hr : r = []
          · exact hr
          · exact absurd ⟨h, hr⟩ hc
        · exact .inl h
      rw [parOk_ok (by omega) h1 (by rw [hL]; exact h2) (by
        rcases hc' with h | h
        · left; rw [hb]; omega
        · right; rw [h] at hlen; simp at hlen; omega) h4]
      exact beq_iff_eq.2 (fmtU_num (c :: r) (by omega) h2 c r rfl hc')

set_option maxRecDepth 100000 in
set_option maxHeartbeats 1000000 in
theorem par_spec (s : ByteArray) (w : World) (hsz : s.size ≤ 1099511627776) :
    Calls Try.prog 49 #[.string s] w fun e w' => e = .returned (.tuple #[.int .i64 (parT s).1, .bool (parT s).2]) ∧ Below w.heap.size w w' := by
  by_cases h1 : 10 < s.size
  · have HR := Lib.hid (parT_no (parOk_long h1))
    go_enter Try.func49, Try.ntmps49
    go_wp2_with fail
    go_ret2
    exact ⟨by rw [HR.out]; rfl, Below.refl _ _⟩
  go_enter Try.func49, Try.ntmps49
  go_wp2_with fail
  go_loop [4, 5] (fun n i => ∃ (k : Nat) (m : Int), k ≤ s.size ∧ i = .int .i64 k ∧ n = .int .i64 m ∧ ParRel s k m) (fun _ i => s.size - (intOf i).toNat)
  case atStart => exact ⟨0, 0, Nat.zero_le _, rfl, rfl, ParRel.zero s⟩
  case round =>
    obtain ⟨k, m, hk, rfl, rfl, hR⟩ := hrel
    have hm := hR.bd (by omega)
    by_cases hlt : k < s.size
    · have hbk := (s[k]'hlt).toNat_lt
      rcases (show ((s[k]'hlt).toNat : Int) < 48 ∨ (48 ≤ ((s[k]'hlt).toNat : Int) ∧ 57 < ((s[k]'hlt).toNat : Int)) ∨ (48 ≤ ((s[k]'hlt).toNat : Int) ∧ ((s[k]'hlt).toNat : Int) ≤ 57) by omega) with hc | ⟨hc1, hc⟩ | ⟨hc1, hc⟩
      · have HR := Lib.hid (parT_no (parOk_fig (all_no hlt (digOk_no (.inl hc)))))
        clear hR
        go_wp2_with fail
        go_ret2
        exact ⟨by rw [HR.out]; rfl, Below.refl _ _⟩
      · have HR := Lib.hid (parT_no (parOk_fig (all_no hlt (digOk_no (.inr hc)))))
        clear hR
        go_wp2_with fail
        go_ret2
        exact ⟨by rw [HR.out]; rfl, Below.refl _ _⟩
      · have HR := Lib.hid (hR.next hlt hc1 hc)
        clear hR
        go_wp2_with fail
        go_round
        case rel => exact ⟨k + 1, _, by omega, by go_num, ret_slot (by omega), HR.out⟩
        case measure => simp [intOf]; omega
    · obtain ⟨f1, f2⟩ := hR.fin (by omega)
      have F1 := Lib.hid f1
      clear f1
      by_cases hg : 1000000000 < m
      · have HR := Lib.hid (parT_no (parOk_great (by rw [← F1.out]; exact hg)))
        clear hR f2
        go_wp2_with fail
        go_ret2
        exact ⟨by rw [HR.out]; rfl, Below.refl _ _⟩
      · have HT := par_test (s := s) (by omega) f2 (by rw [← F1.out]; omega)
        rw [← F1.out] at HT
        cases hp : parOk s
        · have HR := Lib.hid (parT_no hp)
          rw [hp] at HT
          clear hR f2 hp
          go_wp2_with fail
          refine (fmt_spec _ _ (by omega) (by omega)).mono ?_
          rintro e wa ⟨rfl, ha⟩
          go_wp2_with fail
          go_ret2
          exact ⟨by rw [HR.out]; rfl, ha⟩
        · have HR := Lib.hid (parT_yes hp)
          rw [hp] at HT
          clear hR f2 hp
          go_wp2_with fail
          refine (fmt_spec _ _ (by omega) (by omega)).mono ?_
          rintro e wa ⟨rfl, ha⟩
          go_wp2_with fail
          go_ret2
          exact ⟨by rw [HR.out, ← F1.out]; rfl, ha⟩
end Go.Proofs.Ytegfbgjilgaijaa
