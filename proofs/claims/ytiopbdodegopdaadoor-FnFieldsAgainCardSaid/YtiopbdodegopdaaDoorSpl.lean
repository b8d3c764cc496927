/- SplitFields: the program's and the reference's return the same plain function. -/
import Derived.Test.YtiopbdodegopdaaDoorStr
import Derived.Test.YtiopbdodegopdaaDoorCk
namespace Go.Proofs.YtiopbdodegopdaaDoor
open Go.RowKit

theorem Own.slS {w : World} {base sz : Nat} {v : Value} {n : Nat} {cs : List Value} (h : Own w base sz v n cs) : ∃ ao cap, v = .slice ao n cap := by
  rcases h.val with ⟨rfl, rfl⟩ | ⟨g, cap, rfl, _⟩
  · exact ⟨_, _, rfl⟩
  · exact ⟨_, _, rfl⟩
/-- after k bytes: the fields that have ended, and where the next one may begin -/
def scanF (s : ByteArray) : Nat → List ByteArray × Nat
  | 0 => ([], 0)
  | k + 1 => if byteAt s k = 32 then (if (scanF s k).2 < k then (scanF s k).1 ++ [s.extract (scanF s k).2 k] else (scanF s k).1, k + 1) else scanF s k
def fins (s : ByteArray) : List ByteArray := if (scanF s s.size).2 < s.size then (scanF s s.size).1 ++ [s.extract (scanF s s.size).2 s.size] else (scanF s s.size).1
def validC (s : ByteArray) : Bool := (List.range s.size).all fun j => decide (32 ≤ byteAt s j) && decide (byteAt s j ≤ 126)
def splOk (s : ByteArray) : Bool := decide (s.size ≤ 600) && validC s && decide ((fins s).length ≤ 24)
def splT (s : ByteArray) : List ByteArray × Bool := if splOk s = true then (fins s, true) else ([], false)
theorem scan_le (s : ByteArray) : ∀ k, (scanF s k).2 ≤ k
  | 0 => Nat.le_refl _
  | k + 1 => by
    have := scan_le s k
    simp only [scanF]
    split
    · exact Nat.le_refl _
    · omega
theorem scan_len (s : ByteArray) : ∀ k, (scanF s k).1.length ≤ k
  | 0 => Nat.le_refl _
  | k + 1 => by
    have := scan_len s k
    simp only [scanF]
    split
    · split
      · simp; omega
      · simp; omega
    · omega
theorem scan_sp1 {s : ByteArray} {k b : Nat} {out : List ByteArray} (h : scanF s k = (out, b)) (hc : byteAt s k = 32) (hb : b < k) : scanF s (k + 1) = (out ++ [s.extract b k], k + 1) := by
  simp only [scanF]; rw [if_pos hc, h]; simp only [if_pos hb]
theorem scan_sp2 {s : ByteArray} {k b : Nat} {out : List ByteArray} (h : scanF s k = (out, b)) (hc : byteAt s k = 32) (hb : ¬ b < k) : scanF s (k + 1) = (out, k + 1) := by
  simp only [scanF]; rw [if_pos hc, h]; simp only [if_neg hb]
theorem scan_no {s : ByteArray} {k b : Nat} {out : List ByteArray} (h : scanF s k = (out, b)) (hc : byteAt s k ≠ 32) : scanF s (k + 1) = (out, b) := by
  simp only [scanF]; rw [if_neg hc, h]
theorem fins_1 {s : ByteArray} {k b : Nat} {out : List ByteArray} (h : scanF s k = (out, b)) (hk : k = s.size) (hb : b < s.size) : fins s = out ++ [s.extract b s.size] := by
  subst hk; unfold fins; rw [h]; simp only [if_pos hb]
theorem fins_2 {s : ByteArray} {k b : Nat} {out : List ByteArray} (h : scanF s k = (out, b)) (hk : k = s.size) (hb : ¬ b < s.size) : fins s = out := by
  subst hk; unfold fins; rw [h]; simp only [if_neg hb]
theorem spl_long {s : ByteArray} (h : 600 < s.size) : splT s = ([], false) := by
  unfold splT splOk; rw [decide_eq_false (show ¬ s.size ≤ 600 by omega)]; rfl
theorem spl_bad {s : ByteArray} {k : Nat} (hk : k < s.size) (h : byteAt s k < 32 ∨ 126 < byteAt s k) : splT s = ([], false) := by
  have hv : validC s = false := by
    refine List.all_eq_false.2 ⟨k, List.mem_range.2 hk, ?_⟩
    rcases h with h | h
    · rw [decide_eq_false (show ¬ 32 ≤ byteAt s k by omega)]; simp
    · rw [decide_eq_false (show ¬ byteAt s k ≤ 126 by omega)]; simp
  unfold splT splOk; rw [hv]; simp
theorem spl_many {s : ByteArray} {l : List ByteArray} (hl : fins s = l) (h : 24 < l.length) : splT s = ([], false) := by
  unfold splT splOk; rw [hl, decide_eq_false (show ¬ l.length ≤ 24 by omega)]; simp
theorem spl_yes {s : ByteArray} {l : List ByteArray} (hl : fins s = l) (h : l.length ≤ 24) (h6 : s.size ≤ 600) (hv : ∀ j, j < s.size → 32 ≤ byteAt s j ∧ byteAt s j ≤ 126) : splT s = (l, true) := by
  have hv' : validC s = true := by
    refine List.all_eq_true.2 fun j hj => ?_
    have := hv j (List.mem_range.1 hj)
    rw [decide_eq_true this.1, decide_eq_true this.2]; rfl
  unfold splT splOk; rw [hl, decide_eq_true h, decide_eq_true h6, hv']; rfl

set_option maxRecDepth 100000 in
set_option maxHeartbeats 4000000 in
theorem spl_impl (s : ByteArray) (w : World) (hsz : s.size ≤ 1099511627775) :
    Calls Tryd.prog 8 #[.string s] w fun e w' => ∃ u, e = .returned (.tuple #[u, .bool (splT s).2]) ∧ Own w' w.heap.size 1 u (splT s).1.length ((splT s).1.map Value.string) ∧ Below w.heap.size w w' := by
  by_cases h6 : 600 < s.size
  · have HN := Lib.hid (spl_long h6)
    go_enter Tryd.func8, Tryd.ntmps8
    go_wp2_with fail
    go_ret2
    exact ⟨_, by rw [HN.out]; rfl, by rw [HN.out]; exact Own.nil _ _ _, Below.refl _ _⟩
  go_enter Tryd.func8, Tryd.ntmps8
  go_wp2_with fail
  go_loopw [4, 5, 6] (fun v st i wr => ∃ (k b : Nat) (out : List ByteArray), k ≤ s.size ∧ i = .int .i64 k ∧ Hid (scanF s k = (out, b)) ∧ out.length ≤ k ∧ ((b < k ∧ st = .int .i64 b) ∨ (b = k ∧ st = .int .i64 (-1))) ∧ Own wr w.heap.size 1 v out.length (out.map Value.string) ∧ Hid (∀ j, j < k → 32 ≤ byteAt s j ∧ byteAt s j ≤ 126) ∧ Below w.heap.size w wr) (fun _ _ i _ => s.size - (intOf i).toNat)
  case atStart => exact ⟨0, 0, [], Nat.zero_le _, rfl, Lib.hid rfl, Nat.le_refl _, .inr ⟨rfl, rfl⟩, Own.nil _ _ _, Lib.hid fun j h => by omega, Below.refl _ _⟩
  case round =>
    obtain ⟨k, b, out, hk, rfl, HS, hol, hst, hown, HV, hbl⟩ := hrel
    obtain ⟨ao, cp, rfl⟩ := hown.slS
    have hsz1 := hbl.size
    by_cases hlt : k < s.size
    · have hbk := byteAt_eq hlt
      by_cases hbad : ((s[k]'hlt).toNat : Int) < 32 ∨ 126 < ((s[k]'hlt).toNat : Int)
      · have HN := Lib.hid (spl_bad hlt (by rw [hbk]; exact hbad))
        rcases hbad with hb1 | hb1
        all_goals
          rcases hst with ⟨hb2, rfl⟩ | ⟨hb2, rfl⟩
          all_goals
            clear hbk
            go_wp2_with fail
            go_ret2
            exact ⟨_, by rw [HN.out]; rfl, by rw [HN.out]; exact Own.nil _ _ _, hbl⟩
      · have hg1 : ¬ ((s[k]'hlt).toNat : Int) < 32 := by omega
        have hg2 : ¬ 126 < ((s[k]'hlt).toNat : Int) := by omega
        have HV' : Hid (∀ j, j < k + 1 → 32 ≤ byteAt s j ∧ byteAt s j ≤ 126) := Lib.hid fun j hj => by
          by_cases e : j = k
          · subst e; rw [hbk]; omega
          · exact HV.out j (by omega)
        clear hbad
        by_cases hsp : ((s[k]'hlt).toNat : Int) = 32
        · have hb8 : (((s[k]'hlt).toNat : Int) == 32) = true := by rw [hsp]; rfl
          rcases hst with ⟨hb2, rfl⟩ | ⟨hb2, rfl⟩
          · have HS' := Lib.hid (scan_sp1 HS.out (by rw [hbk]; exact hsp) hb2)
            have HC : Hid ((#[Value.string (s.extract b k)] : Array Value).toList = [s.extract b k].map Value.string) := Lib.hid rfl
            have hol' : (out ++ [s.extract b k]).length ≤ k + 1 := by rw [List.length_append]; show out.length + 1 ≤ _; omega
            clear hbk hsp
            go_wp2_with (with_reducible refine app_strs (o := ⟨some 36, _, _, _, _, _⟩) wr _ rfl _ _ rfl w.heap.size hown rfl 1 1 [s.extract b k] rfl HC rfl (by omega) hsz1 ?_)
            intro v' w' hown' hg'
            have hbl' := hbl.trans (hown.below_of hg' (Nat.le_refl _) hsz1)
            clear hg'
            go_wp2_with fail
            go_roundw
            case rel => exact ⟨k + 1, k + 1, _, by omega, by go_num, HS', hol', .inr ⟨rfl, rfl⟩, hown'.fitS2, HV', hbl'⟩
            case measure => simp [intOf]; omega
          · have HS' := Lib.hid (scan_sp2 HS.out (by rw [hbk]; exact hsp) (by omega))
            clear hbk hsp
            go_wp2_with fail
            go_roundw
            case rel => exact ⟨k + 1, k + 1, _, by omega, by go_num, HS', by omega, .inr ⟨rfl, rfl⟩, hown, HV', hbl⟩
            case measure => simp [intOf]; omega
        · have hb8 : (((s[k]'hlt).toNat : Int) == 32) = false := beq_eq_false_iff_ne.2 hsp
          have HS' := Lib.hid (scan_no HS.out (by rw [hbk]; exact hsp))
          clear hbk hsp
          rcases hst with ⟨hb2, rfl⟩ | ⟨hb2, rfl⟩
          · go_wp2_with fail
            go_roundw
            case rel => exact ⟨k + 1, b, _, by omega, by go_num, HS', by omega, .inl ⟨by omega, rfl⟩, hown, HV', hbl⟩
            case measure => simp [intOf]; omega
          · subst hb2
            go_wp2_with fail
            go_roundw
            case rel => exact ⟨b + 1, b, _, by omega, by go_num, HS', by omega, .inl ⟨by omega, rfl⟩, hown, HV', hbl⟩
            case measure => simp [intOf]; omega
    · have hks : k = s.size := by omega
      rcases hst with ⟨hb2, rfl⟩ | ⟨hb2, rfl⟩
      · have HF := fins_1 HS.out hks (by omega)
        have HC : Hid ((#[Value.string (s.extract b s.size)] : Array Value).toList = [s.extract b s.size].map Value.string) := Lib.hid rfl
        have hb3 : b ≤ s.size := by omega
        by_cases hn : 24 < out.length + 1
        · have HN := Lib.hid (spl_many HF (by rw [List.length_append]; exact hn))
          clear hks HF
          go_wp2_with (with_reducible refine app_strs (o := ⟨some 47, _, _, _, _, _⟩) wr _ rfl _ _ rfl w.heap.size hown rfl 1 1 [s.extract b s.size] rfl HC rfl (by omega) hsz1 ?_)
          intro v' w' hown' hg'
          have hbl' := hbl.trans (hown.below_of hg' (Nat.le_refl _) hsz1)
          clear hg'
          obtain ⟨ao', cp', rfl⟩ := hown'.slS
          go_wp2_with fail
          go_ret2
          exact ⟨_, by rw [HN.out]; rfl, by rw [HN.out]; exact Own.nil _ _ _, hbl'⟩
        · have HN := Lib.hid (spl_yes HF (by rw [List.length_append]; show out.length + 1 ≤ 24; omega) (by omega) (fun j hj => HV.out j (by omega)))
          clear hks HF
          go_wp2_with (with_reducible refine app_strs (o := ⟨some 47, _, _, _, _, _⟩) wr _ rfl _ _ rfl w.heap.size hown rfl 1 1 [s.extract b s.size] rfl HC rfl (by omega) hsz1 ?_)
          intro v' w' hown' hg'
          have hbl' := hbl.trans (hown.below_of hg' (Nat.le_refl _) hsz1)
          clear hg'
          obtain ⟨ao', cp', rfl⟩ := hown'.slS
          go_wp2_with fail
          go_ret2
          exact ⟨_, by rw [HN.out]; rfl, by rw [HN.out]; exact hown'.fitS2, hbl'⟩
      · have HF := fins_2 HS.out hks (by omega)
        by_cases hn : 24 < out.length
        · have HN := Lib.hid (spl_many HF hn)
          clear hks HF
          go_wp2_with fail
          go_ret2
          exact ⟨_, by rw [HN.out]; rfl, by rw [HN.out]; exact Own.nil _ _ _, hbl⟩
        · have HN := Lib.hid (spl_yes HF (by omega) (by omega) (fun j hj => HV.out j (by omega)))
          clear hks HF
          go_wp2_with fail
          go_ret2
          exact ⟨_, by rw [HN.out]; rfl, by rw [HN.out]; exact hown, hbl⟩

set_option maxRecDepth 100000 in
set_option maxHeartbeats 4000000 in
theorem spl_spec (s : ByteArray) (w : World) (hsz : s.size ≤ 1099511627775) :
    Calls Tryd.prog 9 #[.string s] w fun e w' => ∃ u, e = .returned (.tuple #[u, .bool (splT s).2]) ∧ Own w' w.heap.size 1 u (splT s).1.length ((splT s).1.map Value.string) ∧ Below w.heap.size w w' := by
  by_cases h6 : 600 < s.size
  · have HN := Lib.hid (spl_long h6)
    go_enter Tryd.func9, Tryd.ntmps9
    go_wp2_with fail
    go_ret2
    exact ⟨_, by rw [HN.out]; rfl, by rw [HN.out]; exact Own.lit _ rfl rfl (Nat.le_refl _) (Nat.zero_le _), (Below.refl _ _).alloc (Nat.le_refl _) _⟩
  go_enter Tryd.func9, Tryd.ntmps9
  go_wp2_with fail
  go_loopw [4, 5, 6] (fun v st i wr => ∃ (k b : Nat) (out : List ByteArray), k ≤ s.size + 1 ∧ i = .int .i64 k ∧ st = .int .i64 b ∧ b ≤ k ∧ Hid (k ≤ s.size → scanF s k = (out, b)) ∧ Hid (k = s.size + 1 → fins s = out) ∧ out.length ≤ k ∧ Own wr w.heap.size 1 v out.length (out.map Value.string) ∧ Hid (∀ j, j < k → j < s.size → 32 ≤ byteAt s j ∧ byteAt s j ≤ 126) ∧ Below w.heap.size w wr) (fun _ _ i _ => s.size + 1 - (intOf i).toNat)
  case atStart => exact ⟨0, 0, [], Nat.zero_le _, rfl, rfl, Nat.le_refl _, Lib.hid fun _ => rfl, Lib.hid fun h => by omega, Nat.le_refl _, Own.lit _ rfl rfl (Nat.le_refl _) (Nat.zero_le _), Lib.hid fun j h => by omega, (Below.refl _ _).alloc (Nat.le_refl _) _⟩
  case round =>
    obtain ⟨k, b, out, hk, rfl, rfl, hbk0, HS, HF, hol, hown, HV, hbl⟩ := hrel
    obtain ⟨ao, cp, rfl⟩ := hown.slS
    have hsz1 := hbl.size
    by_cases hlt : k < s.size
    · have hbk := byteAt_eq hlt
      have hle : (k : Int) ≤ (s.size : Int) := by omega
      by_cases hbad : ((s[k]'hlt).toNat : Int) < 32 ∨ 126 < ((s[k]'hlt).toNat : Int)
      · have HN := Lib.hid (spl_bad hlt (by rw [hbk]; exact hbad))
        rcases hbad with hb1 | hb1
        all_goals
          clear hbk
          go_wp2_with fail
          go_ret2
          exact ⟨_, by rw [HN.out]; rfl, by rw [HN.out]; exact Own.lit _ rfl rfl hsz1 (Nat.zero_le _), hbl.alloc hsz1 _⟩
      · have hg1 : ¬ ((s[k]'hlt).toNat : Int) < 32 := by omega
        have hg2 : ¬ 126 < ((s[k]'hlt).toNat : Int) := by omega
        have HV' : Hid (∀ j, j < k + 1 → j < s.size → 32 ≤ byteAt s j ∧ byteAt s j ≤ 126) := Lib.hid fun j hj hj2 => by
          by_cases e : j = k
          · subst e; rw [hbk]; omega
          · exact HV.out j (by omega) hj2
        clear hbad
        have HF' : ∀ out' : List ByteArray, Hid (k + 1 = s.size + 1 → fins s = out') := fun _ => Lib.hid fun h => by omega
        by_cases hsp : ((s[k]'hlt).toNat : Int) = 32
        · have hb8 : (((s[k]'hlt).toNat : Int) == 32) = true := by rw [hsp]; rfl
          have hb9 : (((s[k]'hlt).toNat : Int) != 32) = false := by simp [hsp]
          by_cases hb2 : b < k
          · have HS' := Lib.hid (fun (_ : k + 1 ≤ s.size) => scan_sp1 (HS.out (by omega)) (by rw [hbk]; exact hsp) hb2)
            have HC : Hid ((#[Value.string (s.extract b k)] : Array Value).toList = [s.extract b k].map Value.string) := Lib.hid rfl
            have hol' : (out ++ [s.extract b k]).length ≤ k + 1 := by rw [List.length_append]; show out.length + 1 ≤ _; omega
            clear hbk hsp
            go_wp2_with (with_reducible refine app_strs (o := ⟨some 54, _, _, _, _, _⟩) wr _ rfl _ _ rfl w.heap.size hown rfl 1 1 [s.extract b k] rfl HC rfl (by omega) hsz1 ?_)
            intro v' w' hown' hg'
            have hbl' := hbl.trans (hown.below_of hg' (Nat.le_refl _) hsz1)
            clear hg'
            go_wp2_with fail
            go_roundw
            case rel => exact ⟨k + 1, k + 1, _, by omega, by go_num, by go_num, Nat.le_refl _, HS', HF' _, hol', hown'.fitS2, HV', hbl'⟩
            case measure => simp [intOf]; omega
          · have HS' := Lib.hid (fun (_ : k + 1 ≤ s.size) => scan_sp2 (HS.out (by omega)) (by rw [hbk]; exact hsp) (by omega))
            clear hbk hsp
            go_wp2_with fail
            go_roundw
            case rel => exact ⟨k + 1, k + 1, _, by omega, by go_num, by go_num, Nat.le_refl _, HS', HF' _, by omega, hown, HV', hbl⟩
            case measure => simp [intOf]; omega
        · have hb8 : (((s[k]'hlt).toNat : Int) == 32) = false := beq_eq_false_iff_ne.2 hsp
          have hb9 : (((s[k]'hlt).toNat : Int) != 32) = true := by simp [hsp]
          have HS' := Lib.hid (fun (_ : k + 1 ≤ s.size) => scan_no (HS.out (by omega)) (by rw [hbk]; exact hsp))
          clear hbk hsp
          go_wp2_with fail
          go_roundw
          case rel => exact ⟨k + 1, b, _, by omega, by go_num, rfl, by omega, HS', HF' _, by omega, hown, HV', hbl⟩
          case measure => simp [intOf]; omega
    · by_cases hke : k = s.size
      · have hle : (k : Int) ≤ (s.size : Int) := by omega
        have HV' : Hid (∀ j, j < k + 1 → j < s.size → 32 ≤ byteAt s j ∧ byteAt s j ≤ 126) := Lib.hid fun j hj hj2 => HV.out j (by omega) hj2
        have HSn : ∀ (o' : List ByteArray) (b' : Nat), Hid (k + 1 ≤ s.size → scanF s (k + 1) = (o', b')) := fun _ _ => Lib.hid fun h => by omega
        have HKE := Lib.hid hke
        by_cases hb2 : b < k
        · have HF2 : Hid (k + 1 = s.size + 1 → fins s = out ++ [s.extract b k]) := Lib.hid fun _ => by
            have := fins_1 (HS.out (by omega)) hke (by omega)
            rw [this, hke]
          have HC : Hid ((#[Value.string (s.extract b k)] : Array Value).toList = [s.extract b k].map Value.string) := Lib.hid rfl
          have hol' : (out ++ [s.extract b k]).length ≤ k + 1 := by rw [List.length_append]; show out.length + 1 ≤ _; omega
          clear hke
          go_wp2_with (with_reducible refine app_strs (o := ⟨some 54, _, _, _, _, _⟩) wr _ rfl _ _ rfl w.heap.size hown rfl 1 1 [s.extract b k] rfl HC rfl (by omega) hsz1 ?_)
          intro v' w' hown' hg'
          have hbl' := hbl.trans (hown.below_of hg' (Nat.le_refl _) hsz1)
          clear hg'
          go_wp2_with fail
          go_roundw
          case rel => exact ⟨k + 1, k + 1, _, by omega, by go_num, by go_num, Nat.le_refl _, HSn _ _, HF2, hol', hown'.fitS2, HV', hbl'⟩
          case measure => simp [intOf]; omega
        · have HF2 : Hid (k + 1 = s.size + 1 → fins s = out) := Lib.hid fun _ => fins_2 (HS.out (by omega)) hke (by omega)
          clear hke
          go_wp2_with fail
          go_roundw
          case rel => exact ⟨k + 1, k + 1, _, by omega, by go_num, by go_num, Nat.le_refl _, HSn _ _, HF2, by omega, hown, HV', hbl⟩
          case measure => simp [intOf]; omega
      · have hke' : k = s.size + 1 := by omega
        have HFo := HF.out hke'
        have hgt : ¬ (k : Int) ≤ (s.size : Int) := by omega
        by_cases hn : 24 < out.length
        · have HN := Lib.hid (spl_many HFo hn)
          clear hke' HFo
          go_wp2_with fail
          go_ret2
          exact ⟨_, by rw [HN.out]; rfl, by rw [HN.out]; exact Own.lit _ rfl rfl hsz1 (Nat.zero_le _), hbl.alloc hsz1 _⟩
        · have HN := Lib.hid (spl_yes HFo (by omega) (by omega) (fun j hj => HV.out j (by omega) hj))
          clear hke' HFo
          go_wp2_with fail
          go_ret2
          exact ⟨_, by rw [HN.out]; rfl, by rw [HN.out]; exact hown, hbl⟩
end Go.Proofs.YtiopbdodegopdaaDoor
