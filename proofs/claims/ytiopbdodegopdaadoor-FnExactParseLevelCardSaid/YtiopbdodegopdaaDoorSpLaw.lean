/- The rows that the reference's ParseLevel scans are the pieces of strings.Split at a slash. No walk. -/
import Derived.Test.YtiopbdodegopdaaDoorPrs
import Derived.Lib.SplitLaws
namespace Go.Proofs.YtiopbdodegopdaaDoor
open Go.RowKit

theorem ba_ext2 {a b : ByteArray} (h : a.data.toList = b.data.toList) : a = b := by
  cases a; cases b
  simp only [ByteArray.mk.injEq]
  exact Array.toList_inj.1 h
/-- a byte ahead of the first piece -/
def consH (b : List UInt8) : List (List UInt8) → List (List UInt8)
  | [] => [b]
  | x :: r => (b ++ x) :: r
def spl (c : UInt8) : List UInt8 → List (List UInt8)
  | [] => [[]]
  | b :: l => if b = c then [] :: spl c l else consH [b] (spl c l)
theorem spl_ne (c : UInt8) : ∀ l, ∃ x r, spl c l = x :: r
  | [] => ⟨_, _, rfl⟩
  | b :: l => by
    obtain ⟨x, r, h⟩ := spl_ne c l
    unfold spl
    split
    · exact ⟨_, _, rfl⟩
    · rw [h]; exact ⟨_, _, rfl⟩
theorem split_spl (c : UInt8) : ∀ l, Lib.split l [c] = spl c l
  | [] => by unfold Lib.split; rw [Lib.count_miss (by simp [Lib.index])]; rfl
  | b :: l => by
    have ih := split_spl c l
    unfold Lib.split at ih ⊢
    unfold spl
    by_cases h : b = c
    · subst h
      rw [if_pos rfl, Lib.count_cons_eq, Nat.add_comm, ← ih]
      have hix : Lib.index (b :: l) [b] = 0 := by rw [Lib.index]; simp [List.isPrefixOf]
      rw [Lib.splitK, hix]
      simp
    · rw [if_neg h, Lib.count_cons_ne b c l h, ← ih]
      have hp : ([c] : List UInt8).isPrefixOf (b :: l) = false := by simp [List.isPrefixOf, Ne.symm h]
      have hix : Lib.index (b :: l) [c] = if Lib.index l [c] == -1 then -1 else Lib.index l [c] + 1 := by rw [Lib.index, hp]; simp
      by_cases hm : Lib.index l [c] = -1
      · rw [Lib.count_miss hm]
        rfl
      · have hge := Lib.index_ge l [c]
        obtain ⟨j, hj⟩ : ∃ j : Nat, Lib.index l [c] = j := ⟨(Lib.index l [c]).toNat, by omega⟩
        rw [if_neg (fun e => hm (beq_iff_eq.1 e)), hj] at hix
        rw [Lib.count_hit (by simp) hj, Nat.add_comm, Lib.splitK, Lib.splitK, hix, hj]
        have e1 : ¬ (((j : Int) + 1) == -1) = true := fun e => by have := beq_iff_eq.1 e; omega
        have e2 : ¬ (((j : Int)) == -1) = true := fun e => by have := beq_iff_eq.1 e; omega
        rw [if_neg e1, if_neg e2]
        have e3 : ((j : Int) + 1).toNat = j + 1 := by omega
        have e4 : ((j : Int)).toNat = j := by omega
        rw [e3, e4]
        simp [consH, List.take_succ_cons]
/-- what has ended, then what is left behind the piece that has begun -/
def PP (c : UInt8) (out : List (List UInt8)) (cur l : List UInt8) : List (List UInt8) := out ++ consH cur (spl c l)
theorem PP_nil (c : UInt8) (out : List (List UInt8)) (cur : List UInt8) : PP c out cur [] = out ++ [cur] := by simp [PP, spl, consH]
theorem PP_eq {c : UInt8} {out : List (List UInt8)} {cur l : List UInt8} : PP c out cur (c :: l) = PP c (out ++ [cur]) [] l := by
  obtain ⟨x, r, h⟩ := spl_ne c l
  simp [PP, spl, consH, h]
theorem PP_ne {c b : UInt8} {out : List (List UInt8)} {cur l : List UInt8} (hb : b ≠ c) : PP c out cur (b :: l) = PP c out (cur ++ [b]) l := by
  obtain ⟨x, r, h⟩ := spl_ne c l
  simp [PP, spl, consH, h, hb]
theorem ext_data (s : ByteArray) (a b : Nat) : (s.extract a b).data.toList = (s.data.toList.drop a).take (b - a) := by rw [Lib.extract_data]
theorem byteAt_47 {s : ByteArray} {k : Nat} (h : k < s.data.toList.length) : byteAt s k = 47 ↔ s.data.toList[k] = 47 := by
  have hk : k < s.size := by rw [Array.length_toList] at h; exact h
  rw [byteAt_eq hk]
  have e : s[k]'hk = s.data.toList[k] := by rw [Array.getElem_toList]; rfl
  rw [e]
  constructor
  · intro h2
    have h3 : (s.data.toList[k]).toNat = 47 := by omega
    exact UInt8.toNat_inj.1 h3
  · intro h2; rw [h2]; rfl
theorem scan_PP (s : ByteArray) : ∀ k, k ≤ s.size → PP 47 ((scanL s k).1.map (·.data.toList)) (s.extract (scanL s k).2 k).data.toList (s.data.toList.drop k) = spl 47 s.data.toList
  | 0, _ => by
    obtain ⟨x, r, h⟩ := spl_ne 47 s.data.toList
    rw [ext_data]
    simp [PP, scanL, consH, h]
  | k + 1, hk => by
    have ih := scan_PP s k (by omega)
    have hlen : s.data.toList.length = s.size := by rw [Array.length_toList]; rfl
    have hk2 : k < s.data.toList.length := by omega
    rw [List.drop_eq_getElem_cons hk2] at ih
    obtain ⟨out, b, hs⟩ : ∃ out b, scanL s k = (out, b) := ⟨_, _, rfl⟩
    have hb : b ≤ k := by have := (scanL_le s k).1; rw [hs] at this; exact this
    rw [hs] at ih
    simp only at ih
    by_cases h : byteAt s k = 47
    · rw [scanL_yes hs (.inr h)]
      simp only [List.map_append, List.map_cons, List.map_nil]
      rw [(byteAt_47 hk2).1 h, PP_eq] at ih
      rw [ext_data s (k + 1) (k + 1), Nat.sub_self, List.take_zero]
      exact ih
    · rw [scanL_no hs (fun e => e.elim (by omega) h)]
      simp only
      rw [PP_ne (fun e => h ((byteAt_47 hk2).2 e))] at ih
      have e2 : (s.extract b (k + 1)).data.toList = (s.extract b k).data.toList ++ [s.data.toList[k]] := by
        rw [ext_data, ext_data, show k + 1 - b = (k - b) + 1 by omega, List.take_add_one, List.getElem?_drop, show b + (k - b) = k by omega, List.getElem?_eq_getElem hk2]
        rfl
      rw [e2]
      exact ih
theorem rows_spl (s : ByteArray) : (rowsL s).map (·.data.toList) = spl 47 s.data.toList := by
  have h := scan_PP s s.size (Nat.le_refl _)
  have hlen : s.data.toList.length = s.size := by rw [Array.length_toList]; rfl
  rw [List.drop_eq_nil_of_le (by omega), PP_nil] at h
  rw [← h]
  unfold rowsL
  rw [scanL_yes (out := (scanL s s.size).1) (b := (scanL s s.size).2) rfl (.inl rfl)]
  simp
theorem rows_split (s : ByteArray) : rowsL s = Lib.splitB ⟨#[47]⟩ 0 (Lib.countB s ⟨#[47]⟩) s := by
  have h1 := rows_spl s
  have h2 := Lib.splitB_data ⟨#[47]⟩ 0 (Lib.countB s ⟨#[47]⟩) s
  have h3 := split_spl 47 s.data.toList
  unfold Lib.split at h3
  have h4 : (rowsL s).map (·.data.toList) = (Lib.splitB ⟨#[47]⟩ 0 (Lib.countB s ⟨#[47]⟩) s).map (·.data.toList) := by rw [h1, ← h3, h2]
  exact (List.map_inj_right (fun a b e => ba_ext2 e)).1 h4
theorem rows_len (s : ByteArray) : (rowsL s).length = Lib.countB s ⟨#[47]⟩ + 1 := by
  rw [rows_split]
  exact Lib.splitB_all _ (by decide) 0 _ s rfl
end Go.Proofs.YtiopbdodegopdaaDoor
