/- Texts SpLaw, Psi in one. -/
import Derived.Test.YtiopbdodegopdaaDoorKE
import Derived.Test.YtiopbdodegopdaaDoorKW
import Derived.Lib.SplitLaws
import Derived.Test.YtiopbdodegopdaaDoorShelf
/- The rows that the reference's ParseLevel scans are the pieces of strings.Split at a slash. No walk. -/
namespace Go.Proofs.YtiopbdodegopdaaDoor
open Go.RowKit

theorem ba_ext2 {a b : ByteArray} (h : a.data.toList = b.data.toList) : a = b := by
  cases a; cases b
  simp only [ByteArray.mk.injEq]
  exact Array.toList_inj.1 h
/-- a byte ahead of the first piece -/
def consH (b : List UInt8) : List (List UInt8) → List (List UInt8)
  | [] => [b]
  | x :: r => (b ++ x) :: r
def spl (c : UInt8) : List UInt8 → List (List UInt8)
  | [] => [[]]
  | b :: l => if b = c then [] :: spl c l else consH [b] (spl c l)
theorem spl_ne (c : UInt8) : ∀ l, ∃ x r, spl c l = x :: r
  | [] => ⟨_, _, rfl⟩
  | b :: l => by
    obtain ⟨x, r, h⟩ := spl_ne c l
    unfold spl
    split
    · exact ⟨_, _, rfl⟩
    · rw [h]; exact ⟨_, _, rfl⟩
theorem split_spl (c : UInt8) : ∀ l, Lib.split l [c] = spl c l
  | [] => by unfold Lib.split; rw [Lib.count_miss (by simp [Lib.index])]; rfl
  | b :: l => by
    have ih := split_spl c l
    unfold Lib.split at ih ⊢
    unfold spl
    by_cases h : b = c
    · subst h
      rw [if_pos rfl, Lib.count_cons_eq, Nat.add_comm, ← ih]
      have hix : Lib.index (b :: l) [b] = 0 := by rw [Lib.index]; simp [List.isPrefixOf]
      rw [Lib.splitK, hix]
      simp
    · rw [if_neg h, Lib.count_cons_ne b c l h, ← ih]
      have hp : ([c] : List UInt8).isPrefixOf (b :: l) = false := by simp [List.isPrefixOf, Ne.symm h]
      have hix : Lib.index (b :: l) [c] = if Lib.index l [c] == -1 then -1 else Lib.index l [c] + 1 := by rw [Lib.index, hp]; simp
      by_cases hm : Lib.index l [c] = -1
      · rw [Lib.count_miss hm]
        rfl
      · have hge := Lib.index_ge l [c]
        obtain ⟨j, hj⟩ : ∃ j : Nat, Lib.index l [c] = j := ⟨(Lib.index l [c]).toNat, by omega⟩
        rw [if_neg (fun e => hm (beq_iff_eq.1 e)), hj] at hix
        rw [Lib.count_hit (by simp) hj, Nat.add_comm, Lib.splitK, Lib.splitK, hix, hj]
        have e1 : ¬ (((j : Int) + 1) == -1) = true := fun e => by have := beq_iff_eq.1 e; omega
        have e2 : ¬ (((j : Int)) == -1) = true := fun e => by have := beq_iff_eq.1 e; omega
        rw [if_neg e1, if_neg e2]
        have e3 : ((j : Int) + 1).toNat = j + 1 := by omega
        have e4 : ((j : Int)).toNat = j := by omega
        rw [e3, e4]
        simp [consH, List.take_succ_cons]
/-- what has ended, then what is left behind the piece that has begun -/
def PP (c : UInt8) (out : List (List UInt8)) (cur l : List UInt8) : List (List UInt8) := out ++ consH cur (spl c l)
theorem PP_nil (c : UInt8) (out : List (List UInt8)) (cur : List UInt8) : PP c out cur [] = out ++ [cur] := by simp [PP, spl, consH]
theorem PP_eq {c : UInt8} {out : List (List UInt8)} {cur l : List UInt8} : PP c out cur (c :: l) = PP c (out ++ [cur]) [] l := by
  obtain ⟨x, r, h⟩ := spl_ne c l
  simp [PP, spl, consH, h]
theorem PP_ne {c b : UInt8} {out : List (List UInt8)} {cur l : List UInt8} (hb : b ≠ c) : PP c out cur (b :: l) = PP c out (cur ++ [b]) l := by
  obtain ⟨x, r, h⟩ := spl_ne c l
  simp [PP, spl, consH, h, hb]
theorem ext_data (s : ByteArray) (a b : Nat) : (s.extract a b).data.toList = (s.data.toList.drop a).take (b - a) := by rw [Lib.extract_data]
theorem byteAt_47 {s : ByteArray} {k : Nat} (h : k < s.data.toList.length) : byteAt s k = 47 ↔ s.data.toList[k] = 47 := by
  have hk : k < s.size := by rw [Array.length_toList] at h; exact h
  rw [byteAt_eq hk]
  have e : s[k]'hk = s.data.toList[k] := by rw [Array.getElem_toList]; rfl
  rw [e]
  constructor
  · intro h2
    have h3 : (s.data.toList[k]).toNat = 47 := by omega
    exact UInt8.toNat_inj.1 h3
  · intro h2; rw [h2]; rfl
theorem scan_PP (s : ByteArray) : ∀ k, k ≤ s.size → PP 47 ((scanL s k).1.map (·.data.toList)) (s.extract (scanL s k).2 k).data.toList (s.data.toList.drop k) = spl 47 s.data.toList
  | 0, _ => by
    obtain ⟨x, r, h⟩ := spl_ne 47 s.data.toList
    rw [ext_data]
    simp [PP, scanL, consH, h]
  | k + 1, hk => by
    have ih := scan_PP s k (by omega)
    have hlen : s.data.toList.length = s.size := by rw [Array.length_toList]; rfl
    have hk2 : k < s.data.toList.length := by omega
    rw [List.drop_eq_getElem_cons hk2] at ih
    obtain ⟨out, b, hs⟩ : ∃ out b, scanL s k = (out, b) := ⟨_, _, rfl⟩
    have hb : b ≤ k := by have := (scanL_le s k).1; rw [hs] at this; exact this
    rw [hs] at ih
    simp only at ih
    by_cases h : byteAt s k = 47
    · rw [scanL_yes hs (.inr h)]
      simp only [List.map_append, List.map_cons, List.map_nil]
      rw [(byteAt_47 hk2).1 h, PP_eq] at ih
      rw [ext_data s (k + 1) (k + 1), Nat.sub_self, List.take_zero]
      exact ih
    · rw [scanL_no hs (fun e => e.elim (by omega) h)]
      simp only
      rw [PP_ne (fun e => h ((byteAt_47 hk2).2 e))] at ih
      have e2 : (s.extract b (k + 1)).data.toList = (s.extract b k).data.toList ++ [s.data.toList[k]] := by
        rw [ext_data, ext_data, show k + 1 - b = (k - b) + 1 by omega, List.take_add_one, List.getElem?_drop, show b + (k - b) = k by omega, List.getElem?_eq_getElem hk2]
        rfl
      rw [e2]
      exact ih
theorem rows_spl (s : ByteArray) : (rowsL s).map (·.data.toList) = spl 47 s.data.toList := by
  have h := scan_PP s s.size (Nat.le_refl _)
  have hlen : s.data.toList.length = s.size := by rw [Array.length_toList]; rfl
  rw [List.drop_eq_nil_of_le (by omega), PP_nil] at h
  rw [← h]
  unfold rowsL
  rw [scanL_yes (out := (scanL s s.size).1) (b := (scanL s s.size).2) rfl (.inl rfl)]
  simp
theorem rows_split (s : ByteArray) : rowsL s = Lib.splitB ⟨#[47]⟩ 0 (Lib.countB s ⟨#[47]⟩) s := by
  have h1 := rows_spl s
  have h2 := Lib.splitB_data ⟨#[47]⟩ 0 (Lib.countB s ⟨#[47]⟩) s
  have h3 := split_spl 47 s.data.toList
  unfold Lib.split at h3
  have h4 : (rowsL s).map (·.data.toList) = (Lib.splitB ⟨#[47]⟩ 0 (Lib.countB s ⟨#[47]⟩) s).map (·.data.toList) := by rw [h1, ← h3, h2]
  exact (List.map_inj_right (fun a b e => ba_ext2 e)).1 h4
theorem rows_len (s : ByteArray) : (rowsL s).length = Lib.countB s ⟨#[47]⟩ + 1 := by
  rw [rows_split]
  exact Lib.splitB_all _ (by decide) 0 _ s rfl
end Go.Proofs.YtiopbdodegopdaaDoor
/- The program's ParseLevel: strings.Split by the shelf's contract, then LevelOk. -/
namespace Go.Proofs.YtiopbdodegopdaaDoor
open Go.RowKit

/-- the library's variable that strings.Index reads holds some integer -/
def Mx (w : World) : Prop := ∃ m, w.cell? ⟨1, 0, none⟩ = some (.int .i64 m)
theorem Mx.lt {w : World} (h : Mx w) : 1 < w.heap.size := by
  obtain ⟨m, h⟩ := h
  rcases Nat.lt_or_ge 1 w.heap.size with h' | h'
  · exact h'
  · simp [World.cell?, Array.getElem?_eq_none h'] at h
theorem Mx.below {w w' : World} (h : Mx w) (hb : Below w.heap.size w w') : Mx w' := by
  have hl := h.lt
  obtain ⟨m, h⟩ := h
  exact ⟨m, (hb.cell hl).trans h⟩
set_option maxRecDepth 100000 in
theorem lvok_implL {u : Value} {l : List ByteArray} (w : World) (h : At w 1 u l.length (l.map Value.string)) (hm : l.length ≤ 2000000) (hz : ∀ s ∈ l, s.size ≤ 1048576) :
    Calls Tryd.prog 19 #[.agg #[u]] w fun e w' => e = .returned (.bool (lvT l)) ∧ Below w.heap.size w w' := by
  by_cases hn : l.length ≤ 1048576
  · exact lvok_impl w h hn hz
  · obtain ⟨ao, cap, rfl, hc⟩ := h.cellS
    have HN := Lib.hid (lvT_out (l := l) (by omega))
    clear hc
    go_enter Tryd.func19, Tryd.ntmps19
    go_wp2_with fail
    go_ret
    exact ⟨ret_bool (by rw [HN.out]), (Below.refl _ _).alloc (Nat.le_refl _) _⟩
theorem rows_sz (s : ByteArray) : ∀ r ∈ rowsL s, r.size ≤ s.size := scanL_sz s (s.size + 1)
theorem rows_le (s : ByteArray) : (rowsL s).length ≤ s.size + 1 := (scanL_le s (s.size + 1)).2
theorem split_ret (s : ByteArray) (w : World) (hx : Mx w) (hs : s.size ≤ 1048576) :
    Calls Tryd.prog 32 #[.string s, .string ⟨#[47]⟩] w fun e w' => ∃ u, e = .returned u ∧ Own w' w.heap.size 1 u (rowsL s).length ((rowsL s).map Value.string) ∧ Below w.heap.size w w' := by
  obtain ⟨m, hm⟩ := hx
  refine (Tryd.strings_Split s ⟨#[47]⟩ m w (by omega) hm (by decide)).mono ?_
  rintro e w' ⟨rfl, rfl⟩
  rw [← rows_len, ← rows_split]
  have hle := rows_le s
  exact ⟨_, rfl, Own.lit _ (by simp) (by simp) (Nat.le_refl _) (by unfold maxLen; omega), (Below.refl _ _).alloc (Nat.le_refl _) _⟩
set_option maxRecDepth 100000 in
set_option maxHeartbeats 8000000 in
theorem parse_impl (s : ByteArray) (w : World) (hx : Mx w) (hs : s.size ≤ 1048576) :
    Calls Tryd.prog 13 #[.string s] w fun e w' => ∃ u, e = .returned (.tuple #[.agg #[u], .bool (parT s).2]) ∧ Own w' w.heap.size 1 u (parT s).1.length ((parT s).1.map Value.string) ∧ Below w.heap.size w w' := by
  have HNO := Lib.hid (parT_no (s := s))
  have HYES := Lib.hid (parT_yes (s := s))
  have hrs := rows_sz s
  have hrl := rows_le s
  have HSP : ∀ wx, Below w.heap.size w wx → Calls Tryd.prog 32 #[.string s, .string ⟨#[47]⟩] wx fun e w' => ∃ u, e = .returned u ∧ Own w' wx.heap.size 1 u (rowsL s).length ((rowsL s).map Value.string) ∧ Below wx.heap.size wx w' := fun wx hb => split_ret s wx (hx.below hb) hs
  generalize rowsL s = L at *
  go_enter Tryd.func13, Tryd.ntmps13
  go_upto_region 1 with (fail)
  generalize hw1 : w.alloc _ = w1
  have hb1 : Below w.heap.size w w1 := by rw [← hw1]; exact (Below.refl _ _).alloc (Nat.le_refl _) _
  have c1 : w1.cell? ⟨w.heap.size, 0, none⟩ = some (.slice none 0 0) := by rw [← hw1]; exact World.cell?_alloc_new _ _ _ 0
  have s1 : w.heap.size < w1.heap.size := by rw [← hw1]; simp
  have f1 : w1.frozen? ⟨w.heap.size, 0, none⟩ = false := by rw [← hw1]; simp [World.frozen?_alloc_at]
  clear hw1
  go_wp2_with fail
  refine (HSP _ hb1).mono ?_
  rintro e wa ⟨u, rfl, hu, ha⟩
  obtain ⟨uo, uc, rfl⟩ := hu.slice_
  have hba := hb1.trans (ha.mono hb1.size)
  have ca : wa.cell? ⟨w.heap.size, 0, none⟩ = some (.slice none 0 0) := (ha.cell s1).trans c1
  have fa : wa.frozen? ⟨w.heap.size, 0, none⟩ = false := (ha.frozen s1).trans f1
  have sa : w.heap.size < wa.heap.size := Nat.lt_of_lt_of_le s1 ha.size
  have hu := hu.mono (show w.heap.size + 1 ≤ w1.heap.size by omega)
  clear ha c1 f1 hb1 HSP s1
  go_upto_region 2 with (fail)
  generalize hwb : wa.alloc _ = wb
  have hbb : Below w.heap.size w wb := by rw [← hwb]; exact hba.alloc (Nat.le_of_lt sa) _
  have cb : wb.cell? ⟨w.heap.size, 0, none⟩ = some (.slice none 0 0) := by rw [← hwb]; exact cell_alloc_lt ca _ (by exact sa)
  have fb : wb.frozen? ⟨w.heap.size, 0, none⟩ = false := by rw [← hwb, World.frozen?_alloc_past _ _ _ (by show w.heap.size < _; omega)]; exact fa
  have cl : wb.cell? ⟨wa.heap.size, 0, none⟩ = some (.slice uo L.length uc) := by rw [← hwb]; exact World.cell?_alloc_new _ _ _ 0
  have sb : wa.heap.size < wb.heap.size := by rw [← hwb]; simp
  have hub : Own wb (w.heap.size + 1) 1 (.slice uo L.length uc) L.length (L.map Value.string) := by rw [← hwb]; exact hu.alloc _
  clear hwb hu ca fa hba
  have HLV : Calls Tryd.prog 19 #[.agg #[.slice uo L.length uc]] wb fun e w' => e = .returned (.bool (lvT L)) ∧ Below wb.heap.size wb w' := lvok_implL wb hub.at_ (by omega) (fun r hr => by have := hrs r hr; omega)
  go_wp2_with fail
  refine HLV.mono ?_
  rintro e wx ⟨rfl, hk⟩
  have d0 : wx.cell? ⟨w.heap.size, 0, none⟩ = some (.slice none 0 0) := (hk.cell (p := ⟨w.heap.size, 0, none⟩) (by show w.heap.size < _; omega)).trans cb
  have g0 : wx.frozen? ⟨w.heap.size, 0, none⟩ = false := (hk.frozen (p := ⟨w.heap.size, 0, none⟩) (by show w.heap.size < _; omega)).trans fb
  have d1 : wx.cell? ⟨wa.heap.size, 0, none⟩ = some (.slice uo L.length uc) := (hk.cell (p := ⟨wa.heap.size, 0, none⟩) (by show wa.heap.size < _; omega)).trans cl
  have hbx := hbb.trans (hk.mono hbb.size)
  have hvx := hub.belowS hk
  clear HLV hk cb fb cl sb hub hbb
  cases hok : lvT L with
  | false =>
    have HN := Lib.hid (HNO.out hok)
    obtain ⟨wn, hwn⟩ : ∃ wn, wn = wx.setCell ⟨w.heap.size, 0, none⟩ (.slice none 0 0) := ⟨_, rfl⟩
    have r0 : wn.cell? ⟨w.heap.size, 0, none⟩ = some (.slice none 0 0) := by rw [hwn]; exact World.cell?_setCell_same' _ _ _ (by rw [d0]; rfl)
    have hbn : Below w.heap.size w wn := by rw [hwn]; exact hbx.setCell (Nat.le_refl _) _
    have hxn : Own wn w.heap.size 1 (.slice none 0 0) ([] : List ByteArray).length (([] : List ByteArray).map Value.string) := Own.nil _ _ _
    have HWN := Lib.hid hwn; clear hwn
    go_wp2_with fail
    rw [← HWN.out]
    (try simp only [Exit.inBlock, Exit.then])
    refine bodyPost_ret (by simp [results, Tryd.results13, go_sem, r0]; try rfl) rfl ?_
    exact ⟨_, by rw [HN.out], by rw [HN.out]; exact hxn, hbn⟩
  | true =>
    have HN := Lib.hid (HYES.out hok)
    obtain ⟨wn, hwn⟩ : ∃ wn, wn = wx.setCell ⟨w.heap.size, 0, none⟩ (.slice uo L.length uc) := ⟨_, rfl⟩
    have r0 : wn.cell? ⟨w.heap.size, 0, none⟩ = some (.slice uo L.length uc) := by rw [hwn]; exact World.cell?_setCell_same' _ _ _ (by rw [d0]; rfl)
    have hbn : Below w.heap.size w wn := by rw [hwn]; exact hbx.setCell (Nat.le_refl _) _
    have hxn : Own wn w.heap.size 1 (.slice uo L.length uc) L.length (L.map Value.string) := by rw [hwn]; exact (hvx.mono (by omega)).other (by intro g hg; have := (hvx.ge g hg).1; show g ≠ w.heap.size; omega) _
    have HWN := Lib.hid hwn; clear hwn
    go_wp2_with fail
    rw [← HWN.out]
    (try simp only [Exit.inBlock, Exit.then])
    refine bodyPost_ret (by simp [results, Tryd.results13, go_sem, r0]; try rfl) rfl ?_
    exact ⟨_, by rw [HN.out], by rw [HN.out]; exact hxn, hbn⟩
end Go.Proofs.YtiopbdodegopdaaDoor
